import Derived.Lib.SliceRun
import Derived.Test.YtdhmlillkbjjjaaGreatDoorK
set_option linter.unusedVariables false
set_option linter.unusedSimpArgs false
namespace Go.UL
open Go.RowKit
theorem Ow.take {α : Type} {e : TypeId} {sz base : Nat} {enc : α→List Value} {w : World} {v : Value} {xs : List α} (h : Ow e sz enc base w v xs) {i : Nat} (hi : i≤xs.length) {A : Option Addr} {c : Nat} (hv : v = .slice A xs.length c) :
  Ow e sz enc base w (.slice A i c) (xs.take i):=by
 have hlt : (xs.take i).length = i:=by simp; omega
 have hl2 : ∀ x ∈ xs.take i,(enc x).length = sz:=fun x hx=>h.2.1 x (List.mem_of_mem_take hx)
 have hm : (xs.take i).length≤9223372036854775807:=by have:=h.2.2; omega
 obtain ⟨h1 | ⟨⟨A',hA⟩,hx⟩,hl,_⟩:=h
 ·rcases h1.2 with ⟨hv',hn⟩ | ⟨g,cap,cur,hv',hb,hh,hnc,hcm,hsz,htk⟩
  ·have hx0 : xs = []:=List.eq_nil_of_length_eq_zero hn
   subst hx0
   rw [hv'] at hv; injection hv with e1 e2 e3
   subst e1; subst e3
   have : i = 0:=by simpa using hi
   subst this
   exact ⟨.inr ⟨⟨none,rfl⟩,rfl⟩,by simp,by simp⟩
  ·rw [hv'] at hv; injection hv with e1 e2 e3
   subst e1; subst e3
   have hf:=jF enc sz (xs.take i) hl2
   refine ⟨.inl ⟨hf,.inr ⟨g,cap,cur,by rw [hlt],hb,hh,by omega,hcm,hsz,?_⟩⟩,hl2,hm⟩
   rw [hlt]
   have h2 : i * sz≤xs.length * sz:=Nat.mul_le_mul_right _ hi
   have h3 : cur.toList.take (i * sz) = (cur.toList.take (xs.length * sz)).take (i * sz):=by rw [List.take_take,Nat.min_eq_left h2]
   rw [h3,htk]
   have h4 : xs.flatMap enc = (xs.take i).flatMap enc ++ (xs.drop i).flatMap enc:=by rw [← List.flatMap_append,List.take_append_drop]
   rw [h4,List.take_append_of_le_length (by rw [hf,hlt]; exact Nat.le_refl _)]
   exact List.take_of_length_le (by rw [hf,hlt]; exact Nat.le_refl _)
 ·subst hx
  rw [hA] at hv; injection hv with e1 e2 e3
  subst e1; subst e3
  have : i = 0:=by simpa using hi
  subst this
  exact ⟨.inr ⟨⟨_,rfl⟩,rfl⟩,by simp,by simp⟩
section
variable {P : Program} {N : Nat} {Q : y7} {σ : Fr} {w : World} {ops : Array Oper} {rest : List Oper} {o : Oper}
theorem L_takeO {α : Type} {enc : α→List Value} {e' : TypeId} {sz base d : Nat} {t e : TypeId} {x y : Operand} {v : Value} {xs : List α} {k : IntKind} {i : Nat} (ht : Tk N ops σ o) (hd : o.dst = some d) (hN : d < N) (ho : o.op = .slice t x none (some y) none)
  (hu : P.underlying t = some (.slice e)) (hs : ∀ w,(sizeOf e).run P w = .ok sz w) (hx : ev σ x = v) (hO : Ow e' sz enc base w v xs) (hy : ev σ y = .int k i) (hi : i≤xs.length)
  (h : ∀ u,Ow e' sz enc base w u (xs.take i)→WL P N ops Q rest (upd σ d u) w) : WL P N ops Q (o :: rest) σ w:=by
 obtain ⟨A,c,hv⟩:=hO.rd.shape
 have hcap : xs.length≤c:=by obtain ⟨A',c',hv',⟨hn,_⟩,_⟩:=hO.rd; rw [hv] at hv'; injection hv' with _ _ e; omega
 have hex:=Yq (P:=P) (σ:=σ) (w:=w) (lo:=none) (hi:=some y) (l:=0) (h:=(i : Int)) hu hs (hx.trans hv) rfl ⟨k,hy⟩ (Int.le_refl 0) (by omega) (by omega)
 have hval : (Value.slice (if c = (0 : Int).toNat then A else A.map (·.add ((0 : Int).toNat * sz))) ((i : Int).toNat - (0 : Int).toNat) (c - (0 : Int).toNat)) = .slice A i c:=by
  have h1 : A.map (·.add ((0 : Int).toNat * sz)) = A:=by cases A with
   | none=>rfl
   | some a=>simp [Addr.add]
  rw [h1]; simp
 rw [hval] at hex
 exact yC ht hd hN (by rw [ho]; exact hex) (h _ (hO.take hi hv))
theorem L_clearO {α : Type} {enc : α→List Value} {sz by' base : Nat} {t e : TypeId} {x : Operand} {z : Value} {zr : α} {v : Value} {xs : List α} {i : Nat} {A : Option Addr} {c : Nat} (ht : Tk N ops σ o) (hd : o.dst = none) (ho : o.op = .call { callee:=.builtin .clear,args:=#[x],argTypes:=#[t] })
  (he : ElemI P t e sz by' z) (hz : ∀ w,(zeroValue e).run P w = .ok z w) (hzr : z.cells.toList = enc zr) (h1 : (z.cells.toList.all fun c=>c.oneCell') = true) (hO : Ow e sz enc base w v xs) (hv : v = .slice A xs.length c) (hi : i≤xs.length)
  (hx : ev σ x = .slice (if c = i then A else A.map (·.add (i * sz))) (xs.length - i) (c - i))
  (h : ∀ w1,(∀ W,Below base W w→Below base W w1)→w.heap.size≤w1.heap.size→Ow e sz enc base w1 v (xs.take i ++ List.replicate (xs.length - i) zr)→WL P N ops Q rest σ w1) : WL P N ops Q (o :: rest) σ w:=by
 refine L_gen0 ht fun K a ha hK=>?_
 have hput : ∀ u : Value,(a.put none u) = a:=fun u=>rfl
 by_cases hn : xs.length - i = 0
 ·have hi2 : i = xs.length:=by omega
  have e0 : (execOp (ev σ) o).run P w = .ok (.value (.tuple #[])) w:=by
   obtain ⟨B,hB⟩ : ∃ B,(if c = i then A else A.map (·.add (i * sz))) = B:=⟨_,rfl⟩
   rw [hB] at hx
   unfold execOp; simp only [ho]
   cases B <;> simp [resolve,hx,hn,invoke,builtin,Builtin.clear_,run_underlying he.under]
  rw [e0,Oper.upon_value,hd]
  refine hK _ (h w (fun _ hb=>hb) (Nat.le_refl _) ?_)
  have : xs.take i ++ List.replicate (xs.length - i) zr = xs:=by rw [hi2]; simp
  rw [this]; exact hO
 ·obtain ⟨g,cap,cur,hv',hb,hh,hnc,hcm,hsz,htk⟩:=hO.row (by omega)
  rw [hv'] at hv; injection hv with e1 e2 e3
  subst e1; subst e3
  have hci : ¬ cap = i:=by omega
  have hzc : (Builtin.zeroCells z.cells (xs.length - i)).toList = (List.replicate (xs.length - i) z.cells.toList).flatten:=by
   have:=Xc z.cells (by rw [he.zsize]; exact he.pos) (xs.length - i)
   simpa [Builtin.zeroCells,madeCells] using this
  have hzl : (List.replicate (xs.length - i) z.cells.toList).flatten.length = (xs.length - i) * sz:=by
   have : z.cells.toList.length = sz:=by simpa using he.zsize
   simp [List.length_flatten,this]
  have hones : ∀ c ∈ (List.replicate (xs.length - i) z.cells.toList).flatten,c.oneCell' = true:=by
   intro c hc
   obtain ⟨l,hl,hcl⟩:=List.mem_flatten.1 hc
   rw [List.eq_of_mem_replicate hl] at hcl
   exact List.all_eq_true.1 h1 c hcl
  have hle : i * sz + (xs.length - i) * sz = xs.length * sz:=by rw [← Nat.add_mul]; congr 1; omega
  have hcs : xs.length * sz≤cap * sz:=Nat.mul_le_mul_right _ hnc
  have hst:=run_storeCells_at P g (i * sz) e (List.replicate (xs.length - i) z.cells.toList).flatten 0 cur w hh (by rw [hzl]; omega) hones
  have e0 : (execOp (ev σ) o).run P w = .ok (.value (.tuple #[])) (w.setRow g (cur.toList.take (i * sz) ++ (List.replicate (xs.length - i) z.cells.toList).flatten ++ cur.toList.drop (i * sz + (xs.length - i) * sz)).toArray):=by
   unfold execOp; simp only [ho]
   obtain ⟨m,hm⟩ : ∃ m,xs.length - i = m + 1:=⟨xs.length - i - 1,by omega⟩
   rw [hm] at hx hzc hst ⊢
   rw [hm] at hzl
   simp only [hci,if_false,Option.map_some,Qd,Nat.zero_add] at hx
   simp only [Nat.add_zero,hzl] at hst
   simp [resolve,hx,invoke,builtin,Builtin.clear_,run_underlying he.under,hz,hzc,hst]
  rw [e0,Oper.upon_value,hd]
  have hW:=Wr.of_setRow w g (cur.toList.take (i * sz) ++ (List.replicate (xs.length - i) z.cells.toList).flatten ++ cur.toList.drop (i * sz + (xs.length - i) * sz)).toArray
  refine hK _ (h _ (fun W hB=>Below.trans hB (hW.below hb)) hW.grown.size ?_)
  have hl2 : ∀ y ∈ xs.take i ++ List.replicate (xs.length - i) zr,(enc y).length = sz:=fun y hy=>by
   rcases List.mem_append.1 hy with hy | hy
   ·exact hO.2.1 y (List.mem_of_mem_take hy)
   ·rw [List.eq_of_mem_replicate hy,← hzr]; simpa using he.zsize
  have hlen : (xs.take i ++ List.replicate (xs.length - i) zr).length = xs.length:=by simp; omega
  have hf:=jF enc sz _ hl2
  rw [hlen] at hf
  have hh2:=setRow_heap w g cur (cur.toList.take (i * sz) ++ (List.replicate (xs.length - i) z.cells.toList).flatten ++ cur.toList.drop (i * sz + (xs.length - i) * sz)).toArray e _ hh
  have hcl : cur.toList.length = cap * sz:=by simpa using hsz
  refine ⟨.inl ⟨by rw [hf,hlen],.inr ⟨g,cap,_,by rw [hlen]; exact hv',hb,hh2,by rw [hlen]; exact hnc,hcm,?_,?_⟩⟩,hl2,by rw [hlen]; exact hO.2.2⟩
  ·simp only [List.size_toArray,List.length_append,List.length_take,List.length_drop,hzl,hcl]; omega
  ·have h5 : (xs.take i).flatMap enc = cur.toList.take (i * sz):=by
    have h6 : cur.toList.take (i * sz) = (cur.toList.take (xs.length * sz)).take (i * sz):=by rw [List.take_take,Nat.min_eq_left (by omega)]
    have h7:=jF enc sz (xs.take i) (fun x hx=>hO.2.1 x (List.mem_of_mem_take hx))
    have h8 : (xs.take i).length = i:=by simp; omega
    rw [h8] at h7
    have h4 : xs.flatMap enc = (xs.take i).flatMap enc ++ (xs.drop i).flatMap enc:=by rw [← List.flatMap_append,List.take_append_drop]
    rw [h6,htk,h4,List.take_append_of_le_length (by rw [h7]; exact Nat.le_refl _)]
    exact (List.take_of_length_le (by rw [h7]; exact Nat.le_refl _)).symm
   have h9 : (List.replicate (xs.length - i) zr).flatMap enc = (List.replicate (xs.length - i) z.cells.toList).flatten:=by rw [flat_replicate,hzr]
   rw [hlen,List.flatMap_append,h5,h9,← hf,List.flatMap_append,h5,h9]
   exact List.take_left
theorem X_eqNil {t e : TypeId} {x y : Operand} {A : Option Addr} {n c n' c' u : Nat} (h : P.underlying t = some (.slice e)) (hg : P.eqGuardType P.depth t = false) (hx : ev σ x = .slice A n c) (hy : ev σ y = .slice none n' c') : Ex P σ w (.binOp .eql t x y u) (.bool A.isNone) w:=by
 intro o ho; unfold execOp; simp only [ho]; rw [hx,hy]
 simp [eqGuard,hg,Lib.run_eql_slice_nil w t e A n c n' c' h]
end
end Go.UL
