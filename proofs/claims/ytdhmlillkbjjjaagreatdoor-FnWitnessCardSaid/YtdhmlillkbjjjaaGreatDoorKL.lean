import Derived.Lib.Overlaps
import Derived.Lib.AppendZerosOnto
import Derived.Laws.CopyRow
import Derived.Laws.AppendOwn
import Derived.Test.YtdhmlillkbjjjaaGreatDoorKJ
set_option linter.unusedVariables false
set_option linter.unusedSimpArgs false
namespace Go.UL
open Go.RowKit
theorem Blk.shape {w : World} {b : Nat} {cs : Array Value} {T : TypeId} (h : Blk w b cs T) : w.shape? b = some (T,cs.size):=by unfold World.shape?; rw [h]
theorem Blk.frozen {w : World} {b i : Nat} {cs : Array Value} {T : TypeId} (h : Blk w b cs T) : w.frozen? ⟨b,i,none⟩ = false:=by unfold World.frozen?; simp only; rw [h]; simp
section
variable {P : Program} {N : Nat} {Q : y7} {σ : Fr} {w : World} {ops : Array Oper} {rest : List Oper} {o : Oper}
theorem run_copyB {dT sT ty elem g o sz dLen dCap sLen sCap : Nat} {a : Addr} {cur : Array Value} {t : TypeId} {cs : List Value} (hu : P.underlying dT = some (.slice elem)) (hs : ∀ w,(sizeOf elem).run P w = .ok sz w) (hg : Blk w g cur t)
  (hn : cs.length = Nat.min sLen dLen * sz) (hsrc : ∀ j v,cs[j]? = some v→w.cell? (a.add j) = some v) (hfit : o + cs.length≤cur.size) (h1 : ∀ v ∈ cs,v.oneCell' = true) :
  (Builtin.copy_ #[dT,sT] ty #[.slice (some ⟨g,o,none⟩) dLen dCap,.slice (some a) sLen sCap]).run P w = .ok (goInt (Nat.min sLen dLen)) (w.setRow g (cur.toList.take o ++ cs ++ cur.toList.drop (o + cs.length)).toArray):=by
 have hl:=run_loadCells_list (P:=P) w a cs hsrc
 have hst:=run_storeCells_at P g o t cs 0 cur w hg (by simpa using hfit) h1
 simp only [Nat.add_zero] at hst
 simp [Builtin.copy_,run_underlying hu,Builtin.lenOf,Builtin.firstCells,hs,← hn,hl,hst]
theorem X_copyB {dT sT elem g o sz dLen dCap sLen sCap : Nat} {a : Addr} {cur : Array Value} {t : TypeId} {cs : List Value} {x y : Operand} (hu : P.underlying dT = some (.slice elem)) (hs : ∀ w,(sizeOf elem).run P w = .ok sz w) (hg : Blk w g cur t)
  (hx : ev σ x = .slice (some ⟨g,o,none⟩) dLen dCap) (hy : ev σ y = .slice (some a) sLen sCap)
  (hn : cs.length = Nat.min sLen dLen * sz) (hsrc : ∀ j v,cs[j]? = some v→w.cell? (a.add j) = some v) (hfit : o + cs.length≤cur.size) (h1 : ∀ v ∈ cs,v.oneCell' = true) :
  Ex P σ w (.call { callee:=.builtin .copy,args:=#[x,y],argTypes:=#[dT,sT] }) (goInt (Nat.min sLen dLen)) (w.setRow g (cur.toList.take o ++ cs ++ cur.toList.drop (o + cs.length)).toArray):=by
 intro o' ho; unfold execOp; simp only [ho]
 have hr:=fun ty=>run_copyB (P:=P) (ty:=ty) (sT:=sT) (dCap:=dCap) (sCap:=sCap) hu hs hg hn hsrc hfit h1
 simp [resolve,invoke,builtin,hx,hy,hr,Result.andThen]
theorem XH {d dT sT elem g o' sz dLen dCap sLen sCap : Nat} {a : Addr} {cur : Array Value} {t : TypeId} {cs : List Value} {x y : Operand} (ht : Tk N ops σ o) (hd : o.dst = some d) (hN : d < N) (ho : o.op = .call { callee:=.builtin .copy,args:=#[x,y],argTypes:=#[dT,sT] })
  (hu : P.underlying dT = some (.slice elem)) (hs : ∀ w,(sizeOf elem).run P w = .ok sz w) (hg : Blk w g cur t)
  (hx : ev σ x = .slice (some ⟨g,o',none⟩) dLen dCap) (hy : ev σ y = .slice (some a) sLen sCap)
  (hn : cs.length = Nat.min sLen dLen * sz) (hsrc : ∀ j v,cs[j]? = some v→w.cell? (a.add j) = some v) (hfit : o' + cs.length≤cur.size) (h1 : ∀ v ∈ cs,v.oneCell' = true)
  (h : ∀ w1,Wr g w w1→Blk w1 g (cur.toList.take o' ++ cs ++ cur.toList.drop (o' + cs.length)).toArray t→WL P N ops Q rest (upd σ d (goInt (Nat.min sLen dLen))) w1) : WL P N ops Q (o :: rest) σ w:=
 yC ht hd hN (by rw [ho]; exact X_copyB hu hs hg hx hy hn hsrc hfit h1) (h _ (Wr.of_setRow _ _ _) (setRow_heap w g cur _ t _ hg))
theorem X_cap {x : Operand} {A : Option Addr} {n c : Nat} {t e : TypeId} (hu : P.underlying t = some (.slice e)) (hx : ev σ x = .slice A n c) : Ex P σ w (.call { callee:=.builtin .cap,args:=#[x],argTypes:=#[t] }) (.int .i64 c) w:=by
 intro o ho; unfold execOp; simp only [ho]
 simp [resolve,invoke,builtin,hx,Builtin.cap_,run_underlying hu,goInt]
theorem X_ext {f : Nat} {xs : Array Operand} {ts : Array TypeId} {vs : Array Value} {v : Value} (hvs : xs.toList.map (ev σ) = vs.toList) (hf : (callFunc f vs).run P w = .ok (.value v) w) : Ex P σ w (.call { callee:=.value (.func f),args:=xs,argTypes:=ts }) v w:=by
 intro o ho
 have hvs' : xs.map (ev σ) = vs:=by rw [← Array.toList_inj]; simpa using hvs
 unfold execOp; simp only [ho]
 simp [resolve,ev,Deferred.ofValue,invoke,hvs',hf]
theorem L_appendZ {d : Nat} {x y : Operand} {t tn e sz by' : Nat} {z : Value} {A : Option Addr} {n c k : Nat} {olds : List Value} (ht : Tk N ops σ o) (hd : o.dst = some d) (hN : d < N)
    (ho : o.op = .call { callee:=.builtin .append,args:=#[x,y],argTypes:=#[t,tn] }) (he : ElemI P t e sz by' z) (hn : P.underlying tn = some (.int .i64)) (hx : ev σ x = .slice A n c) (hy : ev σ y = .int .i64 k)
    (hold : (Builtin.firstCells sz n (.slice A n c)).run P w.drew = .ok olds.toArray w.drew) (hlo : olds.length = n * sz) (h0 : 0 < k) (hg : c < n + k) (hb : (n + k) * by'≤140737488355328)
    (h : ∀ b w1 C zs,w.heap.size = b→Ext w w1→n + k≤C→C≤maxLen→(olds ++ zs).length = C * sz→Blk w1 b (olds ++ zs).toArray e→WL P N ops Q rest (upd σ d (.slice (some ⟨b,0,none⟩) (n + k) C)) w1) : WL P N ops Q (o :: rest) σ w:=by
  obtain ⟨hu,⟨i,hi,hz,hsz,hby⟩,hzs,hpos,hbp⟩:=he
  have hml : n + k≤140737488355328:=Nat.le_trans (Nat.le_mul_of_pos_right _ hbp) hb
  have hr:=fun ty=>Lib.run_append_grow_zeros (P:=P) w t tn ty e i z .i64 .i64 hu hn hi hz A n c olds (by rw [hsz]; exact hold) k h0 (by omega) hg (by omega)
    (by rw [hby]; have : k * by' ≤ (n + k) * by' := Nat.mul_le_mul_right _ (by omega)
        omega) (by rw [hby]; exact growslice_fits hg hb)
  have hC:=grownCap_ge w (n + k) c e
  have hC2:=grownCap_le_maxLen w (n + k) c e (by unfold maxLen; omega)
  have hzc : ∀ m,(Builtin.zeroCells z.cells m).size = m * sz:=fun m=>by simp [Builtin.zeroCells,hzs]
  refine yC ht hd hN (v:=.slice (some ⟨w.heap.size,0,none⟩) (n + k) (grownCap w (n + k) c e)) (w1:=w.drew.alloc (.cells (olds.toArray ++ Builtin.zeroCells z.cells k ++ Builtin.zeroCells z.cells (grownCap w (n + k) c e - (n + k))) e)) ?_
    (h w.heap.size _ (grownCap w (n + k) c e) ((Builtin.zeroCells z.cells k).toList ++ (Builtin.zeroCells z.cells (grownCap w (n + k) c e - (n + k))).toList) rfl (Ext.trans (Ext.drew w) (Ext.alloc _ _)) hC hC2 ?_ ?_)
  · intro o' ho'
    unfold execOp
    simp only [ho',ho,resolve,invoke,builtin,Sem.run_bind,Sem.run_pure,Result.andThen_ok,List.map_toArray,List.map_cons,List.map_nil,hx,hy]
    have:=hr o'.type
    simp only [this,Result.andThen_ok]
  · have h1:=hzc k
    have h2:=hzc (grownCap w (n + k) c e - (n + k))
    simp only [List.length_append,Array.length_toList,h1,h2,hlo,← Nat.add_mul]
    congr 1; omega
  · have : (olds ++ ((Builtin.zeroCells z.cells k).toList ++ (Builtin.zeroCells z.cells (grownCap w (n + k) c e - (n + k))).toList)).toArray = olds.toArray ++ Builtin.zeroCells z.cells k ++ Builtin.zeroCells z.cells (grownCap w (n + k) c e - (n + k)):=by
      rw [← Array.toList_inj]; simp
    rw [this]
    exact Q0 w.drew _ e
theorem Ex.cast {op : Op} {v v' : Value} {w1 : World} (h : Ex P σ w op v w1) (e : v = v') : Ex P σ w op v' w1:=e ▸ h
theorem VF {t e : TypeId} {x : Operand} {lo hi : Option Operand} {g o' n c sz l h : Nat} (hu : P.underlying t = some (.slice e)) (hs : ∀ w,(sizeOf e).run P w = .ok sz w) (hx : ev σ x = .slice (some ⟨g,o',none⟩) n c) (hl : bnd σ lo 0 (l : Int)) (hh : bnd σ hi n (h : Int))
  (h0 : l < c∨l = 0) (h1 : l≤h) (h2 : h≤c) : Ex P σ w (.slice t x lo hi none) (.slice (some ⟨g,o' + l * sz,none⟩) (h - l) (c - l)) w:=by
 refine (Yq (l:=(l : Int)) (h:=(h : Int)) hu hs hx hl hh (by omega) (by omega) (by omega)).cast ?_
 have : (if c = (l : Int).toNat then (some ⟨g,o',none⟩ : Option Addr) else Option.map (fun x : Addr=>x.add ((l : Int).toNat * sz)) (some ⟨g,o',none⟩)) = some ⟨g,o' + l * sz,none⟩:=by
  by_cases hc : c = (l : Int).toNat
  ·have : l = 0:=by
    rcases h0 with h0 | h0
    ·simp at hc; omega
    ·exact h0
   subst this
   rw [if_pos hc]; simp
  ·rw [if_neg hc,Option.map_some,Qd]; simp
 rw [this]; simp
end
def Apart (u v : Value) : Prop:=(∃ A,u = .slice A 0 0)∨∀ g b,u.ownBlock = some g→v.ownBlock = some b→b ≠ g
def Ja {α : Type} (xs : List α) (i : Nat) (x : α) : List α:=xs.take i ++ x :: xs.drop i
theorem insAt_len {α : Type} (xs : List α) (i : Nat) (x : α) (h : i≤xs.length) : (Ja xs i x).length = xs.length + 1:=by simp [Ja]; omega
theorem ins_flat {α : Type} (enc : α→List Value) (xs : List α) (i : Nat) (x : α) : (Ja xs i x).flatMap enc = (xs.take i).flatMap enc ++ (enc x ++ (xs.drop i).flatMap enc):=by simp [Ja]
theorem ins_room {T X D R : List Value} {a m : Nat} (hT : T.length = a) (hX : X.length = m) (hR : m≤R.length) :
  (((T ++ D ++ R).take (a + m) ++ D ++ (T ++ D ++ R).drop (a + m + D.length)).take a ++ X ++ ((T ++ D ++ R).take (a + m) ++ D ++ (T ++ D ++ R).drop (a + m + D.length)).drop (a + X.length)) = T ++ (X ++ D) ++ R.drop m:=by
 have hl : ((T ++ D ++ R).take (a + m)).length = a + m:=by simp; omega
 have h1 : ((T ++ D ++ R).take (a + m) ++ D ++ (T ++ D ++ R).drop (a + m + D.length)).take a = T:=by
  rw [List.append_assoc,List.take_append_of_le_length (by omega),List.take_take,Nat.min_eq_left (by omega),List.append_assoc,List.take_append_of_le_length (by omega),← hT]
  exact List.take_length
 have h2 : ((T ++ D ++ R).take (a + m) ++ D ++ (T ++ D ++ R).drop (a + m + D.length)).drop (a + X.length) = D ++ (T ++ D ++ R).drop (a + m + D.length):=by
  rw [hX,List.append_assoc]
  have : a + m = ((T ++ D ++ R).take (a + m)).length:=hl.symm
  rw [this]
  simp
 have h3 : (T ++ D ++ R).drop (a + m + D.length) = R.drop m:=by
  have : a + m + D.length = (T ++ D).length + m:=by simp; omega
  rw [this,List.drop_length_add_append]
 rw [h1,h2,h3]; simp
theorem ins_grow {T X D Z : List Value} {a m : Nat} (hT : T.length = a) (hX : X.length = m) (hZ : m≤Z.length) :
  (((T ++ Z).take a ++ X ++ (T ++ Z).drop (a + X.length)).take (a + m) ++ D ++ ((T ++ Z).take a ++ X ++ (T ++ Z).drop (a + X.length)).drop (a + m + D.length)) = T ++ (X ++ D) ++ Z.drop (m + D.length):=by
 have h1 : (T ++ Z).take a = T:=by rw [← hT]; simp
 have h2 : (T ++ Z).drop (a + X.length) = Z.drop m:=by
  rw [hX,← hT,List.drop_length_add_append]
 rw [h1,h2]
 have h3 : (T ++ X ++ Z.drop m).take (a + m) = T ++ X:=by
  have : a + m = (T ++ X).length:=by simp; omega
  rw [this]; exact List.take_left
 have h4 : (T ++ X ++ Z.drop m).drop (a + m + D.length) = Z.drop (m + D.length):=by
  have : a + m + D.length = (T ++ X).length + D.length:=by simp; omega
  rw [this,List.drop_length_add_append,List.drop_drop]
 rw [h3,h4]; simp
theorem Ow.of_row {α : Type} {e : TypeId} {sz B g C : Nat} {enc : α→List Value} {w : World} {row R : List Value} {ys : List α} (hB : B≤g) (hh : Blk w g row.toArray e) (hrow : row = ys.flatMap enc ++ R) (hl : ∀ y ∈ ys,(enc y).length = sz) (h1 : ys.length≤C) (h2 : C≤maxLen) (h3 : row.length = C * sz) :
  Ow e sz enc B w (.slice (some ⟨g,0,none⟩) ys.length C) ys:=by
 have hf:=jF enc sz ys hl
 refine ⟨.inl ⟨hf,.inr ⟨g,C,row.toArray,rfl,hB,hh,h1,h2,by simpa using h3,?_⟩⟩,hl,by unfold maxLen at h2; omega⟩
 simp only
 rw [hrow,← hf,List.take_left]
end Go.UL
