import Derived.Test.YtdhmlillkbjjjaaGreatDooryP30
set_option linter.unusedVariables false
set_option linter.unusedSimpArgs false
namespace Go.UL
open Go.RowKit
def viewR (l : List Rec) (p : List UInt8) : Option (Option Nd):=match Qj l p with
 | some r=>some (showR r)
 | none=>if cutsR l p then some none else none
theorem X5 {p : List UInt8} (h : qe p ≠ []) : yv p = qe p :: yv (qe p):=by rw [y4,if_neg h]
theorem XR {p : List UInt8} (h : qe p = []) : yv p = []:=by rw [y4,if_pos h]
theorem ancs_ok {p x : List UInt8} (hp : qI p = true) (hx : x ∈ yv p) : qI x = true:=J5 hp (VJ hx)
theorem Sheet.path {l : List Rec} (hs : Sheet l) {p : List UInt8} {r : Rec} (h : Qj l p = some r) : qI p = true:=by
 obtain ⟨h1,h2⟩:=XA h
 rw [← h2]; exact jW (hs.ok r h1)
theorem pigeon {α : Type} [DecidableEq α] : ∀ (l m : List α),l.Nodup→(∀ x ∈ l,x ∈ m)→l.length≤m.length:=by
 intro l
 induction l with
 | nil=>intro m _ _; simp
 | cons x l ih=>
  intro m hd hs
  have hx:=hs x (by simp)
  have h1:=List.nodup_cons.1 hd
  have h2:=ih (m.erase x) h1.2 fun y hy=>(List.mem_erase_of_ne (fun e=>h1.1 (by rw [← e]; exact hy))).2 (hs y (by simp [hy]))
  rw [List.length_erase_of_mem hx] at h2
  have : 0 < m.length:=List.length_pos_of_mem hx
  simp only [List.length_cons]; omega
def Qo (i : Nat) : List UInt8:=[122,UInt8.ofNat (97 + i / 16),UInt8.ofNat (97 + i % 16)]
theorem freeN_ok : ∀ i,i < 256→yi (Qo i) = true:=by
 have h : (List.range 256).all (fun i=>yi (Qo i)) = true:=by decide +kernel
 intro i hi
 exact (List.all_eq_true.1 h) i (List.mem_range.2 hi)
theorem Jv : ∀ i,i < 256→cut 47 (Qo i) = [Qo i]:=by
 have h : (List.range 256).all (fun i=>decide (cut 47 (Qo i) = [Qo i])) = true:=by decide +kernel
 intro i hi
 exact of_decide_eq_true ((List.all_eq_true.1 h) i (List.mem_range.2 hi))
theorem XQ {i j : Nat} (hi : i < 256) (hj : j < 256) (h : Qo i = Qo j) : i = j:=by
 unfold Qo at h
 injection h with _ h
 injection h with h1 h
 injection h with h2 _
 have e1:=congrArg UInt8.toNat h1
 have e2:=congrArg UInt8.toNat h2
 simp only [UInt8.toNat_ofNat'] at e1 e2
 omega
theorem joinL_le : ∀ (l : List (List UInt8)),(∀ x ∈ l,x.length≤8)→(vO l).length≤9 * l.length - 1:=by
 intro l
 induction l with
 | nil=>intro _; simp [vO]
 | cons x l ih=>
  intro h
  have h1:=h x (by simp)
  have h2:=ih fun y hy=>h y (by simp [hy])
  by_cases e : l = []
  ·subst e; simp [vO]; omega
  ·rw [jM x e]
   have:=List.length_pos_iff.2 e
   simp only [List.length_append,List.length_cons]; omega
theorem YJ {p : List UInt8} (h : qI p = true) : (cut 47 p).length≤4∧∀ x ∈ cut 47 p,yi x = true:=by
 simp only [qI,Bool.and_eq_true,decide_eq_true_eq,List.all_eq_true] at h
 exact ⟨h.2.1,h.2.2⟩
theorem child_ok {x part : List UInt8} (hx : qI x = true) (hd : (cut 47 x).length < 4) (hp : yi part = true) (hc : cut 47 part = [part]) : qI (x ++ 47 :: part) = true∧qe (x ++ 47 :: part) = x:=by
 have hcut : cut 47 (x ++ 47 :: part) = cut 47 x ++ [part]:=by rw [Ja,hc]
 obtain ⟨h1,h2⟩:=YJ hx
 have h3:=joinL_le (cut 47 x) fun y hy=>VE (h2 y hy)
 rw [jT] at h3
 have h4:=VE hp
 have hok : qI (x ++ 47 :: part) = true:=by
  simp only [qI,Bool.and_eq_true,decide_eq_true_eq,List.all_eq_true,hcut]
  refine ⟨by simp; omega,by simp; omega,fun y hy=>?_⟩
  rcases List.mem_append.1 hy with hy | hy
  ·exact h2 y hy
  ·rw [List.mem_singleton.1 hy]; exact hp
 refine ⟨hok,?_⟩
 have hb : y6 (x ++ 47 :: part) x = true:=(jp _ _).2 ⟨[part],by simp,hcut⟩
 obtain ⟨g1,g2 | g2⟩:=YL hok hb
 ·exact g2
 ·have g3:=GO g2
  rw [Jl g1,hcut] at g3
  simp at g3
theorem fresh {a b : List Rec} (hlen : a.length + b.length < 256) {x : List UInt8} (hx : qI x = true) (hd : (cut 47 x).length < 4) :
  ∃ q,qI q = true∧qe q = x∧Qj a q = none∧Qj b q = none:=by
 have key : ∃ i,i < 256∧(x ++ 47 :: Qo i) ∉ a.map (·.path) ++ b.map (·.path):=by
  refine Classical.byContradiction fun hno=>?_
  have hall : ∀ i,i < 256→(x ++ 47 :: Qo i) ∈ a.map (·.path) ++ b.map (·.path):=fun i hi=>Classical.byContradiction fun h=>hno ⟨i,hi,h⟩
  have hnd : ((List.range 256).map fun i=>x ++ 47 :: Qo i).Nodup:=by
   refine List.pairwise_map.2 (List.Pairwise.imp_of_mem (R:=fun i j=>i < j) (fun {i j} hi hj hlt e=>?_) List.pairwise_lt_range)
   have h1:=List.append_cancel_left e
   injection h1 with _ h1
   have:=XQ (List.mem_range.1 hi) (List.mem_range.1 hj) h1
   omega
  have hle:=pigeon _ _ hnd fun y hy=>by
   obtain ⟨i,hi,rfl⟩:=List.mem_map.1 hy
   exact hall i (List.mem_range.1 hi)
  simp at hle
  omega
 obtain ⟨i,hi,hni⟩:=key
 obtain ⟨h1,h2⟩:=child_ok hx hd (freeN_ok i hi) (Jv i hi)
 rw [List.mem_append,not_or] at hni
 refine ⟨_,h1,h2,?_,?_⟩
 ·cases h : Qj a (x ++ 47 :: Qo i) with
  | none=>rfl
  | some r=>exact absurd (Vh.1 (by rw [h]; simp)) hni.1
 ·cases h : Qj b (x ++ 47 :: Qo i) with
  | none=>rfl
  | some r=>exact absurd (Vh.1 (by rw [h]; simp)) hni.2
set_option linter.unusedSectionVars false
section
variable {a b : List Rec} (ha : Sheet a) (hb : Sheet b) (hlen : a.length + b.length < 256) (hv : ∀ p, qI p = true → viewR a p = viewR b p)
include ha hb hlen hv
end
theorem Sheet.nil : Sheet []:=⟨List.Pairwise.nil,by simp,by simp⟩
def fileT (p : List UInt8) : List Nd:=((yv p).reverse.map fun q=>(⟨3,q,[],0⟩ : Nd)) ++ [⟨1,p,[],0⟩]
def digs (i : Nat) : List UInt8:=if i < 10 then [UInt8.ofNat (48 + i)] else [UInt8.ofNat (48 + i / 10),UInt8.ofNat (48 + i % 10)]
def nmP (p : List UInt8) (i : Nat) : List UInt8:=VY p (122 :: digs i)
def isFree (x y : List Rec) (p : List UInt8) (i : Nat) : Bool:=decide (yR x (nmP p i) < 0) && decide (yR y (nmP p i) < 0)
def freeI (x y : List Rec) (p : List UInt8) : Nat:=((List.range 100).find? (isFree x y p)).getD 0
theorem X9 (l : List Rec) (p : List UInt8) : yR l p < 0 ↔ Qj l p = none:=by
 have h:=(VG l p).1
 constructor
 ·intro h1
  cases hl : Qj l p with
  | none=>rfl
  | some r=>exact absurd (h.2 (by rw [hl]; simp)) (by omega)
 ·intro h1
  refine Classical.byContradiction fun h2=>h.1 (by omega) h1
def VA (l : List Rec) (p : List UInt8) : Rec:=if 0≤yR l p then gt l (yR l p) else zeroR
def witP (x y : List Rec) (p : List UInt8) : List Nd:=
 if ((VA x p).kind = 4∧(VA y p).kind = 0)∨((VA x p).kind = 0∧(VA y p).kind = 4) then fileT p
 else if (VA x p).kind = 3∧(VA y p).kind = 3∧(VA x p).mode = (VA y p).mode then fileT (nmP p (freeI x y p)) else []
theorem Xi {r : Rec} (h : qR r = 0) : r.kind = 1∨r.kind = 2∨r.kind = 3∨r.kind = 4:=by
 have h1:=((Jg r).1 h).1
 simp only [within,Bool.and_eq_true,decide_eq_true_eq] at h1
 omega
set_option linter.unusedSectionVars false
section
variable {x y : List Rec} (hx : Sheet x) (hy : Sheet y) (cx : Yn x = x) (cy : Yn y = y) {p : List UInt8} (hp : qI p = true) (hlt : ∀ q, ltP q p = true → Qj x q = Qj y q)
include hx hy cx cy hp hlt
end
end Go.UL
