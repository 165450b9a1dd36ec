import Derived.Test.YtdhmlillkbjjjaaGreatDoorqP12
set_option linter.unusedVariables false
set_option linter.unusedSimpArgs false
namespace Go.UL
open Go.RowKit
theorem QT {l : List Rec} (h : (qC l).2 = 0) : ∀ i, i < l.length → ji l i = 0 := by
 unfold qC at h
 cases hf : (List.range l.length).findSome? (fun i => if ji l i = 0 then none else some ((i : Int), ji l i)) with
 | none =>
  intro i hi
  have := List.findSome?_eq_none_iff.1 hf i (List.mem_range.2 hi)
  by_cases hc : ji l i = 0
  ·exact hc
  ·simp [hc] at this
 | some x =>
  rw [hf] at h
  obtain ⟨i, _, hi⟩ := List.exists_of_findSome?_eq_some hf
  by_cases hc : ji l i = 0
  ·simp [hc] at hi
  ·simp only [hc, if_false, Option.some.injEq] at hi
   subst hi
   exact absurd h hc
theorem layerFault_of {l : List Rec} (h : ∀ i, i < l.length → ji l i = 0) : qC l = (0, 0) := by
 unfold qC
 have : (List.range l.length).findSome? (fun i => if ji l i = 0 then none else some ((i : Int), ji l i)) = none := by
  apply List.findSome?_eq_none_iff.2
  intro i hi
  simp [h i (List.mem_range.1 hi)]
 rw [this]
theorem GK {l : List Rec} (h : (qC l).2 = 0) : ∀ x ∈ l, qz x = 0 := by
 intro x hx
 obtain ⟨i, hi, rfl⟩ := List.getElem_of_mem hx
 have := XL (QT h i hi)
 rwa [vr hi] at this
theorem layerOK_path {l : List Rec} (h : (qC l).2 = 0) : ∀ x ∈ l, qE x.path = true := fun x hx => yr (GK h x hx)
theorem QH {l : List Rec} (h : (qC l).2 = 0) : l.length ≤ 16 := by
 by_cases hc : l.length ≤ 16
 ·exact hc
 ·have := QT h 16 (by omega)
  simp [ji] at this
theorem J6 {p : List UInt8} (h : qE p = true) : (cut 47 p).length ≤ 4 := by
 simp only [qE, Bool.and_eq_true, decide_eq_true_eq] at h
 exact h.2.1
def jZ (l : List Rec) (r : Rec) : Option Rec :=
 if jg l r.path then (if r.kind = 4 then none else some ⟨r.kind, r.path, r.body, r.mode, false⟩) else some ⟨r.kind, r.path, r.body, r.mode, r.opq && decide ((cut 47 r.path).length < 4)⟩
def jY (l : List Rec) : List Rec := l.filterMap (jZ l)
theorem canonL_len (l : List Rec) : (jY l).length ≤ l.length := List.length_filterMap_le _ _
def yt.b1 (a0 : List Rec) : List Rec × Int → Option (Step (List Rec) (List Rec × Int) (List Rec)) :=
 fun q => match q with
 | (x3_7, x4_9) => bif (decide (x4_9 < (a0.length : Int))) then (bif inR x4_9 a0.length then (bif decide (a0.length ≤ 1048576) then (bif decide (((gt a0 x4_9).path).length ≤ 1048576) then (bif (!(jg a0 ((gt a0 x4_9).path))) then (((bif ((gt a0 x4_9).opq) then (bif decide (((gt a0 x4_9).path).length ≤ 1048576) then (some (decide (((cut 47 ((gt a0 x4_9).path)).length : Int) < 4))) else none) else some false)).bind fun z49 => bif decide ((x3_7.length + ([(⟨(gt a0 x4_9).kind, (gt a0 x4_9).path, (gt a0 x4_9).body, (gt a0 x4_9).mode, z49⟩ : Rec)] : List Rec).length) * 56 ≤ 140737488355328) then (some (.nxt (x3_7 ++ ([(⟨(gt a0 x4_9).kind, (gt a0 x4_9).path, (gt a0 x4_9).body, (gt a0 x4_9).mode, z49⟩ : Rec)] : List Rec), IntKind.wrap .i64 (x4_9 + 1)))) else none) else (bif (!decide (((gt a0 x4_9).kind) = 4)) then (bif decide ((x3_7.length + ([(⟨(gt a0 x4_9).kind, (gt a0 x4_9).path, (gt a0 x4_9).body, (gt a0 x4_9).mode, false⟩ : Rec)] : List Rec).length) * 56 ≤ 140737488355328) then (some (.nxt (x3_7 ++ ([(⟨(gt a0 x4_9).kind, (gt a0 x4_9).path, (gt a0 x4_9).body, (gt a0 x4_9).mode, false⟩ : Rec)] : List Rec), IntKind.wrap .i64 (x4_9 + 1)))) else none) else (some (.nxt (x3_7, IntKind.wrap .i64 (x4_9 + 1)))))) else none) else none) else none) else (some (.brk x3_7))
def yt.sh (k : Nat) (a0 : List Rec) : Option (List Rec) :=
  (qn (yt.b1 a0) k (([] : List Rec), 0)).bind fun z => match z with | .inl t => some t | .inr x3_13 => some x3_13
theorem yt.eq (a0 : List Rec) (h0 : a0.length ≤ 1048576) (h1 : ∀ x ∈ a0, qE x.path = true) : ∃ k, yt.sh k a0 = some (jY a0) := by
 refine ⟨a0.length + 1, ?_⟩
 unfold yt.sh
 rw [VH a0 (jZ a0) (yt.b1 a0) (fun i hi acc ha => by
  have hp := yG (h1 _ (List.getElem_mem hi))
  have e1 : ∀ z : Rec, (acc.length + ([z] : List Rec).length) * 56 ≤ 140737488355328 := fun z => by simp; omega
  have e4 : decide (((cut 47 a0[i].path).length : Int) < 4) = decide ((cut 47 a0[i].path).length < 4) := by rw [decide_eq_decide]; omega
  simp only [yt.b1, y9, hi, decide_true, cond_true, qP hi, vK, vr hi, h0, hp, e1, e4, vF hi (by omega), jZ]
  rcases ql (jg a0 a0[i].path) with hu | hu
  ·by_cases hk : a0[i].kind = 4 <;> simp [hu, hk]
  ·rcases ql a0[i].opq with ho | ho <;> simp [hu, ho]) (fun acc => by simp [yt.b1])]
 simp [jY]
def vZ.b1 (a0 : List Rec) : List Rec × Int → Option (Step (List Rec) (List Rec × Int) (List Rec)) :=
 fun q => match q with
 | (x3_7, x10_9) => bif (decide (x10_9 < (a0.length : Int))) then (bif inR x10_9 a0.length then (bif decide (a0.length ≤ 1048576) then (bif decide (((gt a0 x10_9).path).length ≤ 1048576) then (bif ((jg a0 ((gt a0 x10_9).path)) && (decide (((gt a0 x10_9).kind) = 4))) then (some (.nxt (x3_7, IntKind.wrap .i64 (x10_9 + 1)))) else (((bif (jg a0 ((gt a0 x10_9).path)) then some true else (bif decide (((gt a0 x10_9).path).length ≤ 1048576) then (some (decide (((cut 47 ((gt a0 x10_9).path)).length : Int) = 4))) else none))).bind fun z55 => bif z55 then (bif decide ((x3_7.length + ([(⟨(gt a0 x10_9).kind, (gt a0 x10_9).path, (gt a0 x10_9).body, (gt a0 x10_9).mode, false⟩ : Rec)] : List Rec).length) * 56 ≤ 140737488355328) then (some (.nxt (x3_7 ++ ([(⟨(gt a0 x10_9).kind, (gt a0 x10_9).path, (gt a0 x10_9).body, (gt a0 x10_9).mode, false⟩ : Rec)] : List Rec), IntKind.wrap .i64 (x10_9 + 1)))) else none) else (bif decide ((x3_7.length + ([(gt a0 x10_9)] : List Rec).length) * 56 ≤ 140737488355328) then (some (.nxt (x3_7 ++ ([(gt a0 x10_9)] : List Rec), IntKind.wrap .i64 (x10_9 + 1)))) else none))) else none) else none) else none) else (some (.brk x3_7))
def vZ.sh (k : Nat) (a0 : List Rec) : Option (List Rec) :=
  (qn (vZ.b1 a0) k (([] : List Rec), 0)).bind fun z => match z with | .inl t => some t | .inr x3_13 => some x3_13
theorem vZ.eq (a0 : List Rec) (h0 : a0.length ≤ 1048576) (h1 : ∀ x ∈ a0, qE x.path = true) : ∃ k, vZ.sh k a0 = some (jY a0) := by
 refine ⟨a0.length + 1, ?_⟩
 unfold vZ.sh
 rw [VH a0 (jZ a0) (vZ.b1 a0) (fun i hi acc ha => by
  have hpo := h1 _ (List.getElem_mem hi)
  have hp := yG hpo
  have hd := J6 hpo
  have e1 : ∀ z : Rec, (acc.length + ([z] : List Rec).length) * 56 ≤ 140737488355328 := fun z => by simp; omega
  have e4 : decide (((cut 47 a0[i].path).length : Int) = 4) = !decide ((cut 47 a0[i].path).length < 4) := by
   by_cases h : (cut 47 a0[i].path).length < 4
   ·have : ¬ ((cut 47 a0[i].path).length : Int) = 4 := by omega
    simp [h, this]
   ·have : ((cut 47 a0[i].path).length : Int) = 4 := by omega
    simp [h, this]
  simp only [vZ.b1, y9, hi, decide_true, cond_true, qP hi, vK, vr hi, h0, hp, e1, e4, vF hi (by omega), jZ]
  rcases ql (jg a0 a0[i].path) with hu | hu
  ·by_cases hk : a0[i].kind = 4 <;> simp [hu, hk]
  ·by_cases h4 : (cut 47 a0[i].path).length < 4 <;> simp [hu, h4]) (fun acc => by simp [vZ.b1])]
 simp [jY]
def vi (l : List (List Rec)) : Bool := decide (l.length ≤ 5) && l.all fun x => decide ((qC x).2 = 0)
theorem Gl (l : List Rec) : decide ((vU l).2 = 0) = decide ((qC l).2 = 0) := by
 unfold vU
 by_cases h : 4096 < l.length
 ·have : ¬ (qC l).2 = 0 := fun hf => by have := QH hf; omega
  simp [h, this]
 ·simp [h]
def ye.b1 (a0 : List (List Rec)) : Int → Option (Step (Bool) (Int) (Unit)) :=
 fun x3_2 => bif (decide (x3_2 < (a0.length : Int))) then (bif inR x3_2 a0.length then (bif decide ((gt a0 x3_2).length ≤ 1048576) then (bif decide (∀ x ∈ (gt a0 x3_2), x.path.length ≤ 1048576) then (bif (!(decide ((qC (gt a0 x3_2)).2 = 0))) then (some (.ret false)) else (some (.nxt (IntKind.wrap .i64 (x3_2 + 1))))) else none) else none) else none) else (some (.brk ()))
def ye.sh (k : Nat) (a0 : List (List Rec)) : Option (Bool) :=
  bif (decide (5 < (a0.length : Int))) then (some false) else ((qn (ye.b1 a0) k 0).bind fun z => match z with | .inl t => some t | .inr _ => some true)
theorem ye.eq (a0 : List (List Rec)) (h0 : a0.length ≤ 1048576) (h1 : ∀ l ∈ a0, l.length ≤ 1048576) (h2 : ∀ l ∈ a0, ∀ x ∈ l, x.path.length ≤ 1048576) : ∃ k, ye.sh k a0 = some (vi a0) := by
 refine ⟨a0.length + 1, ?_⟩
 unfold ye.sh vi
 by_cases hl : a0.length ≤ 5
 ·have hl' : ¬ (5 : Int) < (a0.length : Int) := by omega
  simp only [hl', decide_false, cond_false]
  have hb : ∀ i : Nat, i < a0.length → ye.b1 a0 i = some (sc (if !decide ((qC (a0.getD i default)).2 = 0) then some false else none : Option Bool) ((i : Int) + 1)) := by
   intro i hi
   have e := h1 a0[i] (List.getElem_mem hi)
   have e2 := h2 a0[i] (List.getElem_mem hi)
   have eg : a0.getD i default = gt a0 (i : Int) := rfl
   rw [← vr hi, eg] at e e2
   rw [eg]
   simp only [ye.b1, y9, hi, decide_true, cond_true, qP hi, e, decide_eq_true e2, vF hi (by omega)]
   by_cases hf : (qC (gt a0 (i : Int))).2 = 0
   ·simp only [hf, decide_true, Bool.not_true, cond_false, Bool.false_eq_true, if_false, Jg]
   ·simp only [hf, decide_false, Bool.not_false, cond_true, if_true, Jh]
  rw [jT a0.length _ hb (by simp [ye.b1]) _ (by omega), Jj a0 default (fun x => !decide ((qC x).2 = 0)) false]
  have hna : (a0.any fun x => !decide ((qC x).2 = 0)) = !(a0.all fun x => decide ((qC x).2 = 0)) := by rw [List.not_all_eq_any_not]
  rw [hna]
  simp only [hl, decide_true, Bool.true_and]
  cases (a0.all fun x => decide ((qC x).2 = 0)) <;> simp
 ·have hl' : (5 : Int) < (a0.length : Int) := by omega
  simp [hl', hl]
def jx.sh (a0 : List Rec) (a1 : List Rec → Option Bool) : Option (Bool) :=
 (a1 a0).bind fun z1 => some (!z1)
theorem jx.eq (a0 : List Rec) (a1 : List Rec → Option Bool) {r : Bool} (H : ((a1 a0).map (!·)) = some r) : jx.sh a0 a1 = some r := by
 unfold jx.sh
 cases h : a1 a0 with
 | none => rw [h] at H; cases H
 | some z => rw [h] at H; exact H
def qS.b1 (a0 : List (List Rec)) (a1 : List Rec → Option Bool) : Int → Option (Step (Int) (Int) (Unit)) :=
 fun x8_1 => bif (decide (x8_1 < (a0.length : Int))) then (bif inR x8_1 a0.length then ((a1 (gt a0 x8_1)).bind fun z24 => bif z24 then (some (.ret x8_1)) else (some (.nxt (IntKind.wrap .i64 (x8_1 + 1))))) else none) else (some (.brk ()))
def qS.sh (k : Nat) (a0 : List (List Rec)) (a1 : List Rec → Option Bool) : Option (Int) :=
  (qn (qS.b1 a0 a1) k 0).bind fun z => match z with | .inl t => some t | .inr _ => some (-1)
theorem qS.eq (a0 : List (List Rec)) (a1 : List Rec → Option Bool) (h : a0.length ≤ 4611686018427387904) {r : Int} (H : VV a1 a0 = some r) : ∃ k, qS.sh k a0 a1 = some r := by
 refine ⟨a0.length + 1, ?_⟩
 have := Yx a0 a0.length 0 (by omega) r (by simpa using H) (qS.b1 a0 a1) (fun i hi => by
  simp only [qS.b1, y9, hi, decide_true, cond_true, qP hi, vK, vF hi h]) (by simp [qS.b1]) (a0.length + 1) (by omega)
 simp only [Int.natCast_zero] at this
 unfold qS.sh
 rw [this]
 by_cases hr : r = -1
 ·simp [hr]
 ·simp [hr]
def vH.sh (a0 : List (List Rec)) (a1 : List Rec → Option Bool) : Option (Bool) :=
 bif decide (a0.length ≤ 4611686018427387904) then (((VV a1 a0)).bind fun z2 => some (decide (0 ≤ z2))) else none
theorem vH.eq (a0 : List (List Rec)) (a1 : List Rec → Option Bool) (h : a0.length ≤ 4611686018427387904) {r : Bool} (H : VP a1 a0 = some r) : vH.sh a0 a1 = some r := by
 obtain ⟨i, hi⟩ := any_idxO H
 have := (Y5 hi).2
 rw [H] at this
 simp only [vH.sh, h, decide_true, cond_true, hi, Option.bind_some, this]
def Qe.sh (a0 : List (List Rec)) (a1 : List Rec → Option Bool) : Option (Bool) :=
 bif decide (a0.length ≤ 4611686018427387904) then (((VP (fun (x0_ : List Rec) => ((a1 x0_).map (!·))) a0)).bind fun z12 => some (!z12)) else none
theorem Qe.eq (a0 : List (List Rec)) (a1 : List Rec → Option Bool) (h : a0.length ≤ 4611686018427387904) {r : Bool} (H : GY a1 a0 = some r) : Qe.sh a0 a1 = some r := by
 simp only [Qe.sh, h, decide_true, cond_true]
 have := anyO_not (p := a1) a0
 rw [H] at this
 rw [show (VP (fun (x0_ : List Rec) => (a1 x0_).map (!·)) a0) = _ from this]
 simp
def j6.sh (a0 : List (List Rec)) : Option (Bool) :=
 ((bif (decide ((a0.length : Int) ≤ 5)) then (bif decide (a0.length ≤ 4611686018427387904) then (((GY (fun (x0_ : List Rec) => bif decide (x0_.length ≤ 1048576) then (bif decide (∀ x ∈ x0_, x.path.length ≤ 1048576) then (some (decide ((vU x0_).2 = 0))) else none) else none) a0)).bind fun z7 => some z7) else none) else some false)).bind fun z2 => some z2
theorem j6.eq (a0 : List (List Rec)) (h0 : a0.length ≤ 1048576) (h1 : ∀ l ∈ a0, l.length ≤ 1048576) (h2 : ∀ l ∈ a0, ∀ x ∈ l, x.path.length ≤ 1048576) : j6.sh a0 = some (vi a0) := by
 unfold j6.sh vi
 have h3 : a0.length ≤ 4611686018427387904 := by omega
 have e : GY (fun (x0_ : List Rec) => bif decide (x0_.length ≤ 1048576) then (bif decide (∀ x ∈ x0_, x.path.length ≤ 1048576) then (some (decide ((vU x0_).2 = 0))) else none) else none) a0 = some (a0.all fun x => decide ((qC x).2 = 0)) :=
  allO_some fun x hx => by simp only [h1 x hx, decide_true, cond_true, decide_eq_true (h2 x hx), Gl]
 simp only [h3, decide_true, cond_true, e, Option.bind_some]
 by_cases hl : a0.length ≤ 5
 ·have hl' : (a0.length : Int) ≤ 5 := by omega
  simp [hl, hl']
 ·have hl' : ¬ (a0.length : Int) ≤ 5 := by omega
  simp [hl, hl']
def stackCode (a : List (List Rec)) : Int := if 4096 < a.length then 2 else if !vi a then 1 else 0
theorem Gx (l : List (List Rec)) : decide ((4096 : Int) < (l.length : Int)) = decide (4096 < l.length) := by rw [decide_eq_decide]; omega
def jj.sh (a0 : List (List Rec)) : Option (Bool) :=
 some (decide (4096 < (a0.length : Int)))
theorem jj.eq (a0 : List (List Rec)) : jj.sh a0 = some (decide (4096 < a0.length)) := by
 unfold jj.sh
 rw [Gx]
def jz.sh (a0 : List (List Rec)) : Option (Int) :=
 bif decide (a0.length ≤ 1048576) then (bif decide (∀ l ∈ a0, l.length ≤ 1048576) then (bif decide (∀ l ∈ a0, ∀ x ∈ l, x.path.length ≤ 1048576) then (bif decide (([.inl (decide (4096 < a0.length)), .inr 2, .inl (!(vi a0)), .inr 1] : List (Bool ⊕ Int)).length ≤ 4611686018427387904) then ((some (vO ([.inl (decide (4096 < a0.length)), .inr 2, .inl (!(vi a0)), .inr 1] : List (Bool ⊕ Int)))).bind fun z17 => some z17) else none) else none) else none) else none
theorem jz.eq (a0 : List (List Rec)) (h0 : a0.length ≤ 1048576) (h1 : ∀ l ∈ a0, l.length ≤ 1048576) (h2 : ∀ l ∈ a0, ∀ x ∈ l, x.path.length ≤ 1048576) : jz.sh a0 = some (stackCode a0) := by
 unfold jz.sh stackCode
 simp only [h0, decide_true, cond_true, decide_eq_true h1, decide_eq_true h2, firstOf_c, List.length_cons, List.length_nil, vO, J1, Gz]
 by_cases h : 4096 < a0.length
 ·simp [h]
 ·rcases ql (vi a0) with h3 | h3 <;> simp [h, h3]
def Yn (t : List Nd) (p : List UInt8) (i : Nat) : Option (Int × Int) :=
 if vm t p < 0 then some (0, 5) else if i = 0 then some (vm t p, 0) else if (gt t (vm t p)).kind ≠ 3 then some (0, 13) else none
def GE (t : List Nd) (way : List (List UInt8)) : Nat → Int × Int
 | 0 => (0, 5)
 | n + 1 => match Yn t (way.getD n []) n with
  | some x => x
  | none => GE t way n
def YD (t : List Nd) (p : List UInt8) : Int × Int := GE t ([p] ++ jo p) ([p] ++ jo p).length
theorem resGo_some {t : List Nd} {way : List (List UInt8)} {i : Nat} {x : Int × Int} : ∀ m, i < m → Yn t (way.getD i []) i = some x → (∀ j, i < j → j < m → Yn t (way.getD j []) j = none) → GE t way m = x := by
 intro m
 induction m with
 | zero => intro h; omega
 | succ m ih =>
  intro h hc hj
  rw [GE]
  by_cases e : i = m
  ·subst e; rw [hc]
  ·rw [hj m (by omega) (by omega)]; exact ih (by omega) hc fun j h1 h2 => hj j h1 (by omega)
def G5 (t : List Nd) : List UInt8 → List (List UInt8) → Nd × Int
 | _, [] => (⟨0, [], [], 0⟩, 5)
 | p, x :: l => if vm t (GM p x) < 0 then (⟨0, [], [], 0⟩, 5) else if l = [] then (gt t (vm t (GM p x)), 0) else if (gt t (vm t (GM p x))).kind ≠ 3 then (⟨0, [], [], 0⟩, 13) else G5 t (GM p x) l
def findNd (t : List Nd) (p : List UInt8) : Nd × Int := G5 t [] (cut 47 p)
theorem Jp {t : List Nd} {p : List UInt8} (h : ¬ vm t p < 0) : inR (vm t p) t.length = true := Vi (by omega) (findN_lt t p)
theorem preL_cons (p x : List UInt8) (l : List (List UInt8)) : preL p (x :: l) = (p ++ x) :: l := rfl
theorem Q6 {b : UInt8} {l : List UInt8} (h : bn b ≠ 47) : cut 47 (b :: l) = preL [b] (cut 47 l) := by rw [cut, if_neg h]
theorem Q3 {b : UInt8} {l : List UInt8} (h : bn b = 47) : cut 47 (b :: l) = [] :: cut 47 l := by rw [cut, if_pos h]
theorem Xy : bn (47 : UInt8) = 47 := rfl
def yO : List (List UInt8) → List UInt8
 | [] => []
 | [x] => x
 | x :: y :: l => x ++ 47 :: yO (y :: l)
theorem Vq (x : List UInt8) {l : List (List UInt8)} (h : l ≠ []) : yO (x :: l) = x ++ 47 :: yO l := by
 cases l with
 | nil => exact absurd rfl h
 | cons y l => rfl
theorem joinL_preL (p : List UInt8) (l : List (List UInt8)) (h : l ≠ []) : yO (preL p l) = p ++ yO l := by
 cases l with
 | nil => exact absurd rfl h
 | cons x l =>
  rw [preL_cons]
  cases l with
  | nil => rfl
  | cons y l => simp [yO]
theorem Q4 (t : List UInt8) : yO (cut 47 t) = t := by
 induction t with
 | nil => rfl
 | cons b l ih =>
  by_cases h : bn b = 47
  ·have hb : b = 47 := by
    apply UInt8.toNat.inj
    show b.toNat = 47
    unfold bn at h; omega
   rw [Q3 h, Vq _ (Qu 47 l), ih, hb]; rfl
  ·rw [Q6 h, joinL_preL _ _ (Qu 47 l), ih]; rfl
theorem cut_free {x : List UInt8} (h : ∀ b ∈ x, bn b ≠ 47) : cut 47 x = [x] := by
 induction x with
 | nil => rfl
 | cons b l ih =>
  rw [Q6 (h b (by simp)), ih (fun c hc => h c (by simp [hc]))]; rfl
theorem cut_app {x t : List UInt8} (h : ∀ b ∈ x, bn b ≠ 47) : cut 47 (x ++ 47 :: t) = x :: cut 47 t := by
 induction x with
 | nil => exact Q3 Xy
 | cons b l ih =>
  rw [List.cons_append, Q6 (h b (by simp)), ih (fun c hc => h c (by simp [hc]))]; rfl
theorem Jm (t : List UInt8) : ∀ x ∈ cut 47 t, ∀ b ∈ x, bn b ≠ 47 := by
 induction t with
 | nil => intro x hx; simp [cut] at hx; subst hx; simp
 | cons b l ih =>
  by_cases h : bn b = 47
  ·rw [Q3 h]
   intro x hx
   rcases List.mem_cons.1 hx with rfl | hx
   ·simp
   ·exact ih x hx
  ·rw [Q6 h]
   cases hc : cut 47 l with
   | nil => exact absurd hc (Qu 47 l)
   | cons y r =>
    rw [hc] at ih
    rw [preL_cons]
    intro x hx
    rcases List.mem_cons.1 hx with rfl | hx
    ·intro c hcx
     rcases List.mem_append.1 hcx with h2 | h2
     ·simp at h2; subst h2; exact h
     ·exact ih y (by simp) c h2
    ·exact ih x (by simp [hx])
theorem Gt {l : List (List UInt8)} (hn : l ≠ []) (h : ∀ x ∈ l, ∀ b ∈ x, bn b ≠ 47) : cut 47 (yO l) = l := by
 induction l with
 | nil => exact absurd rfl hn
 | cons x l ih =>
  by_cases hl : l = []
  ·subst hl; exact cut_free (h x (by simp))
  ·rw [Vq x hl, cut_app (h x (by simp)), ih hl (fun y hy => h y (by simp [hy]))]
theorem cut_inj {a b : List UInt8} (h : cut 47 a = cut 47 b) : a = b := by rw [← Q4 a, ← Q4 b, h]
theorem lastSlash_app (x t : List UInt8) (ht : ∀ b ∈ t, bn b ≠ 47) : vp (x ++ 47 :: t) = x.length := by
 apply YM (by simp) (by simp [List.getD_eq_getElem?_getD]; exact Xy)
 intro j h1 h2
 obtain ⟨m, rfl⟩ : ∃ m, j = x.length + 1 + m := ⟨j - x.length - 1, by omega⟩
 have h3 : m < t.length := by simp at h2; omega
 have : (x ++ 47 :: t).getD (x.length + 1 + m) 0 = t[m] := by
  have e : x.length + 1 + m - x.length = m + 1 := by omega
  rw [List.getD_eq_getElem?_getD, List.getElem?_append_right (by omega), e, List.getElem?_cons_succ, List.getElem?_eq_getElem h3]; rfl
 rw [this]
 exact ht _ (List.getElem_mem h3)
theorem YG {l : List (List UInt8)} (x : List UInt8) (h : l ≠ []) : yO (l ++ [x]) = yO l ++ 47 :: x := by
 induction l with
 | nil => exact absurd rfl h
 | cons y l ih =>
  by_cases hl : l = []
  ·subst hl; rfl
  ·rw [List.cons_append, Vq y (by simp), ih hl, Vq y hl]; simp
theorem Js {l : List (List UInt8)} {x : List UInt8} (h : ∀ y ∈ l ++ [x], ∀ b ∈ y, bn b ≠ 47) : qe (yO (l ++ [x])) = yO l := by
 by_cases hl : l = []
 ·subst hl
  have : vp x = -1 := YS fun j hj => h x (by simp) _ (by rw [List.getD_eq_getElem?_getD, List.getElem?_eq_getElem hj]; exact List.getElem_mem hj)
  simp [qe, yO, this]
 ·rw [YG x hl, qe, lastSlash_app _ _ (fun b hb => h x (by simp) b hb)]
  simp
theorem parentP_cut (t : List UInt8) : qe t = yO (cut 47 t).dropLast := by
 obtain ⟨l, x, hlx⟩ : ∃ l x, cut 47 t = l ++ [x] := ⟨(cut 47 t).dropLast, (cut 47 t).getLast (Qu 47 t), (List.dropLast_concat_getLast (Qu 47 t)).symm⟩
 have hp := Jm t
 have := Js (l := l) (x := x) (by rw [← hlx]; exact hp)
 rw [hlx, List.dropLast_concat, ← this, ← hlx, Q4]
theorem JU {t : List UInt8} (h : qE t = true) : ∀ x ∈ cut 47 t, x ≠ [] := by
 simp only [qE, Bool.and_eq_true, decide_eq_true_eq, List.all_eq_true] at h
 intro x hx he
 have := h.2.2 x hx
 rw [he] at this
 revert this; decide
theorem joinL_ne {l : List (List UInt8)} (h : l ≠ []) (hp : ∀ x ∈ l, x ≠ []) : yO l ≠ [] := by
 cases l with
 | nil => exact absurd rfl h
 | cons x l =>
  have := hp x (by simp)
  cases l with
  | nil => simpa [yO] using this
  | cons y l => simp [yO]
theorem joinP_joinL {l : List (List UInt8)} (x : List UInt8) (hp : ∀ y ∈ l, y ≠ []) : GM (yO l) x = yO (l ++ [x]) := by
 by_cases hl : l = []
 ·subst hl; simp [GM, yO]
 ·rw [GM, if_neg (joinL_ne hl hp), YG x hl]; simp
theorem ancs_joinL : ∀ (n : Nat) (l : List (List UInt8)), l.length = n → (∀ y ∈ l, ∀ b ∈ y, bn b ≠ 47) → (∀ y ∈ l, y ≠ []) → jo (yO l) = ((List.range (l.length - 1)).map fun k => yO (l.take (k + 1))).reverse := by
 intro n
 induction n with
 | zero => intro l hl _ _; have : l = [] := List.eq_nil_of_length_eq_zero hl; subst this; rfl
 | succ n ih =>
  intro l hl hp hn
  have hne : l ≠ [] := by intro e; subst e; simp at hl
  obtain ⟨m, x, rfl⟩ : ∃ m x, l = m ++ [x] := ⟨l.dropLast, l.getLast hne, (List.dropLast_concat_getLast hne).symm⟩
  rw [Qj, Js hp]
  have hm : m.length = n := by simpa using hl
  by_cases hm0 : m = []
  ·subst hm0; simp [yO]
  ·have hpm : ∀ y ∈ m, y ≠ [] := fun y hy => hn y (by simp [hy])
   rw [if_neg (joinL_ne hm0 hpm), ih m hm (fun y hy => hp y (by simp [hy])) hpm]
   have hml : 0 < m.length := List.length_pos_iff.2 hm0
   have e1 : (m ++ [x]).length - 1 = (m.length - 1) + 1 := by simp; omega
   rw [e1, List.range_succ, List.map_append, List.reverse_append]
   simp only [List.map_cons, List.map_nil, List.reverse_cons, List.reverse_nil, List.nil_append, List.cons_append]
   congr 1
   ·have e2 : m.length - 1 + 1 = m.length := by omega
    rw [e2, List.take_left]
   ·congr 1
    apply List.map_congr_left
    intro k hk
    have := List.mem_range.1 hk
    rw [List.take_append_of_le_length (by omega)]
theorem ancs_cut {t : List UInt8} (h : qE t = true) : jo t = ((List.range ((cut 47 t).length - 1)).map fun k => yO ((cut 47 t).take (k + 1))).reverse := by
 have := ancs_joinL _ (cut 47 t) rfl (Jm t) (JU h)
 rwa [Q4] at this
theorem way_cut {t : List UInt8} (h : qE t = true) : [t] ++ jo t = ((List.range (cut 47 t).length).map fun k => yO ((cut 47 t).take (k + 1))).reverse := by
 have hl : 0 < (cut 47 t).length := List.length_pos_iff.2 (Qu 47 t)
 have e : (cut 47 t).length = ((cut 47 t).length - 1) + 1 := by omega
 rw [ancs_cut h]
 conv => rhs; rw [e, List.range_succ, List.map_append, List.reverse_append]
 simp only [List.map_cons, List.map_nil, List.reverse_cons, List.reverse_nil, List.nil_append, List.cons_append]
 congr 1
 have e2 : (cut 47 t).length - 1 + 1 = (cut 47 t).length := by omega
 rw [e2, List.take_length, Q4]
theorem resolve_down {t : List Nd} {p : List UInt8} (h : qE p = true) : findNd t p = (if (YD t p).2 = 0 then gt t (YD t p).1 else ⟨0, [], [], 0⟩, (YD t p).2) := by
 have hway := way_cut h
 have hparts := JU h
 unfold findNd YD
 rw [hway]
 have hlen : (((List.range (cut 47 p).length).map fun k => yO ((cut 47 p).take (k + 1))).reverse).length = (cut 47 p).length := by simp
 rw [hlen]
 have key : ∀ (d i : Nat), i + d = (cut 47 p).length → 0 < d ∨ i = 0 → G5 t (yO ((cut 47 p).take i)) ((cut 47 p).drop i) =
   (if (GE t (((List.range (cut 47 p).length).map fun k => yO ((cut 47 p).take (k + 1))).reverse) d).2 = 0 then gt t (GE t (((List.range (cut 47 p).length).map fun k => yO ((cut 47 p).take (k + 1))).reverse) d).1 else ⟨0, [], [], 0⟩,
    (GE t (((List.range (cut 47 p).length).map fun k => yO ((cut 47 p).take (k + 1))).reverse) d).2) := by
  intro d
  induction d with
  | zero =>
   intro i hi h0
   exfalso
   have := List.length_pos_iff.2 (Qu 47 p)
   omega
  | succ d ih =>
   intro i hi _
   have hlt : i < (cut 47 p).length := by omega
   have hw : (((List.range (cut 47 p).length).map fun k => yO ((cut 47 p).take (k + 1))).reverse).getD d [] = yO ((cut 47 p).take (i + 1)) := by
    have h1 : d < (((List.range (cut 47 p).length).map fun k => yO ((cut 47 p).take (k + 1))).reverse).length := by rw [hlen]; omega
    rw [List.getD_eq_getElem?_getD, List.getElem?_eq_getElem h1]
    simp only [List.getElem_reverse, List.getElem_map, List.getElem_range, List.length_map, List.length_range, Option.getD_some]
    congr 2; omega
   have hj : GM (yO ((cut 47 p).take i)) (cut 47 p)[i] = yO ((cut 47 p).take (i + 1)) := by
    rw [joinP_joinL _ (fun y hy => hparts y (List.mem_of_mem_take hy)), List.take_succ_eq_append_getElem hlt]
   rw [List.drop_eq_getElem_cons hlt, G5, hj, GE, hw]
   obtain ⟨q, hq⟩ : ∃ q, yO ((cut 47 p).take (i + 1)) = q := ⟨_, rfl⟩
   rw [hq]
   unfold Yn
   by_cases h1 : vm t q < 0
   ·simp [h1]
   ·simp only [h1, if_false]
    by_cases hd : d = 0
    ·have hnil : (cut 47 p).drop (i + 1) = [] := List.drop_of_length_le (by omega)
     simp [hd, hnil]
    ·have hnil : ¬ (cut 47 p).drop (i + 1) = [] := by
      intro e
      have := congrArg List.length e
      simp at this; omega
     simp only [hnil, hd, if_false]
     by_cases h3 : (gt t (vm t q)).kind = 3
     ·simp only [h3, ne_eq, not_true_eq_false, if_false]
      rw [← hq]
      exact ih (i + 1) (by omega) (.inl (by omega))
     ·simp [h3]
 have := key (cut 47 p).length 0 (by omega) (.inr rfl)
 simpa [yO] using this
theorem findI_first {α : Type} (q : α → Bool) : ∀ (l : List α) (i : Nat), yT q l = i → ∀ x ∈ l.take i, q x = false := by
 intro l
 induction l with
 | nil => intro i _ x hx; simp at hx
 | cons y l ih =>
  intro i h x hx
  simp only [yT] at h
  cases i with
  | zero => simp at hx
  | succ i =>
   rcases ql (q y) with hq | hq
   ·simp only [hq, if_true] at h; omega
   ·simp only [hq, Bool.false_eq_true, if_false] at h
    by_cases hm : yT q l = -1
    ·simp only [hm, if_true] at h; omega
    ·simp only [hm, if_false] at h
     rw [List.take_succ_cons] at hx
     rcases List.mem_cons.1 hx with rfl | hx
     ·exact hq
     ·exact ih i (by omega) x hx
theorem List.take_set_succ {α : Type} {l : List α} {i : Nat} {x : α} (h : i < l.length) : (l.set i x).take (i + 1) = l.take i ++ [x] := by
 rw [List.take_succ_eq_append_getElem (by simpa using h)]
 rw [List.take_set, List.set_eq_of_length_le (by simp; omega)]
 simp
def vT (l : List Nd) (p : List UInt8) (self : Bool) : List Nd := l.filter fun x => !((decide (p = []) && !decide (x.path = [])) || ve x.path p) && (!self || !decide (x.path = p))
theorem Ye (l : List Nd) (p : List UInt8) (b : Bool) : (vT l p b).length ≤ l.length := List.length_filter_le _ _
theorem without_impl (l : List Nd) (p : List UInt8) : vT l p true = l.filter fun x => !(decide (x.path = p) || (decide (p = []) || ve x.path p)) := by
 unfold vT
 congr 1
 funext x
 by_cases h1 : x.path = p
 ·simp [h1]
 ·by_cases h2 : p = []
  ·subst h2
   simp [h1]
  ·simp [h1, h2]
def vI.b1 (a0 : List Nd) (a1 : List UInt8) (a2 : Bool) : List Nd × Int → Option (Step (List Nd) (List Nd × Int) (List Nd)) :=
 fun q => match q with
 | (x7_7, x8_9) => bif (decide (x8_9 < (a0.length : Int))) then (bif inR x8_9 a0.length then (((bif (!((decide (a1 = []) && !decide (((gt a0 x8_9).path) = [])) || ve ((gt a0 x8_9).path) a1)) then (((bif (!a2) then some true else (bif inR x8_9 a0.length then (some (!decide (((gt a0 x8_9).path) = a1))) else none))).bind fun z38 => some z38) else some false)).bind fun z37 => bif z37 then (bif inR x8_9 a0.length then (bif decide ((x7_7.length + ([gt a0 x8_9] : List Nd).length) * 48 ≤ 140737488355328) then (some (.nxt (x7_7 ++ ([gt a0 x8_9] : List Nd), IntKind.wrap .i64 (x8_9 + 1)))) else none) else none) else (some (.nxt (x7_7, IntKind.wrap .i64 (x8_9 + 1))))) else none) else (some (.brk x7_7))
def vI.sh (k : Nat) (a0 : List Nd) (a1 : List UInt8) (a2 : Bool) : Option (List Nd) :=
  (qn (vI.b1 a0 a1 a2) k (([] : List Nd), 0)).bind fun z => match z with | .inl t => some t | .inr x7_13 => some x7_13
theorem vI.eq (a0 : List Nd) (a1 : List UInt8) (a2 : Bool) (h0 : a0.length ≤ 1048576) : ∃ k, vI.sh k a0 a1 a2 = some (vT a0 a1 a2) := by
 refine ⟨a0.length + 1, ?_⟩
 unfold vI.sh
 rw [VH a0 (fun x => if (!((decide (a1 = []) && !decide (x.path = [])) || ve x.path a1) && (!a2 || !decide (x.path = a1))) then some x else none) (vI.b1 a0 a1 a2) (fun i hi acc ha => by
  have e1 : ∀ z : Nd, (acc.length + ([z] : List Nd).length) * 48 ≤ 140737488355328 := fun z => by simp; omega
  simp only [vI.b1, y9, hi, decide_true, cond_true, qP hi, vK, vr hi, e1, vF hi (by omega)]
  rcases ql ((decide (a1 = []) && !decide (a0[i].path = [])) || ve a0[i].path a1) with hb | hb
  ·simp [hb]
  ·generalize ve a0[i].path a1 = bl at hb ⊢
   by_cases hp : a0[i].path = a1
   ·cases a2 <;> simp [hp] at hb ⊢ <;> simp [hb]
   ·cases a2 <;> simp [hb, hp]) (fun acc => by simp [vI.b1])]
 have : ∀ l : List Nd, l.filterMap (fun x => if (!((decide (a1 = []) && !decide (x.path = [])) || ve x.path a1) && (!a2 || !decide (x.path = a1))) then some x else none) = vT l a1 a2 := by
  intro l
  have := filterMap_if (fun x : Nd => (!((decide (a1 = []) && !decide (x.path = [])) || ve x.path a1) && (!a2 || !decide (x.path = a1)))) id l
  simpa [vT] using this
 rw [this]; rfl
def jX.sh (a0 : Nd) (a1 : List UInt8) : Option (Bool) :=
 ((bif (decide (a0.path = a1)) then some true else (bif decide (a1.length ≤ 1048576) then (some (decide (a1 = []) || ve a0.path a1)) else none))).bind fun z8 => some z8
theorem jX.eq (a0 : Nd) (a1 : List UInt8) (h : a1.length ≤ 1048576) : jX.sh a0 a1 = some (decide (a0.path = a1) || (decide (a1 = []) || ve a0.path a1)) := by
 unfold jX.sh
 by_cases hp : a0.path = a1 <;> simp [hp, h]
theorem recFault_opq {r : Rec} (h : qz r = 0) (ho : r.opq = true) : r.kind = 3 := by
 unfold qz at h
 by_cases hk : r.kind = 3
 ·exact hk
 ·simp only [ho, hk, decide_false, Bool.not_false, Bool.true_and, Bool.or_true, if_true] at h
  repeat' split at h
  all_goals omega
end Go.UL
