import Derived.Test.YtfefjaohlhkmaaaGreatDoorxP12
set_option linter.unusedVariables false
set_option linter.unusedSimpArgs false
namespace Go.UL
open Go.RowKit
theorem Ve {l : List Rec} (h : (qv l).2 = 0) : ∀ i, i < l.length → ju l i = 0 := by
 unfold qv at h
 cases hf : (List.range l.length).findSome? (fun i => if ju l i = 0 then none else some ((i : Int), ju l i)) with
 | none =>
  intro i hi
  have := List.findSome?_eq_none_iff.1 hf i (List.mem_range.2 hi)
  by_cases hc : ju l i = 0
  ·exact hc
  ·simp [hc] at this
 | some x =>
  rw [hf] at h
  obtain ⟨i, _, hi⟩ := List.exists_of_findSome?_eq_some hf
  by_cases hc : ju l i = 0
  ·simp [hc] at hi
  ·simp only [hc, if_false, Option.some.injEq] at hi
   subst hi
   exact absurd h hc
theorem layerFault_of {l : List Rec} (h : ∀ i, i < l.length → ju l i = 0) : qv l = (0, 0) := by
 unfold qv
 have : (List.range l.length).findSome? (fun i => if ju l i = 0 then none else some ((i : Int), ju l i)) = none := by
  apply List.findSome?_eq_none_iff.2
  intro i hi
  simp [h i (List.mem_range.1 hi)]
 rw [this]
theorem G9 {l : List Rec} (h : (qv l).2 = 0) : ∀ x ∈ l, qx x = 0 := by
 intro x hx
 obtain ⟨i, hi, rfl⟩ := List.getElem_of_mem hx
 have := codeAt_rec (Ve h i hi)
 rwa [vY hi] at this
theorem Y8 {l : List Rec} (h : (qv l).2 = 0) : ∀ x ∈ l, qH x.path = true := fun x hx => yg (G9 h x hx)
theorem Qp {l : List Rec} (h : (qv l).2 = 0) : l.length ≤ 16 := by
 by_cases hc : l.length ≤ 16
 ·exact hc
 ·have := Ve h 16 (by omega)
  simp [ju] at this
theorem Gn {p : List UInt8} (h : qH p = true) : (cut 47 p).length ≤ 4 := by
 simp only [qH, Bool.and_eq_true, decide_eq_true_eq] at h
 exact h.2.1
def jH (l : List Rec) (r : Rec) : Option Rec :=
 if yz l r.path then (if r.kind = 4 then none else some ⟨r.kind, r.path, r.body, r.mode, false⟩) else some ⟨r.kind, r.path, r.body, r.mode, r.opq && decide ((cut 47 r.path).length < 4)⟩
def vV (l : List Rec) : List Rec := l.filterMap (jH l)
theorem canonL_len (l : List Rec) : (vV l).length ≤ l.length := List.length_filterMap_le _ _
def yh.b1 (a0 : List Rec) : List Rec × Int → Option (Step (List Rec) (List Rec × Int) (List Rec)) :=
 fun q => match q with
 | (x3_7, x4_9) => bif (decide (x4_9 < (a0.length : Int))) then (bif inR x4_9 a0.length then (bif decide (a0.length ≤ 1048576) then (bif decide (((gt a0 x4_9).path).length ≤ 1048576) then (bif (!(yz a0 ((gt a0 x4_9).path))) then (((bif ((gt a0 x4_9).opq) then (bif decide (((gt a0 x4_9).path).length ≤ 1048576) then (some (decide (((cut 47 ((gt a0 x4_9).path)).length : Int) < 4))) else none) else some false)).bind fun z49 => bif decide ((x3_7.length + ([(⟨(gt a0 x4_9).kind, (gt a0 x4_9).path, (gt a0 x4_9).body, (gt a0 x4_9).mode, z49⟩ : Rec)] : List Rec).length) * 56 ≤ 140737488355328) then (some (.nxt (x3_7 ++ ([(⟨(gt a0 x4_9).kind, (gt a0 x4_9).path, (gt a0 x4_9).body, (gt a0 x4_9).mode, z49⟩ : Rec)] : List Rec), IntKind.wrap .i64 (x4_9 + 1)))) else none) else (bif (!decide (((gt a0 x4_9).kind) = 4)) then (bif decide ((x3_7.length + ([(⟨(gt a0 x4_9).kind, (gt a0 x4_9).path, (gt a0 x4_9).body, (gt a0 x4_9).mode, false⟩ : Rec)] : List Rec).length) * 56 ≤ 140737488355328) then (some (.nxt (x3_7 ++ ([(⟨(gt a0 x4_9).kind, (gt a0 x4_9).path, (gt a0 x4_9).body, (gt a0 x4_9).mode, false⟩ : Rec)] : List Rec), IntKind.wrap .i64 (x4_9 + 1)))) else none) else (some (.nxt (x3_7, IntKind.wrap .i64 (x4_9 + 1)))))) else none) else none) else none) else (some (.brk x3_7))
def yh.sh (k : Nat) (a0 : List Rec) : Option (List Rec) :=
  (qp (yh.b1 a0) k (([] : List Rec), 0)).bind fun z => match z with | .inl t => some t | .inr x3_13 => some x3_13
theorem yh.eq (a0 : List Rec) (h0 : a0.length ≤ 1048576) (h1 : ∀ x ∈ a0, qH x.path = true) : ∃ k, yh.sh k a0 = some (vV a0) := by
 refine ⟨a0.length + 1, ?_⟩
 unfold yh.sh
 rw [Vp a0 (jH a0) (yh.b1 a0) (fun i hi acc ha => by
  have hp := yU (h1 _ (List.getElem_mem hi))
  have e1 : ∀ z : Rec, (acc.length + ([z] : List Rec).length) * 56 ≤ 140737488355328 := fun z => by simp; omega
  have e4 : decide (((cut 47 a0[i].path).length : Int) < 4) = decide ((cut 47 a0[i].path).length < 4) := by rw [decide_eq_decide]; omega
  simp only [yh.b1, yY, hi, decide_true, cond_true, qV hi, vZ, vY hi, h0, hp, e1, e4, vr hi (by omega), jH]
  rcases ql (yz a0 a0[i].path) with hu | hu
  ·by_cases hk : a0[i].kind = 4 <;> simp [hu, hk]
  ·rcases ql a0[i].opq with ho | ho <;> simp [hu, ho]) (fun acc => by simp [yh.b1])]
 simp [vV]
def yc.b1 (a0 : List Rec) : List Rec × Int → Option (Step (List Rec) (List Rec × Int) (List Rec)) :=
 fun q => match q with
 | (x3_7, x10_9) => bif (decide (x10_9 < (a0.length : Int))) then (bif inR x10_9 a0.length then (bif decide (a0.length ≤ 1048576) then (bif decide (((gt a0 x10_9).path).length ≤ 1048576) then (bif ((yz a0 ((gt a0 x10_9).path)) && (decide (((gt a0 x10_9).kind) = 4))) then (some (.nxt (x3_7, IntKind.wrap .i64 (x10_9 + 1)))) else (((bif (yz a0 ((gt a0 x10_9).path)) then some true else (bif decide (((gt a0 x10_9).path).length ≤ 1048576) then (some (decide (((cut 47 ((gt a0 x10_9).path)).length : Int) = 4))) else none))).bind fun z55 => bif z55 then (bif decide ((x3_7.length + ([(⟨(gt a0 x10_9).kind, (gt a0 x10_9).path, (gt a0 x10_9).body, (gt a0 x10_9).mode, false⟩ : Rec)] : List Rec).length) * 56 ≤ 140737488355328) then (some (.nxt (x3_7 ++ ([(⟨(gt a0 x10_9).kind, (gt a0 x10_9).path, (gt a0 x10_9).body, (gt a0 x10_9).mode, false⟩ : Rec)] : List Rec), IntKind.wrap .i64 (x10_9 + 1)))) else none) else (bif decide ((x3_7.length + ([(gt a0 x10_9)] : List Rec).length) * 56 ≤ 140737488355328) then (some (.nxt (x3_7 ++ ([(gt a0 x10_9)] : List Rec), IntKind.wrap .i64 (x10_9 + 1)))) else none))) else none) else none) else none) else (some (.brk x3_7))
def yc.sh (k : Nat) (a0 : List Rec) : Option (List Rec) :=
  (qp (yc.b1 a0) k (([] : List Rec), 0)).bind fun z => match z with | .inl t => some t | .inr x3_13 => some x3_13
theorem yc.eq (a0 : List Rec) (h0 : a0.length ≤ 1048576) (h1 : ∀ x ∈ a0, qH x.path = true) : ∃ k, yc.sh k a0 = some (vV a0) := by
 refine ⟨a0.length + 1, ?_⟩
 unfold yc.sh
 rw [Vp a0 (jH a0) (yc.b1 a0) (fun i hi acc ha => by
  have hpo := h1 _ (List.getElem_mem hi)
  have hp := yU hpo
  have hd := Gn hpo
  have e1 : ∀ z : Rec, (acc.length + ([z] : List Rec).length) * 56 ≤ 140737488355328 := fun z => by simp; omega
  have e4 : decide (((cut 47 a0[i].path).length : Int) = 4) = !decide ((cut 47 a0[i].path).length < 4) := by
   by_cases h : (cut 47 a0[i].path).length < 4
   ·have : ¬ ((cut 47 a0[i].path).length : Int) = 4 := by omega
    simp [h, this]
   ·have : ((cut 47 a0[i].path).length : Int) = 4 := by omega
    simp [h, this]
  simp only [yc.b1, yY, hi, decide_true, cond_true, qV hi, vZ, vY hi, h0, hp, e1, e4, vr hi (by omega), jH]
  rcases ql (yz a0 a0[i].path) with hu | hu
  ·by_cases hk : a0[i].kind = 4 <;> simp [hu, hk]
  ·by_cases h4 : (cut 47 a0[i].path).length < 4 <;> simp [hu, h4]) (fun acc => by simp [yc.b1])]
 simp [vV]
def YP (l : List Rec) : Bool := decide ((qU l).2 = 0) && decide (vV l = l)
def jG.sh (a0 : List Rec) : Option (Bool) :=
 bif decide (a0.length ≤ 1048576) then (bif decide (∀ x ∈ a0, x.path.length ≤ 1048576) then (((bif (decide ((qU a0).2 = 0)) then (bif decide (a0.length ≤ 1048576) then (bif decide (∀ x ∈ a0, qH x.path = true) then (bif decide ((vV a0).length ≤ 1048576) then (some (decide ((vV a0) = a0))) else none) else none) else none) else some false)).bind fun z6 => some z6) else none) else none
theorem jG.eq (a0 : List Rec) (h0 : a0.length ≤ 1048576) (h1 : ∀ x ∈ a0, x.path.length ≤ 1048576) : jG.sh a0 = some (YP a0) := by
 unfold jG.sh YP
 by_cases hf : (qU a0).2 = 0
 ·have hf2 : (qv a0).2 = 0 := by
   unfold qU at hf
   split at hf
   ·cases hf
   ·exact hf
  have := canonL_len a0
  have h2 : (vV a0).length ≤ 1048576 := by omega
  simp [h0, decide_eq_true h1, hf, decide_eq_true (Y8 hf2), h2]
 ·simp [h0, decide_eq_true h1, hf]
def pairCode (a b : List Rec) : Int := if decide (4096 < a.length) || decide (4096 < b.length) then 2 else if !decide ((qv a).2 = 0) || !decide ((qv b).2 = 0) then 1 else 0
theorem pairCode_zero {a b : List Rec} (h : pairCode a b = 0) : (qv a).2 = 0 ∧ (qv b).2 = 0 := by
 unfold pairCode at h
 split at h
 ·cases h
 ·split at h
  ·cases h
  ·rename_i h1
   simpa using h1
def j7.sh (a0 : List Rec) (a1 : List Rec) : Option (Int) :=
 bif decide (a0.length ≤ 1048576) then (bif decide (∀ x ∈ a0, x.path.length ≤ 1048576) then (((bif (!(decide ((qU a0).2 = 0))) then some true else (bif decide (a1.length ≤ 1048576) then (bif decide (∀ x ∈ a1, x.path.length ≤ 1048576) then (some (!(decide ((qU a1).2 = 0)))) else none) else none))).bind fun z14 => bif decide (([.inl ((decide (4096 < a0.length)) || (decide (4096 < a1.length))), .inr 2, .inl z14, .inr 1] : List (Bool ⊕ Int)).length ≤ 4611686018427387904) then ((some (vX ([.inl ((decide (4096 < a0.length)) || (decide (4096 < a1.length))), .inr 2, .inl z14, .inr 1] : List (Bool ⊕ Int)))).bind fun z31 => some z31) else none) else none) else none
theorem j7.eq (a0 a1 : List Rec) (h0 : a0.length ≤ 1048576) (h1 : a1.length ≤ 1048576) (h2 : ∀ x ∈ a0, x.path.length ≤ 1048576) (h3 : ∀ x ∈ a1, x.path.length ≤ 1048576) : j7.sh a0 a1 = some (pairCode a0 a1) := by
 unfold j7.sh pairCode qU
 simp only [h0, h1, decide_true, cond_true, decide_eq_true h2, decide_eq_true h3, JL, List.length_cons, List.length_nil, vX, Xg, anyI]
 by_cases h : 4096 < a0.length
 ·simp [h]
 ·by_cases h' : 4096 < a1.length
  ·by_cases hf : (qv a0).2 = 0 <;> simp [h, h', hf]
  ·by_cases hf : (qv a0).2 = 0
   ·by_cases hg : (qv a1).2 = 0
    ·simp [h, h', hf, hg]
    ·simp [h, h', hf, hg]
   ·simp [h, h', hf]
def jp.sh (a0 : List Nd) : Option (Bool) :=
 some (decide (4096 < (a0.length : Int)))
theorem jp.eq (a0 : List Nd) : jp.sh a0 = some (decide (4096 < a0.length)) := by
 have : (4096 : Int) < (a0.length : Int) ↔ 4096 < a0.length := by omega
 simp [jp.sh, this]
def Qz (l : List Rec) : List Rec × Int := if 4096 < l.length then ([], 2) else if (qv l).2 ≠ 0 then ([], 1) else (vV l, 0)
def jj.sh (a0 : List Rec) : Option (List Rec × Int) :=
 bif (decide (4096 < (a0.length : Int))) then (some (([] : List Rec), 2)) else (bif decide (a0.length ≤ 1048576) then (bif decide (∀ x ∈ a0, x.path.length ≤ 1048576) then (bif (!(decide ((qv a0).2 = 0))) then (some (([] : List Rec), 1)) else (bif decide (a0.length ≤ 1048576) then (bif decide (∀ x ∈ a0, qH x.path = true) then (some ((vV a0), 0)) else none) else none)) else none) else none)
theorem jj.eq (a0 : List Rec) (h0 : a0.length ≤ 1048576) (h1 : ∀ x ∈ a0, x.path.length ≤ 1048576) : jj.sh a0 = some ((Qz a0).1, (Qz a0).2) := by
 unfold jj.sh Qz
 rw [len4096]
 by_cases h : 4096 < a0.length
 ·simp [h]
 ·by_cases hf : (qv a0).2 = 0
  ·simp [h, h0, decide_eq_true h1, hf, decide_eq_true (Y8 hf)]
  ·simp [h, h0, decide_eq_true h1, hf]
def yL (a b : List Rec) : List (List UInt8) × Int := if pairCode a b = 0 then ((a.filter fun r => vL b r.path).map (·.path), 0) else ([], pairCode a b)
theorem hiddenL_len (a b : List Rec) : (yL a b).1.length ≤ a.length := by
 unfold yL
 split
 ·simpa using List.length_filter_le _ a
 ·simp
def yH.b1 (a0 : List Rec) (a1 : List Rec) : List (List UInt8) × Int → Option (Step (List (List UInt8) × Int) (List (List UInt8) × Int) (List (List UInt8))) :=
 fun q => match q with
 | (x6_40, x7_42) => bif (decide (x7_42 < (a0.length : Int))) then (bif inR x7_42 a0.length then (bif decide (a1.length ≤ 1048576) then (bif decide (((gt a0 x7_42).path).length ≤ 1048576) then (bif (vL a1 ((gt a0 x7_42).path)) then (bif inR x7_42 a0.length then (bif decide ((x6_40.length + ([(gt a0 x7_42).path] : List (List UInt8)).length) * 16 ≤ 140737488355328) then (some (.nxt (x6_40 ++ ([(gt a0 x7_42).path] : List (List UInt8)), IntKind.wrap .i64 (x7_42 + 1)))) else none) else none) else (some (.nxt (x6_40, IntKind.wrap .i64 (x7_42 + 1))))) else none) else none) else none) else (some (.brk x6_40))
def yH.sh (k : Nat) (a0 : List Rec) (a1 : List Rec) : Option (List (List UInt8) × Int) :=
  bif ((decide (4096 < (a0.length : Int))) || (decide (4096 < (a1.length : Int)))) then (some (([] : List (List UInt8)), 2)) else (bif decide (a0.length ≤ 1048576) then (bif decide (∀ x ∈ a0, x.path.length ≤ 1048576) then (((bif (!(decide ((qv a0).2 = 0))) then some true else (bif decide (a1.length ≤ 1048576) then (bif decide (∀ x ∈ a1, x.path.length ≤ 1048576) then (some (!(decide ((qv a1).2 = 0)))) else none) else none))).bind fun z19 => bif z19 then (some (([] : List (List UInt8)), 1)) else ((qp (yH.b1 a0 a1) k (([] : List (List UInt8)), 0)).bind fun z => match z with | .inl t => some t | .inr x6_46 => some (x6_46, 0))) else none) else none)
theorem yH.eq (a0 a1 : List Rec) (h0 : a0.length ≤ 1048576) (h1 : a1.length ≤ 1048576) (h2 : ∀ x ∈ a0, x.path.length ≤ 1048576) (h3 : ∀ x ∈ a1, x.path.length ≤ 1048576) : ∃ k, yH.sh k a0 a1 = some ((yL a0 a1).1, (yL a0 a1).2) := by
 refine ⟨a0.length + 1, ?_⟩
 unfold yH.sh yL pairCode
 rw [len4096, len4096]
 by_cases h : (decide (4096 < a0.length) || decide (4096 < a1.length)) = true
 ·simp [h]
 ·simp only [h, h0, h1, decide_true, cond_false, cond_true, if_false, decide_eq_true h2, decide_eq_true h3, Bool.false_eq_true]
  by_cases hf : (qv a0).2 = 0
  ·by_cases hg : (qv a1).2 = 0
   ·rw [Vp a0 (fun r => if vL a1 r.path then some r.path else none) (yH.b1 a0 a1) (fun i hi acc ha => by
     have hp := h2 _ (List.getElem_mem hi)
     have e1 : ∀ z : List UInt8, (acc.length + ([z] : List (List UInt8)).length) * 16 ≤ 140737488355328 := fun z => by simp; omega
     simp only [yH.b1, yY, hi, decide_true, cond_true, qV hi, vZ, vY hi, e1, h1, hp, vr hi (by omega)]
     rcases ql (vL a1 a0[i].path) with hc | hc <;> simp [hc]) (fun acc => by simp [yH.b1]), Jl]
    simp [hf, hg]
   ·simp [hf, hg]
  ·simp [hf]
def yG.b1 (a0 : List Rec) (a1 : List Rec) : List (List UInt8) × Int → Option (Step (List (List UInt8) × Int) (List (List UInt8) × Int) (List (List UInt8))) :=
 fun q => match q with
 | (x7_14, x19_16) => bif (decide (x19_16 < (a0.length : Int))) then (bif inR x19_16 a0.length then (bif decide (a1.length ≤ 1048576) then (bif decide (((gt a0 x19_16).path).length ≤ 1048576) then (bif (vL a1 ((gt a0 x19_16).path)) then (bif decide ((x7_14.length + ([(gt a0 x19_16).path] : List (List UInt8)).length) * 16 ≤ 140737488355328) then (some (.nxt (x7_14 ++ ([(gt a0 x19_16).path] : List (List UInt8)), IntKind.wrap .i64 (x19_16 + 1)))) else none) else (some (.nxt (x7_14, IntKind.wrap .i64 (x19_16 + 1))))) else none) else none) else none) else (some (.brk x7_14))
def yG.sh (k : Nat) (a0 : List Rec) (a1 : List Rec) : Option (List (List UInt8) × Int) :=
  bif decide (a0.length ≤ 1048576) then (bif decide (a1.length ≤ 1048576) then (bif decide (∀ x ∈ a0, x.path.length ≤ 1048576) then (bif decide (∀ x ∈ a1, x.path.length ≤ 1048576) then (bif (!decide ((pairCode a0 a1) = 0)) then (some ([], (pairCode a0 a1))) else ((qp (yG.b1 a0 a1) k (([] : List (List UInt8)), 0)).bind fun z => match z with | .inl t => some t | .inr x7_20 => some (x7_20, 0))) else none) else none) else none) else none
theorem yG.eq (a0 a1 : List Rec) (h0 : a0.length ≤ 1048576) (h1 : a1.length ≤ 1048576) (h2 : ∀ x ∈ a0, x.path.length ≤ 1048576) (h3 : ∀ x ∈ a1, x.path.length ≤ 1048576) : ∃ k, yG.sh k a0 a1 = some ((yL a0 a1).1, (yL a0 a1).2) := by
 refine ⟨a0.length + 1, ?_⟩
 unfold yG.sh yL
 by_cases hp : pairCode a0 a1 = 0
 ·rw [Vp a0 (fun r => if vL a1 r.path then some r.path else none) (yG.b1 a0 a1) (fun i hi acc ha => by
   have hp := h2 _ (List.getElem_mem hi)
   have e1 : ∀ z : List UInt8, (acc.length + ([z] : List (List UInt8)).length) * 16 ≤ 140737488355328 := fun z => by simp; omega
   simp only [yG.b1, yY, hi, decide_true, cond_true, qV hi, vZ, vY hi, e1, h1, hp, vr hi (by omega)]
   rcases ql (vL a1 a0[i].path) with hc | hc <;> simp [hc]) (fun acc => by simp [yG.b1]), Jl]
  simp [h0, h1, decide_eq_true h2, decide_eq_true h3, hp]
 ·simp [h0, h1, decide_eq_true h2, decide_eq_true h3, hp]
def jQ (l : List (List Rec)) : Bool := decide (l.length ≤ 5) && l.all fun x => decide ((qv x).2 = 0)
theorem YY (l : List Rec) : decide ((qU l).2 = 0) = decide ((qv l).2 = 0) := by
 unfold qU
 by_cases h : 4096 < l.length
 ·have : ¬ (qv l).2 = 0 := fun hf => by have := Qp hf; omega
  simp [h, this]
 ·simp [h]
def yC.b1 (a0 : List (List Rec)) : Int → Option (Step (Bool) (Int) (Unit)) :=
 fun x3_2 => bif (decide (x3_2 < (a0.length : Int))) then (bif inR x3_2 a0.length then (bif decide ((gt a0 x3_2).length ≤ 1048576) then (bif decide (∀ x ∈ (gt a0 x3_2), x.path.length ≤ 1048576) then (bif (!(decide ((qv (gt a0 x3_2)).2 = 0))) then (some (.ret false)) else (some (.nxt (IntKind.wrap .i64 (x3_2 + 1))))) else none) else none) else none) else (some (.brk ()))
def yC.sh (k : Nat) (a0 : List (List Rec)) : Option (Bool) :=
  bif (decide (5 < (a0.length : Int))) then (some false) else ((qp (yC.b1 a0) k 0).bind fun z => match z with | .inl t => some t | .inr _ => some true)
theorem yC.eq (a0 : List (List Rec)) (h0 : a0.length ≤ 1048576) (h1 : ∀ l ∈ a0, l.length ≤ 1048576) (h2 : ∀ l ∈ a0, ∀ x ∈ l, x.path.length ≤ 1048576) : ∃ k, yC.sh k a0 = some (jQ a0) := by
 refine ⟨a0.length + 1, ?_⟩
 unfold yC.sh jQ
 by_cases hl : a0.length ≤ 5
 ·have hl' : ¬ (5 : Int) < (a0.length : Int) := by omega
  simp only [hl', decide_false, cond_false]
  have hb : ∀ i : Nat, i < a0.length → yC.b1 a0 i = some (sc (if !decide ((qv (a0.getD i default)).2 = 0) then some false else none : Option Bool) ((i : Int) + 1)) := by
   intro i hi
   have e := h1 a0[i] (List.getElem_mem hi)
   have e2 := h2 a0[i] (List.getElem_mem hi)
   have eg : a0.getD i default = gt a0 (i : Int) := rfl
   rw [← vY hi, eg] at e e2
   rw [eg]
   simp only [yC.b1, yY, hi, decide_true, cond_true, qV hi, e, decide_eq_true e2, vr hi (by omega)]
   by_cases hf : (qv (gt a0 (i : Int))).2 = 0
   ·simp only [hf, decide_true, Bool.not_true, cond_false, Bool.false_eq_true, if_false, Y9]
   ·simp only [hf, decide_false, Bool.not_false, cond_true, if_true, Jc]
  rw [jw a0.length _ hb (by simp [yC.b1]) _ (by omega), JM a0 default (fun x => !decide ((qv x).2 = 0)) false]
  have hna : (a0.any fun x => !decide ((qv x).2 = 0)) = !(a0.all fun x => decide ((qv x).2 = 0)) := by rw [List.not_all_eq_any_not]
  rw [hna]
  simp only [hl, decide_true, Bool.true_and]
  cases (a0.all fun x => decide ((qv x).2 = 0)) <;> simp
 ·have hl' : (5 : Int) < (a0.length : Int) := by omega
  simp [hl', hl]
def jM.sh (a0 : List Rec) (a1 : List Rec → Option Bool) : Option (Bool) :=
 (a1 a0).bind fun z1 => some (!z1)
theorem jM.eq (a0 : List Rec) (a1 : List Rec → Option Bool) {r : Bool} (H : ((a1 a0).map (!·)) = some r) : jM.sh a0 a1 = some r := by
 unfold jM.sh
 cases h : a1 a0 with
 | none => rw [h] at H; cases H
 | some z => rw [h] at H; exact H
def va.b1 (a0 : List (List Rec)) (a1 : List Rec → Option Bool) : Int → Option (Step (Int) (Int) (Unit)) :=
 fun x8_1 => bif (decide (x8_1 < (a0.length : Int))) then (bif inR x8_1 a0.length then ((a1 (gt a0 x8_1)).bind fun z24 => bif z24 then (some (.ret x8_1)) else (some (.nxt (IntKind.wrap .i64 (x8_1 + 1))))) else none) else (some (.brk ()))
def va.sh (k : Nat) (a0 : List (List Rec)) (a1 : List Rec → Option Bool) : Option (Int) :=
  (qp (va.b1 a0 a1) k 0).bind fun z => match z with | .inl t => some t | .inr _ => some (-1)
theorem va.eq (a0 : List (List Rec)) (a1 : List Rec → Option Bool) (h : a0.length ≤ 4611686018427387904) {r : Int} (H : Yo a1 a0 = some r) : ∃ k, va.sh k a0 a1 = some r := by
 refine ⟨a0.length + 1, ?_⟩
 have := Y1 a0 a0.length 0 (by omega) r (by simpa using H) (va.b1 a0 a1) (fun i hi => by
  simp only [va.b1, yY, hi, decide_true, cond_true, qV hi, vZ, vr hi h]) (by simp [va.b1]) (a0.length + 1) (by omega)
 simp only [Int.natCast_zero] at this
 unfold va.sh
 rw [this]
 by_cases hr : r = -1
 ·simp [hr]
 ·simp [hr]
def vQ.sh (a0 : List (List Rec)) (a1 : List Rec → Option Bool) : Option (Bool) :=
 bif decide (a0.length ≤ 4611686018427387904) then (((Yo a1 a0)).bind fun z2 => some (decide (0 ≤ z2))) else none
theorem vQ.eq (a0 : List (List Rec)) (a1 : List Rec → Option Bool) (h : a0.length ≤ 4611686018427387904) {r : Bool} (H : Yg a1 a0 = some r) : vQ.sh a0 a1 = some r := by
 obtain ⟨i, hi⟩ := any_idxO H
 have := (Js hi).2
 rw [H] at this
 simp only [vQ.sh, h, decide_true, cond_true, hi, Option.bind_some, this]
def Qr.sh (a0 : List (List Rec)) (a1 : List Rec → Option Bool) : Option (Bool) :=
 bif decide (a0.length ≤ 4611686018427387904) then (((Yg (fun (x0_ : List Rec) => ((a1 x0_).map (!·))) a0)).bind fun z12 => some (!z12)) else none
theorem Qr.eq (a0 : List (List Rec)) (a1 : List Rec → Option Bool) (h : a0.length ≤ 4611686018427387904) {r : Bool} (H : Xi a1 a0 = some r) : Qr.sh a0 a1 = some r := by
 simp only [Qr.sh, h, decide_true, cond_true]
 have := anyO_not (p := a1) a0
 rw [H] at this
 rw [show (Yg (fun (x0_ : List Rec) => (a1 x0_).map (!·)) a0) = _ from this]
 simp
def QL.sh (a0 : List (List Rec)) : Option (Bool) :=
 ((bif (decide ((a0.length : Int) ≤ 5)) then (bif decide (a0.length ≤ 4611686018427387904) then (((Xi (fun (x0_ : List Rec) => bif decide (x0_.length ≤ 1048576) then (bif decide (∀ x ∈ x0_, x.path.length ≤ 1048576) then (some (decide ((qU x0_).2 = 0))) else none) else none) a0)).bind fun z7 => some z7) else none) else some false)).bind fun z2 => some z2
theorem QL.eq (a0 : List (List Rec)) (h0 : a0.length ≤ 1048576) (h1 : ∀ l ∈ a0, l.length ≤ 1048576) (h2 : ∀ l ∈ a0, ∀ x ∈ l, x.path.length ≤ 1048576) : QL.sh a0 = some (jQ a0) := by
 unfold QL.sh jQ
 have h3 : a0.length ≤ 4611686018427387904 := by omega
 have e : Xi (fun (x0_ : List Rec) => bif decide (x0_.length ≤ 1048576) then (bif decide (∀ x ∈ x0_, x.path.length ≤ 1048576) then (some (decide ((qU x0_).2 = 0))) else none) else none) a0 = some (a0.all fun x => decide ((qv x).2 = 0)) :=
  allO_some fun x hx => by simp only [h1 x hx, decide_true, cond_true, decide_eq_true (h2 x hx), YY]
 simp only [h3, decide_true, cond_true, e, Option.bind_some]
 by_cases hl : a0.length ≤ 5
 ·have hl' : (a0.length : Int) ≤ 5 := by omega
  simp [hl, hl']
 ·have hl' : ¬ (a0.length : Int) ≤ 5 := by omega
  simp [hl, hl']
theorem lenSS4096 (l : List (List Rec)) : decide ((4096 : Int) < (l.length : Int)) = decide (4096 < l.length) := by rw [decide_eq_decide]; omega
def jt.sh (a0 : List (List Rec)) : Option (Bool) :=
 some (decide (4096 < (a0.length : Int)))
theorem jt.eq (a0 : List (List Rec)) : jt.sh a0 = some (decide (4096 < a0.length)) := by
 unfold jt.sh
 rw [lenSS4096]
theorem GL {t : List Nd} {p : List UInt8} (h : ¬ vd t p < 0) : inR (vd t p) t.length = true := Q4 (by omega) (JB t p)
theorem preL_cons (p x : List UInt8) (l : List (List UInt8)) : preL p (x :: l) = (p ++ x) :: l := rfl
theorem Vy {b : UInt8} {l : List UInt8} (h : bn b ≠ 47) : cut 47 (b :: l) = preL [b] (cut 47 l) := by rw [cut, if_neg h]
theorem Vs {b : UInt8} {l : List UInt8} (h : bn b = 47) : cut 47 (b :: l) = [] :: cut 47 l := by rw [cut, if_pos h]
theorem XI : bn (47 : UInt8) = 47 := rfl
def Qg : List (List UInt8) → List UInt8
 | [] => []
 | [x] => x
 | x :: y :: l => x ++ 47 :: Qg (y :: l)
theorem V5 (x : List UInt8) {l : List (List UInt8)} (h : l ≠ []) : Qg (x :: l) = x ++ 47 :: Qg l := by
 cases l with
 | nil => exact absurd rfl h
 | cons y l => rfl
theorem joinL_preL (p : List UInt8) (l : List (List UInt8)) (h : l ≠ []) : Qg (preL p l) = p ++ Qg l := by
 cases l with
 | nil => exact absurd rfl h
 | cons x l =>
  rw [preL_cons]
  cases l with
  | nil => rfl
  | cons y l => simp [Qg]
theorem V3 (t : List UInt8) : Qg (cut 47 t) = t := by
 induction t with
 | nil => rfl
 | cons b l ih =>
  by_cases h : bn b = 47
  ·have hb : b = 47 := by
    apply UInt8.toNat.inj
    show b.toNat = 47
    unfold bn at h; omega
   rw [Vs h, V5 _ (QZ 47 l), ih, hb]; rfl
  ·rw [Vy h, joinL_preL _ _ (QZ 47 l), ih]; rfl
theorem cut_free {x : List UInt8} (h : ∀ b ∈ x, bn b ≠ 47) : cut 47 x = [x] := by
 induction x with
 | nil => rfl
 | cons b l ih =>
  rw [Vy (h b (by simp)), ih (fun c hc => h c (by simp [hc]))]; rfl
theorem cut_app {x t : List UInt8} (h : ∀ b ∈ x, bn b ≠ 47) : cut 47 (x ++ 47 :: t) = x :: cut 47 t := by
 induction x with
 | nil => exact Vs XI
 | cons b l ih =>
  rw [List.cons_append, Vy (h b (by simp)), ih (fun c hc => h c (by simp [hc]))]; rfl
theorem JK (t : List UInt8) : ∀ x ∈ cut 47 t, ∀ b ∈ x, bn b ≠ 47 := by
 induction t with
 | nil => intro x hx; simp [cut] at hx; subst hx; simp
 | cons b l ih =>
  by_cases h : bn b = 47
  ·rw [Vs h]
   intro x hx
   rcases List.mem_cons.1 hx with rfl | hx
   ·simp
   ·exact ih x hx
  ·rw [Vy h]
   cases hc : cut 47 l with
   | nil => exact absurd hc (QZ 47 l)
   | cons y r =>
    rw [hc] at ih
    rw [preL_cons]
    intro x hx
    rcases List.mem_cons.1 hx with rfl | hx
    ·intro c hcx
     rcases List.mem_append.1 hcx with h2 | h2
     ·simp at h2; subst h2; exact h
     ·exact ih y (by simp) c h2
    ·exact ih x (by simp [hx])
theorem GW {l : List (List UInt8)} (hn : l ≠ []) (h : ∀ x ∈ l, ∀ b ∈ x, bn b ≠ 47) : cut 47 (Qg l) = l := by
 induction l with
 | nil => exact absurd rfl hn
 | cons x l ih =>
  by_cases hl : l = []
  ·subst hl; exact cut_free (h x (by simp))
  ·rw [V5 x hl, cut_app (h x (by simp)), ih hl (fun y hy => h y (by simp [hy]))]
theorem cut_inj {a b : List UInt8} (h : cut 47 a = cut 47 b) : a = b := by rw [← V3 a, ← V3 b, h]
theorem lastSlash_app (x t : List UInt8) (ht : ∀ b ∈ t, bn b ≠ 47) : vB (x ++ 47 :: t) = x.length := by
 apply Jh (by simp) (by simp [List.getD_eq_getElem?_getD]; exact XI)
 intro j h1 h2
 obtain ⟨m, rfl⟩ : ∃ m, j = x.length + 1 + m := ⟨j - x.length - 1, by omega⟩
 have h3 : m < t.length := by simp at h2; omega
 have : (x ++ 47 :: t).getD (x.length + 1 + m) 0 = t[m] := by
  have e : x.length + 1 + m - x.length = m + 1 := by omega
  rw [List.getD_eq_getElem?_getD, List.getElem?_append_right (by omega), e, List.getElem?_cons_succ, List.getElem?_eq_getElem h3]; rfl
 rw [this]
 exact ht _ (List.getElem_mem h3)
theorem Gu {l : List (List UInt8)} (x : List UInt8) (h : l ≠ []) : Qg (l ++ [x]) = Qg l ++ 47 :: x := by
 induction l with
 | nil => exact absurd rfl h
 | cons y l ih =>
  by_cases hl : l = []
  ·subst hl; rfl
  ·rw [List.cons_append, V5 y (by simp), ih hl, V5 y hl]; simp
theorem JS {l : List (List UInt8)} {x : List UInt8} (h : ∀ y ∈ l ++ [x], ∀ b ∈ y, bn b ≠ 47) : qc (Qg (l ++ [x])) = Qg l := by
 by_cases hl : l = []
 ·subst hl
  have : vB x = -1 := Je fun j hj => h x (by simp) _ (by rw [List.getD_eq_getElem?_getD, List.getElem?_eq_getElem hj]; exact List.getElem_mem hj)
  simp [qc, Qg, this]
 ·rw [Gu x hl, qc, lastSlash_app _ _ (fun b hb => h x (by simp) b hb)]
  simp
theorem parentP_cut (t : List UInt8) : qc t = Qg (cut 47 t).dropLast := by
 obtain ⟨l, x, hlx⟩ : ∃ l x, cut 47 t = l ++ [x] := ⟨(cut 47 t).dropLast, (cut 47 t).getLast (QZ 47 t), (List.dropLast_concat_getLast (QZ 47 t)).symm⟩
 have hp := JK t
 have := JS (l := l) (x := x) (by rw [← hlx]; exact hp)
 rw [hlx, List.dropLast_concat, ← this, ← hlx, V3]
theorem pathOK_parts {t : List UInt8} (h : qH t = true) : ∀ x ∈ cut 47 t, x ≠ [] := by
 simp only [qH, Bool.and_eq_true, decide_eq_true_eq, List.all_eq_true] at h
 intro x hx he
 have := h.2.2 x hx
 rw [he] at this
 revert this; decide
theorem joinL_ne {l : List (List UInt8)} (h : l ≠ []) (hp : ∀ x ∈ l, x ≠ []) : Qg l ≠ [] := by
 cases l with
 | nil => exact absurd rfl h
 | cons x l =>
  have := hp x (by simp)
  cases l with
  | nil => simpa [Qg] using this
  | cons y l => simp [Qg]
theorem ancs_joinL : ∀ (n : Nat) (l : List (List UInt8)), l.length = n → (∀ y ∈ l, ∀ b ∈ y, bn b ≠ 47) → (∀ y ∈ l, y ≠ []) → jK (Qg l) = ((List.range (l.length - 1)).map fun k => Qg (l.take (k + 1))).reverse := by
 intro n
 induction n with
 | zero => intro l hl _ _; have : l = [] := List.eq_nil_of_length_eq_zero hl; subst this; rfl
 | succ n ih =>
  intro l hl hp hn
  have hne : l ≠ [] := by intro e; subst e; simp at hl
  obtain ⟨m, x, rfl⟩ : ∃ m x, l = m ++ [x] := ⟨l.dropLast, l.getLast hne, (List.dropLast_concat_getLast hne).symm⟩
  rw [Qk, JS hp]
  have hm : m.length = n := by simpa using hl
  by_cases hm0 : m = []
  ·subst hm0; simp [Qg]
  ·have hpm : ∀ y ∈ m, y ≠ [] := fun y hy => hn y (by simp [hy])
   rw [if_neg (joinL_ne hm0 hpm), ih m hm (fun y hy => hp y (by simp [hy])) hpm]
   have hml : 0 < m.length := List.length_pos_iff.2 hm0
   have e1 : (m ++ [x]).length - 1 = (m.length - 1) + 1 := by simp; omega
   rw [e1, List.range_succ, List.map_append, List.reverse_append]
   simp only [List.map_cons, List.map_nil, List.reverse_cons, List.reverse_nil, List.nil_append, List.cons_append]
   congr 1
   ·have e2 : m.length - 1 + 1 = m.length := by omega
    rw [e2, List.take_left]
   ·congr 1
    apply List.map_congr_left
    intro k hk
    have := List.mem_range.1 hk
    rw [List.take_append_of_le_length (by omega)]
theorem ancs_cut {t : List UInt8} (h : qH t = true) : jK t = ((List.range ((cut 47 t).length - 1)).map fun k => Qg ((cut 47 t).take (k + 1))).reverse := by
 have := ancs_joinL _ (cut 47 t) rfl (JK t) (pathOK_parts h)
 rwa [V3] at this
theorem findI_first {α : Type} (q : α → Bool) : ∀ (l : List α) (i : Nat), y8 q l = i → ∀ x ∈ l.take i, q x = false := by
 intro l
 induction l with
 | nil => intro i _ x hx; simp at hx
 | cons y l ih =>
  intro i h x hx
  simp only [y8] at h
  cases i with
  | zero => simp at hx
  | succ i =>
   rcases ql (q y) with hq | hq
   ·simp only [hq, if_true] at h; omega
   ·simp only [hq, Bool.false_eq_true, if_false] at h
    by_cases hm : y8 q l = -1
    ·simp only [hm, if_true] at h; omega
    ·simp only [hm, if_false] at h
     rw [List.take_succ_cons] at hx
     rcases List.mem_cons.1 hx with rfl | hx
     ·exact hq
     ·exact ih i (by omega) x hx
theorem List.take_set_succ {α : Type} {l : List α} {i : Nat} {x : α} (h : i < l.length) : (l.set i x).take (i + 1) = l.take i ++ [x] := by
 rw [List.take_succ_eq_append_getElem (by simpa using h)]
 rw [List.take_set, List.set_eq_of_length_le (by simp; omega)]
 simp
def ye (l : List Nd) (p : List UInt8) (self : Bool) : List Nd := l.filter fun x => !((decide (p = []) && !decide (x.path = [])) || vu x.path p) && (!self || !decide (x.path = p))
theorem YH (l : List Nd) (p : List UInt8) (b : Bool) : (ye l p b).length ≤ l.length := List.length_filter_le _ _
theorem without_impl (l : List Nd) (p : List UInt8) : ye l p true = l.filter fun x => !(decide (x.path = p) || (decide (p = []) || vu x.path p)) := by
 unfold ye
 congr 1
 funext x
 by_cases h1 : x.path = p
 ·simp [h1]
 ·by_cases h2 : p = []
  ·subst h2
   simp [h1]
  ·simp [h1, h2]
def vR.b1 (a0 : List Nd) (a1 : List UInt8) (a2 : Bool) : List Nd × Int → Option (Step (List Nd) (List Nd × Int) (List Nd)) :=
 fun q => match q with
 | (x7_7, x8_9) => bif (decide (x8_9 < (a0.length : Int))) then (bif inR x8_9 a0.length then (((bif (!((decide (a1 = []) && !decide (((gt a0 x8_9).path) = [])) || vu ((gt a0 x8_9).path) a1)) then (((bif (!a2) then some true else (bif inR x8_9 a0.length then (some (!decide (((gt a0 x8_9).path) = a1))) else none))).bind fun z38 => some z38) else some false)).bind fun z37 => bif z37 then (bif inR x8_9 a0.length then (bif decide ((x7_7.length + ([gt a0 x8_9] : List Nd).length) * 48 ≤ 140737488355328) then (some (.nxt (x7_7 ++ ([gt a0 x8_9] : List Nd), IntKind.wrap .i64 (x8_9 + 1)))) else none) else none) else (some (.nxt (x7_7, IntKind.wrap .i64 (x8_9 + 1))))) else none) else (some (.brk x7_7))
def vR.sh (k : Nat) (a0 : List Nd) (a1 : List UInt8) (a2 : Bool) : Option (List Nd) :=
  (qp (vR.b1 a0 a1 a2) k (([] : List Nd), 0)).bind fun z => match z with | .inl t => some t | .inr x7_13 => some x7_13
theorem vR.eq (a0 : List Nd) (a1 : List UInt8) (a2 : Bool) (h0 : a0.length ≤ 1048576) : ∃ k, vR.sh k a0 a1 a2 = some (ye a0 a1 a2) := by
 refine ⟨a0.length + 1, ?_⟩
 unfold vR.sh
 rw [Vp a0 (fun x => if (!((decide (a1 = []) && !decide (x.path = [])) || vu x.path a1) && (!a2 || !decide (x.path = a1))) then some x else none) (vR.b1 a0 a1 a2) (fun i hi acc ha => by
  have e1 : ∀ z : Nd, (acc.length + ([z] : List Nd).length) * 48 ≤ 140737488355328 := fun z => by simp; omega
  simp only [vR.b1, yY, hi, decide_true, cond_true, qV hi, vZ, vY hi, e1, vr hi (by omega)]
  rcases ql ((decide (a1 = []) && !decide (a0[i].path = [])) || vu a0[i].path a1) with hb | hb
  ·simp [hb]
  ·generalize vu a0[i].path a1 = bl at hb ⊢
   by_cases hp : a0[i].path = a1
   ·cases a2 <;> simp [hp] at hb ⊢ <;> simp [hb]
   ·cases a2 <;> simp [hb, hp]) (fun acc => by simp [vR.b1])]
 have : ∀ l : List Nd, l.filterMap (fun x => if (!((decide (a1 = []) && !decide (x.path = [])) || vu x.path a1) && (!a2 || !decide (x.path = a1))) then some x else none) = ye l a1 a2 := by
  intro l
  have := Jl (fun x : Nd => (!((decide (a1 = []) && !decide (x.path = [])) || vu x.path a1) && (!a2 || !decide (x.path = a1)))) id l
  simpa [ye] using this
 rw [this]; rfl
def Qd.sh (a0 : Nd) (a1 : List UInt8) : Option (Bool) :=
 ((bif (decide (a0.path = a1)) then some true else (bif decide (a1.length ≤ 1048576) then (some (decide (a1 = []) || vu a0.path a1)) else none))).bind fun z8 => some z8
theorem Qd.eq (a0 : Nd) (a1 : List UInt8) (h : a1.length ≤ 1048576) : Qd.sh a0 a1 = some (decide (a0.path = a1) || (decide (a1 = []) || vu a0.path a1)) := by
 unfold Qd.sh
 by_cases hp : a0.path = a1 <;> simp [hp, h]
theorem Gj {r : Rec} (h : qx r = 0) (ho : r.opq = true) : r.kind = 3 := by
 unfold qx at h
 by_cases hk : r.kind = 3
 ·exact hk
 ·simp only [ho, hk, decide_false, Bool.not_false, Bool.true_and, Bool.or_true, if_true] at h
  repeat' split at h
  all_goals omega
end Go.UL
