/- Plain Lean: what the functions compute. -/
import Derived.Test.YthpjkenkbfkdhaaGreatDoorBP12
set_option linter.unusedVariables false
set_option linter.unusedSimpArgs false
namespace Go.UL
open Go.RowKit
/-! ### right layers -/
theorem layerFault_zero {l : List Rec} (h : (layerFault l).2 = 0) : ∀ i, i < l.length → codeAt l i = 0 := by
  unfold layerFault at h
  cases hf : (List.range l.length).findSome? (fun i => if codeAt l i = 0 then none else some ((i : Int), codeAt l i)) with
  | none =>
    intro i hi
    have := List.findSome?_eq_none_iff.1 hf i (List.mem_range.2 hi)
    by_cases hc : codeAt l i = 0
    · exact hc
    · simp [hc] at this
  | some x =>
    rw [hf] at h
    obtain ⟨i, _, hi⟩ := List.exists_of_findSome?_eq_some hf
    by_cases hc : codeAt l i = 0
    · simp [hc] at hi
    · simp only [hc, if_false, Option.some.injEq] at hi
      subst hi
      exact absurd h hc
theorem layerFault_of {l : List Rec} (h : ∀ i, i < l.length → codeAt l i = 0) : layerFault l = (0, 0) := by
  unfold layerFault
  have : (List.range l.length).findSome? (fun i => if codeAt l i = 0 then none else some ((i : Int), codeAt l i)) = none := by
    apply List.findSome?_eq_none_iff.2
    intro i hi
    simp [h i (List.mem_range.1 hi)]
  rw [this]
theorem layerOK_rec {l : List Rec} (h : (layerFault l).2 = 0) : ∀ x ∈ l, recFault x = 0 := by
  intro x hx
  obtain ⟨i, hi, rfl⟩ := List.getElem_of_mem hx
  have := codeAt_rec (layerFault_zero h i hi)
  rwa [getD_el hi] at this
theorem layerOK_path {l : List Rec} (h : (layerFault l).2 = 0) : ∀ x ∈ l, pathOK x.path = true := fun x hx => recFault_path (layerOK_rec h x hx)
theorem layerOK_len {l : List Rec} (h : (layerFault l).2 = 0) : l.length ≤ 16 := by
  by_cases hc : l.length ≤ 16
  · exact hc
  · have := layerFault_zero h 16 (by omega)
    simp [codeAt] at this
theorem pathOK_depth {p : List UInt8} (h : pathOK p = true) : (cut 47 p).length ≤ 4 := by
  simp only [pathOK, Bool.and_eq_true, decide_eq_true_eq] at h
  exact h.2.1
/-! ### the canonical form -/
def canonR (l : List Rec) (r : Rec) : Option Rec :=
  if underO l r.path then (if r.kind = 4 then none else some ⟨r.kind, r.path, r.body, r.mode, false⟩) else some ⟨r.kind, r.path, r.body, r.mode, r.opq && decide ((cut 47 r.path).length < 4)⟩
def canonL (l : List Rec) : List Rec := l.filterMap (canonR l)
theorem canonL_len (l : List Rec) : (canonL l).length ≤ l.length := List.length_filterMap_le _ _
def isCanon (l : List Rec) : Bool := decide ((layerFaultL l).2 = 0) && decide (canonL l = l)
/-! ### two layers -/
def pairCode (a b : List Rec) : Int := if decide (4096 < a.length) || decide (4096 < b.length) then 2 else if !decide ((layerFault a).2 = 0) || !decide ((layerFault b).2 = 0) then 1 else 0
theorem pairCode_zero {a b : List Rec} (h : pairCode a b = 0) : (layerFault a).2 = 0 ∧ (layerFault b).2 = 0 := by
  unfold pairCode at h
  split at h
  · cases h
  · split at h
    · cases h
    · rename_i h1
      simpa using h1
def alike (a b : List Rec) : Bool × Int := if pairCode a b = 0 then (decide (canonL a = canonL b), 0) else (false, pairCode a b)
/-! ### trees as layers -/
def layerOfT (l : List Nd) : List Rec × Int := if 4096 < l.length then ([], 2) else if !treeOK l then ([], 1) else if 16 < l.length then ([], 6) else (l.map recOf, 0)
theorem lenN4096 (l : List Nd) : decide ((4096 : Int) < (l.length : Int)) = decide (4096 < l.length) := by rw [decide_eq_decide]; omega
theorem lenN16 (l : List Nd) : decide ((16 : Int) < (l.length : Int)) = decide (16 < l.length) := by rw [decide_eq_decide]; omega
def impl_isLongListN.sh (a0 : List Nd) : Option (Bool) :=
  some (decide (4096 < (a0.length : Int)))
theorem impl_isLongListN.eq (a0 : List Nd) : impl_isLongListN.sh a0 = some (decide (4096 < a0.length)) := by
  have : (4096 : Int) < (a0.length : Int) ↔ 4096 < a0.length := by omega
  simp [impl_isLongListN.sh, this]
theorem layerOfT_len (l : List Nd) : (layerOfT l).1.length ≤ l.length := by
  unfold layerOfT
  repeat (split; simp)
  simp
/-! ### marks -/
def canonOf (l : List Rec) : List Rec × Int := if 4096 < l.length then ([], 2) else if (layerFault l).2 ≠ 0 then ([], 1) else (canonL l, 0)
theorem canonOf_len (l : List Rec) : (canonOf l).1.length ≤ l.length := by
  have := canonL_len l
  unfold canonOf
  repeat (split; simp)
  exact this
def hiddenL (a b : List Rec) : List (List UInt8) × Int := if pairCode a b = 0 then ((a.filter fun r => cutsR b r.path).map (·.path), 0) else ([], pairCode a b)
theorem hiddenL_len (a b : List Rec) : (hiddenL a b).1.length ≤ a.length := by
  unfold hiddenL
  split
  · simpa using List.length_filter_le _ a
  · simp

end Go.UL
