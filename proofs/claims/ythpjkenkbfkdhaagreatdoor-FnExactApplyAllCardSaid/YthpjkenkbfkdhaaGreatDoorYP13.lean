/- Plain Lean: what the functions compute. -/
import Derived.Test.YthpjkenkbfkdhaaGreatDoorYP12
set_option linter.unusedVariables false
set_option linter.unusedSimpArgs false
namespace Go.UL
open Go.RowKit
/-! ### right layers -/
theorem layerFault_zero {l : List Rec} (h : (layerFault l).2 = 0) : ∀ i, i < l.length → codeAt l i = 0 := by
  unfold layerFault at h
  cases hf : (List.range l.length).findSome? (fun i => if codeAt l i = 0 then none else some ((i : Int), codeAt l i)) with
  | none =>
    intro i hi
    have := List.findSome?_eq_none_iff.1 hf i (List.mem_range.2 hi)
    by_cases hc : codeAt l i = 0
    · exact hc
    · simp [hc] at this
  | some x =>
    rw [hf] at h
    obtain ⟨i, _, hi⟩ := List.exists_of_findSome?_eq_some hf
    by_cases hc : codeAt l i = 0
    · simp [hc] at hi
    · simp only [hc, if_false, Option.some.injEq] at hi
      subst hi
      exact absurd h hc
theorem layerOK_rec {l : List Rec} (h : (layerFault l).2 = 0) : ∀ x ∈ l, recFault x = 0 := by
  intro x hx
  obtain ⟨i, hi, rfl⟩ := List.getElem_of_mem hx
  have := codeAt_rec (layerFault_zero h i hi)
  rwa [getD_el hi] at this
theorem layerOK_len {l : List Rec} (h : (layerFault l).2 = 0) : l.length ≤ 16 := by
  by_cases hc : l.length ≤ 16
  · exact hc
  · have := layerFault_zero h 16 (by omega)
    simp [codeAt] at this
/-! ### the canonical form -/
/-! ### two layers -/
/-! ### trees as layers -/
def impl_isLongListN.sh (a0 : List Nd) : Option (Bool) :=
  some (decide (4096 < (a0.length : Int)))
theorem impl_isLongListN.eq (a0 : List Nd) : impl_isLongListN.sh a0 = some (decide (4096 < a0.length)) := by
  have : (4096 : Int) < (a0.length : Int) ↔ 4096 < a0.length := by omega
  simp [impl_isLongListN.sh, this]
/-! ### marks -/
def markN (k : Int) : Nd := ⟨k, markT (k + 1), markT (k + 2), k + 3⟩
def markR (k : Int) : Rec := ⟨k, markT (k + 1), markT (k + 2), k + 3, decide ((k + 4).tmod 3 = 0)⟩
def marksN (n : Nat) (k : Int) : List Nd := (List.range n).map fun (i : Nat) => markN (k + ((i * 4 : Nat) : Int))
def marksR (n : Nat) (k : Int) : List Rec := (List.range n).map fun (i : Nat) => markR (k + ((i * 5 : Nat) : Int))
def heldN (xs : List Nd) (k : Int) : Int := if xs = marksN xs.length k then k + 4 * (xs.length : Int) else -1
theorem marksN_length (n : Nat) (k : Int) : (marksN n k).length = n := by simp [marksN]
theorem heldN_marks (n : Nat) (k : Int) : heldN (marksN n k) k = k + 4 * (n : Int) := by
  unfold heldN; rw [marksN_length]; simp
def laws_markNodeS.b1  : Int × Int × List Nd → Option (Step (Int × List Nd) (Int × Int × List Nd) (Int × List Nd)) :=
  fun q => match q with
  | (x1_1, x5_2, y3) => bif (decide (x5_2 < (y3.length : Int))) then (bif inR x5_2 y3.length then (bif decide (((IntKind.wrap .i64 (x1_1 + 1)) : Int) ≤ 4611686018427387904) then (bif decide (((IntKind.wrap .i64 ((IntKind.wrap .i64 (x1_1 + 1)) + 1)) : Int) ≤ 4611686018427387904) then (some (.nxt (IntKind.wrap .i64 ((IntKind.wrap .i64 ((IntKind.wrap .i64 ((IntKind.wrap .i64 (x1_1 + 1)) + 1)) + 1)) + 1), IntKind.wrap .i64 (x5_2 + 1), setI y3 x5_2 (⟨x1_1, (markT (IntKind.wrap .i64 (x1_1 + 1))), (markT (IntKind.wrap .i64 ((IntKind.wrap .i64 (x1_1 + 1)) + 1))), IntKind.wrap .i64 ((IntKind.wrap .i64 ((IntKind.wrap .i64 (x1_1 + 1)) + 1)) + 1)⟩ : Nd)))) else none) else none) else none) else (some (.brk (x1_1, y3)))
def laws_markNodeS.sh (k : Nat) (a0 : List Nd) (a1 : Int) : Option (Int × List Nd) :=
  (loopF (laws_markNodeS.b1) k (a1, 0, a0)).bind fun z => match z with | .inl t => some t | .inr (x1_7, y8) => some (x1_7, y8)
theorem laws_markNodeS.eq (a0 : List Nd) (a1 : Int) (h0 : a0.length ≤ 1152921504606846976) (h1 : 0 ≤ a1) (h2 : a1 ≤ 4611686018427387904 - 4 * a0.length) : ∃ k, laws_markNodeS.sh k a0 a1 = some (a1 + 4 * (a0.length : Int), marksN a0.length a1) := by
  refine ⟨a0.length + 1, ?_⟩
  have := mark_run a0 (fun (i : Nat) => markN (a1 + ((i * 4 : Nat) : Int))) a1 4 laws_markNodeS.b1 (fun i hi y hy => by
    have e2 : a1 + (((i + 1) * 4 : Nat) : Int) = a1 + ((i * 4 : Nat) : Int) + 4 := by omega
    obtain ⟨c, hc⟩ : ∃ c, a1 + ((i * 4 : Nat) : Int) = c := ⟨_, rfl⟩
    have h3 : 0 ≤ c ∧ c + 4 ≤ 4611686018427387904 := by omega
    have h4 : c + 1 ≤ 4611686018427387904 := by omega
    have h5 : c + 1 + 1 ≤ 4611686018427387904 := by omega
    rw [e2, hc]
    simp only [laws_markNodeS.b1, hy, lt_nat, hi, decide_true, cond_true, inR_nat hi, wrap_succ hi (by omega)]
    rw [wrap_small (n := c + 1) (by omega) (by omega), wrap_small (n := c + 1 + 1) (by omega) (by omega), wrap_small (n := c + 1 + 1 + 1) (by omega) (by omega), wrap_small (n := c + 1 + 1 + 1 + 1) (by omega) (by omega)]
    simp only [h4, h5, decide_true, cond_true, markN]
    have : c + 1 + 1 = c + 2 := by omega
    rw [this]
    have : c + 2 + 1 = c + 3 := by omega
    rw [this]
    have : c + 3 + 1 = c + 4 := by omega
    rw [this]) (fun y hy => by simp [laws_markNodeS.b1, hy])
  unfold laws_markNodeS.sh
  rw [this]
  simp only [Option.bind_some, marksN]
  congr 2; omega
def laws_markRecordS.b1  : Int × Int × List Rec → Option (Step (Int × List Rec) (Int × Int × List Rec) (Int × List Rec)) :=
  fun q => match q with
  | (x1_1, x5_2, y3) => bif (decide (x5_2 < (y3.length : Int))) then (bif inR x5_2 y3.length then (bif decide (((IntKind.wrap .i64 (x1_1 + 1)) : Int) ≤ 4611686018427387904) then (bif decide (((IntKind.wrap .i64 ((IntKind.wrap .i64 (x1_1 + 1)) + 1)) : Int) ≤ 4611686018427387904) then (some (.nxt (IntKind.wrap .i64 ((IntKind.wrap .i64 ((IntKind.wrap .i64 ((IntKind.wrap .i64 ((IntKind.wrap .i64 (x1_1 + 1)) + 1)) + 1)) + 1)) + 1), IntKind.wrap .i64 (x5_2 + 1), setI y3 x5_2 (⟨x1_1, (markT (IntKind.wrap .i64 (x1_1 + 1))), (markT (IntKind.wrap .i64 ((IntKind.wrap .i64 (x1_1 + 1)) + 1))), IntKind.wrap .i64 ((IntKind.wrap .i64 ((IntKind.wrap .i64 (x1_1 + 1)) + 1)) + 1), (decide (((IntKind.wrap .i64 ((IntKind.wrap .i64 ((IntKind.wrap .i64 ((IntKind.wrap .i64 (x1_1 + 1)) + 1)) + 1)) + 1)).tmod 3) = 0))⟩ : Rec)))) else none) else none) else none) else (some (.brk (x1_1, y3)))
def laws_markRecordS.sh (k : Nat) (a0 : List Rec) (a1 : Int) : Option (Int × List Rec) :=
  (loopF (laws_markRecordS.b1) k (a1, 0, a0)).bind fun z => match z with | .inl t => some t | .inr (x1_7, y8) => some (x1_7, y8)
theorem laws_markRecordS.eq (a0 : List Rec) (a1 : Int) (h0 : a0.length ≤ 576460752303423488) (h1 : 0 ≤ a1) (h2 : a1 ≤ 4611686018427387904 - 5 * a0.length) : ∃ k, laws_markRecordS.sh k a0 a1 = some (a1 + 5 * (a0.length : Int), marksR a0.length a1) := by
  refine ⟨a0.length + 1, ?_⟩
  have := mark_run a0 (fun (i : Nat) => markR (a1 + ((i * 5 : Nat) : Int))) a1 5 laws_markRecordS.b1 (fun i hi y hy => by
    have e2 : a1 + (((i + 1) * 5 : Nat) : Int) = a1 + ((i * 5 : Nat) : Int) + 5 := by omega
    obtain ⟨c, hc⟩ : ∃ c, a1 + ((i * 5 : Nat) : Int) = c := ⟨_, rfl⟩
    have h3 : 0 ≤ c ∧ c + 5 ≤ 4611686018427387904 := by omega
    have h4 : c + 1 ≤ 4611686018427387904 := by omega
    have h5 : c + 1 + 1 ≤ 4611686018427387904 := by omega
    rw [e2, hc]
    simp only [laws_markRecordS.b1, hy, lt_nat, hi, decide_true, cond_true, inR_nat hi, wrap_succ hi (by omega)]
    rw [wrap_small (n := c + 1) (by omega) (by omega), wrap_small (n := c + 1 + 1) (by omega) (by omega), wrap_small (n := c + 1 + 1 + 1) (by omega) (by omega), wrap_small (n := c + 1 + 1 + 1 + 1) (by omega) (by omega), wrap_small (n := c + 1 + 1 + 1 + 1 + 1) (by omega) (by omega)]
    simp only [h4, h5, decide_true, cond_true, markR]
    have : c + 1 + 1 = c + 2 := by omega
    rw [this]
    have : c + 2 + 1 = c + 3 := by omega
    rw [this]
    have : c + 3 + 1 = c + 4 := by omega
    rw [this]
    have : c + 4 + 1 = c + 5 := by omega
    rw [this]) (fun y hy => by simp [laws_markRecordS.b1, hy])
  unfold laws_markRecordS.sh
  rw [this]
  simp only [Option.bind_some, marksR]
  congr 2; omega
def laws_heldNodeS.b1 (a0 : List Nd) : Int × Int → Option (Step (Int) (Int × Int) (Int)) :=
  fun q => match q with
  | (x1_1, x5_2) => bif (decide (x5_2 < (a0.length : Int))) then (bif inR x5_2 a0.length then (bif (!decide (((gt a0 x5_2).kind) = x1_1)) then (some (.ret (-1))) else (bif inR x5_2 a0.length then (bif decide (((IntKind.wrap .i64 (x1_1 + 1)) : Int) ≤ 4611686018427387904) then (bif (!decide (((gt a0 x5_2).path) = (markT (IntKind.wrap .i64 (x1_1 + 1))))) then (some (.ret (-1))) else (bif inR x5_2 a0.length then (bif decide (((IntKind.wrap .i64 ((IntKind.wrap .i64 (x1_1 + 1)) + 1)) : Int) ≤ 4611686018427387904) then (bif (!decide (((gt a0 x5_2).body) = (markT (IntKind.wrap .i64 ((IntKind.wrap .i64 (x1_1 + 1)) + 1))))) then (some (.ret (-1))) else (bif inR x5_2 a0.length then (bif (!decide (((gt a0 x5_2).mode) = (IntKind.wrap .i64 ((IntKind.wrap .i64 ((IntKind.wrap .i64 (x1_1 + 1)) + 1)) + 1)))) then (some (.ret (-1))) else (some (.nxt (IntKind.wrap .i64 ((IntKind.wrap .i64 ((IntKind.wrap .i64 ((IntKind.wrap .i64 (x1_1 + 1)) + 1)) + 1)) + 1), IntKind.wrap .i64 (x5_2 + 1))))) else none)) else none) else none)) else none) else none)) else none) else (some (.brk x1_1))
def laws_heldNodeS.sh (k : Nat) (a0 : List Nd) (a1 : Int) : Option (Int) :=
  (loopF (laws_heldNodeS.b1 a0) k (a1, 0)).bind fun z => match z with | .inl t => some t | .inr x1_6 => some x1_6
theorem laws_heldNodeS.eq (a0 : List Nd) (a1 : Int) (h0 : a0.length ≤ 1152921504606846976) (h1 : 0 ≤ a1) (h2 : a1 ≤ 4611686018427387904 - 4 * a0.length) : ∃ k, laws_heldNodeS.sh k a0 a1 = some (heldN a0 a1) := by
  refine ⟨a0.length + 1, ?_⟩
  have := held_run a0 (fun (i : Nat) => markN (a1 + ((i * 4 : Nat) : Int))) a1 4 (laws_heldNodeS.b1 a0) (fun i hi => by
    have e2 : a1 + (((i + 1) * 4 : Nat) : Int) = a1 + ((i * 4 : Nat) : Int) + 4 := by omega
    obtain ⟨c, hc⟩ : ∃ c, a1 + ((i * 4 : Nat) : Int) = c := ⟨_, rfl⟩
    have h3 : 0 ≤ c ∧ c + 4 ≤ 4611686018427387904 := by omega
    have h4 : c + 1 ≤ 4611686018427387904 := by omega
    have h5 : c + 2 ≤ 4611686018427387904 := by omega
    rw [e2, hc]
    simp only [laws_heldNodeS.b1, lt_nat, hi, decide_true, cond_true, inR_nat hi, getD_gt, wrap_succ hi (by omega)]
    obtain ⟨x, hx⟩ : ∃ x, a0.getD i default = x := ⟨_, rfl⟩
    obtain ⟨f1, f2, f3, f4⟩ := x
    simp only [hx, markN, Nd.mk.injEq]
    rw [wrap_small (n := c + 1) (by omega) (by omega), wrap_small (n := c + 1 + 1) (by omega) (by omega), wrap_small (n := c + 1 + 1 + 1) (by omega) (by omega), wrap_small (n := c + 1 + 1 + 1 + 1) (by omega) (by omega)]
    have : c + 1 + 1 = c + 2 := by omega
    rw [this]
    have : c + 2 + 1 = c + 3 := by omega
    rw [this]
    have : c + 3 + 1 = c + 4 := by omega
    rw [this]
    simp only [h4, h5, decide_true, cond_true]
    by_cases g1 : f1 = c
    · by_cases g2 : f2 = markT (c + 1)
      · by_cases g3 : f3 = markT (c + 2)
        · by_cases g4 : f4 = c + 3
          · simp [g1, g2, g3, g4]
          · simp [g1, g2, g3, g4]
        · simp [g1, g2, g3]
      · simp [g1, g2]
    · simp [g1]) (by simp [laws_heldNodeS.b1])
  unfold laws_heldNodeS.sh
  rw [this]
  unfold heldN marksN
  by_cases he : a0 = (List.range a0.length).map fun (i : Nat) => markN (a1 + ((i * 4 : Nat) : Int))
  · rw [if_pos he, if_pos he]
    simp only [Option.bind_some]
    congr 1; omega
  · rw [if_neg he, if_neg he]; simp
end Go.UL
