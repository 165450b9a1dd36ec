/- Plain Lean: what the functions compute. -/
import Derived.Test.YthpjkenkbfkdhaaGreatDoorVP12
set_option linter.unusedVariables false
set_option linter.unusedSimpArgs false
namespace Go.UL
open Go.RowKit
/-! ### right layers -/
theorem layerFault_zero {l : List Rec} (h : (layerFault l).2 = 0) : ∀ i, i < l.length → codeAt l i = 0 := by
  unfold layerFault at h
  cases hf : (List.range l.length).findSome? (fun i => if codeAt l i = 0 then none else some ((i : Int), codeAt l i)) with
  | none =>
    intro i hi
    have := List.findSome?_eq_none_iff.1 hf i (List.mem_range.2 hi)
    by_cases hc : codeAt l i = 0
    · exact hc
    · simp [hc] at this
  | some x =>
    rw [hf] at h
    obtain ⟨i, _, hi⟩ := List.exists_of_findSome?_eq_some hf
    by_cases hc : codeAt l i = 0
    · simp [hc] at hi
    · simp only [hc, if_false, Option.some.injEq] at hi
      subst hi
      exact absurd h hc
theorem layerFault_of {l : List Rec} (h : ∀ i, i < l.length → codeAt l i = 0) : layerFault l = (0, 0) := by
  unfold layerFault
  have : (List.range l.length).findSome? (fun i => if codeAt l i = 0 then none else some ((i : Int), codeAt l i)) = none := by
    apply List.findSome?_eq_none_iff.2
    intro i hi
    simp [h i (List.mem_range.1 hi)]
  rw [this]
theorem layerOK_rec {l : List Rec} (h : (layerFault l).2 = 0) : ∀ x ∈ l, recFault x = 0 := by
  intro x hx
  obtain ⟨i, hi, rfl⟩ := List.getElem_of_mem hx
  have := codeAt_rec (layerFault_zero h i hi)
  rwa [getD_el hi] at this
theorem layerOK_path {l : List Rec} (h : (layerFault l).2 = 0) : ∀ x ∈ l, pathOK x.path = true := fun x hx => recFault_path (layerOK_rec h x hx)
theorem layerOK_len {l : List Rec} (h : (layerFault l).2 = 0) : l.length ≤ 16 := by
  by_cases hc : l.length ≤ 16
  · exact hc
  · have := layerFault_zero h 16 (by omega)
    simp [codeAt] at this
theorem pathOK_depth {p : List UInt8} (h : pathOK p = true) : (cut 47 p).length ≤ 4 := by
  simp only [pathOK, Bool.and_eq_true, decide_eq_true_eq] at h
  exact h.2.1
/-! ### the canonical form -/
def canonR (l : List Rec) (r : Rec) : Option Rec :=
  if underO l r.path then (if r.kind = 4 then none else some ⟨r.kind, r.path, r.body, r.mode, false⟩) else some ⟨r.kind, r.path, r.body, r.mode, r.opq && decide ((cut 47 r.path).length < 4)⟩
def canonL (l : List Rec) : List Rec := l.filterMap (canonR l)
theorem canonL_len (l : List Rec) : (canonL l).length ≤ l.length := List.length_filterMap_le _ _
def isCanon (l : List Rec) : Bool := decide ((layerFaultL l).2 = 0) && decide (canonL l = l)
/-! ### two layers -/
def pairCode (a b : List Rec) : Int := if decide (4096 < a.length) || decide (4096 < b.length) then 2 else if !decide ((layerFault a).2 = 0) || !decide ((layerFault b).2 = 0) then 1 else 0
theorem pairCode_zero {a b : List Rec} (h : pairCode a b = 0) : (layerFault a).2 = 0 ∧ (layerFault b).2 = 0 := by
  unfold pairCode at h
  split at h
  · cases h
  · split at h
    · cases h
    · rename_i h1
      simpa using h1
def alike (a b : List Rec) : Bool × Int := if pairCode a b = 0 then (decide (canonL a = canonL b), 0) else (false, pairCode a b)
/-! ### trees as layers -/
def layerOfT (l : List Nd) : List Rec × Int := if 4096 < l.length then ([], 2) else if !treeOK l then ([], 1) else if 16 < l.length then ([], 6) else (l.map recOf, 0)
theorem lenN4096 (l : List Nd) : decide ((4096 : Int) < (l.length : Int)) = decide (4096 < l.length) := by rw [decide_eq_decide]; omega
theorem lenN16 (l : List Nd) : decide ((16 : Int) < (l.length : Int)) = decide (16 < l.length) := by rw [decide_eq_decide]; omega
theorem layerOfT_len (l : List Nd) : (layerOfT l).1.length ≤ l.length := by
  unfold layerOfT
  repeat (split; simp)
  simp
/-! ### marks -/
def markN (k : Int) : Nd := ⟨k, markT (k + 1), markT (k + 2), k + 3⟩
def markR (k : Int) : Rec := ⟨k, markT (k + 1), markT (k + 2), k + 3, decide ((k + 4).tmod 3 = 0)⟩
def marksN (n : Nat) (k : Int) : List Nd := (List.range n).map fun (i : Nat) => markN (k + ((i * 4 : Nat) : Int))
def marksR (n : Nat) (k : Int) : List Rec := (List.range n).map fun (i : Nat) => markR (k + ((i * 5 : Nat) : Int))
def heldN (xs : List Nd) (k : Int) : Int := if xs = marksN xs.length k then k + 4 * (xs.length : Int) else -1
def heldR (xs : List Rec) (k : Int) : Int := if xs = marksR xs.length k then k + 5 * (xs.length : Int) else -1
theorem marksN_length (n : Nat) (k : Int) : (marksN n k).length = n := by simp [marksN]
theorem marksR_length (n : Nat) (k : Int) : (marksR n k).length = n := by simp [marksR]
theorem heldN_marks (n : Nat) (k : Int) : heldN (marksN n k) k = k + 4 * (n : Int) := by
  unfold heldN; rw [marksN_length]; simp
theorem heldR_marks (n : Nat) (k : Int) : heldR (marksR n k) k = k + 5 * (n : Int) := by
  unfold heldR; rw [marksR_length]; simp
def laws_markNodeS.b1  : Int × Int × List Nd → Option (Step (Int × List Nd) (Int × Int × List Nd) (Int × List Nd)) :=
  fun q => match q with
  | (x1_1, x5_2, y3) => bif (decide (x5_2 < (y3.length : Int))) then (bif inR x5_2 y3.length then (bif decide (((IntKind.wrap .i64 (x1_1 + 1)) : Int) ≤ 4611686018427387904) then (bif decide (((IntKind.wrap .i64 ((IntKind.wrap .i64 (x1_1 + 1)) + 1)) : Int) ≤ 4611686018427387904) then (some (.nxt (IntKind.wrap .i64 ((IntKind.wrap .i64 ((IntKind.wrap .i64 ((IntKind.wrap .i64 (x1_1 + 1)) + 1)) + 1)) + 1), IntKind.wrap .i64 (x5_2 + 1), setI y3 x5_2 (⟨x1_1, (markT (IntKind.wrap .i64 (x1_1 + 1))), (markT (IntKind.wrap .i64 ((IntKind.wrap .i64 (x1_1 + 1)) + 1))), IntKind.wrap .i64 ((IntKind.wrap .i64 ((IntKind.wrap .i64 (x1_1 + 1)) + 1)) + 1)⟩ : Nd)))) else none) else none) else none) else (some (.brk (x1_1, y3)))
def laws_markNodeS.sh (k : Nat) (a0 : List Nd) (a1 : Int) : Option (Int × List Nd) :=
  (loopF (laws_markNodeS.b1) k (a1, 0, a0)).bind fun z => match z with | .inl t => some t | .inr (x1_7, y8) => some (x1_7, y8)
theorem laws_markNodeS.eq (a0 : List Nd) (a1 : Int) (h0 : a0.length ≤ 1152921504606846976) (h1 : 0 ≤ a1) (h2 : a1 ≤ 4611686018427387904 - 4 * a0.length) : ∃ k, laws_markNodeS.sh k a0 a1 = some (a1 + 4 * (a0.length : Int), marksN a0.length a1) := by
  refine ⟨a0.length + 1, ?_⟩
  have := mark_run a0 (fun (i : Nat) => markN (a1 + ((i * 4 : Nat) : Int))) a1 4 laws_markNodeS.b1 (fun i hi y hy => by
    have e2 : a1 + (((i + 1) * 4 : Nat) : Int) = a1 + ((i * 4 : Nat) : Int) + 4 := by omega
    obtain ⟨c, hc⟩ : ∃ c, a1 + ((i * 4 : Nat) : Int) = c := ⟨_, rfl⟩
    have h3 : 0 ≤ c ∧ c + 4 ≤ 4611686018427387904 := by omega
    have h4 : c + 1 ≤ 4611686018427387904 := by omega
    have h5 : c + 1 + 1 ≤ 4611686018427387904 := by omega
    rw [e2, hc]
    simp only [laws_markNodeS.b1, hy, lt_nat, hi, decide_true, cond_true, inR_nat hi, wrap_succ hi (by omega)]
    rw [wrap_small (n := c + 1) (by omega) (by omega), wrap_small (n := c + 1 + 1) (by omega) (by omega), wrap_small (n := c + 1 + 1 + 1) (by omega) (by omega), wrap_small (n := c + 1 + 1 + 1 + 1) (by omega) (by omega)]
    simp only [h4, h5, decide_true, cond_true, markN]
    have : c + 1 + 1 = c + 2 := by omega
    rw [this]
    have : c + 2 + 1 = c + 3 := by omega
    rw [this]
    have : c + 3 + 1 = c + 4 := by omega
    rw [this]) (fun y hy => by simp [laws_markNodeS.b1, hy])
  unfold laws_markNodeS.sh
  rw [this]
  simp only [Option.bind_some, marksN]
  congr 2; omega
def laws_markRecordS.b1  : Int × Int × List Rec → Option (Step (Int × List Rec) (Int × Int × List Rec) (Int × List Rec)) :=
  fun q => match q with
  | (x1_1, x5_2, y3) => bif (decide (x5_2 < (y3.length : Int))) then (bif inR x5_2 y3.length then (bif decide (((IntKind.wrap .i64 (x1_1 + 1)) : Int) ≤ 4611686018427387904) then (bif decide (((IntKind.wrap .i64 ((IntKind.wrap .i64 (x1_1 + 1)) + 1)) : Int) ≤ 4611686018427387904) then (some (.nxt (IntKind.wrap .i64 ((IntKind.wrap .i64 ((IntKind.wrap .i64 ((IntKind.wrap .i64 ((IntKind.wrap .i64 (x1_1 + 1)) + 1)) + 1)) + 1)) + 1), IntKind.wrap .i64 (x5_2 + 1), setI y3 x5_2 (⟨x1_1, (markT (IntKind.wrap .i64 (x1_1 + 1))), (markT (IntKind.wrap .i64 ((IntKind.wrap .i64 (x1_1 + 1)) + 1))), IntKind.wrap .i64 ((IntKind.wrap .i64 ((IntKind.wrap .i64 (x1_1 + 1)) + 1)) + 1), (decide (((IntKind.wrap .i64 ((IntKind.wrap .i64 ((IntKind.wrap .i64 ((IntKind.wrap .i64 (x1_1 + 1)) + 1)) + 1)) + 1)).tmod 3) = 0))⟩ : Rec)))) else none) else none) else none) else (some (.brk (x1_1, y3)))
def laws_markRecordS.sh (k : Nat) (a0 : List Rec) (a1 : Int) : Option (Int × List Rec) :=
  (loopF (laws_markRecordS.b1) k (a1, 0, a0)).bind fun z => match z with | .inl t => some t | .inr (x1_7, y8) => some (x1_7, y8)
theorem laws_markRecordS.eq (a0 : List Rec) (a1 : Int) (h0 : a0.length ≤ 576460752303423488) (h1 : 0 ≤ a1) (h2 : a1 ≤ 4611686018427387904 - 5 * a0.length) : ∃ k, laws_markRecordS.sh k a0 a1 = some (a1 + 5 * (a0.length : Int), marksR a0.length a1) := by
  refine ⟨a0.length + 1, ?_⟩
  have := mark_run a0 (fun (i : Nat) => markR (a1 + ((i * 5 : Nat) : Int))) a1 5 laws_markRecordS.b1 (fun i hi y hy => by
    have e2 : a1 + (((i + 1) * 5 : Nat) : Int) = a1 + ((i * 5 : Nat) : Int) + 5 := by omega
    obtain ⟨c, hc⟩ : ∃ c, a1 + ((i * 5 : Nat) : Int) = c := ⟨_, rfl⟩
    have h3 : 0 ≤ c ∧ c + 5 ≤ 4611686018427387904 := by omega
    have h4 : c + 1 ≤ 4611686018427387904 := by omega
    have h5 : c + 1 + 1 ≤ 4611686018427387904 := by omega
    rw [e2, hc]
    simp only [laws_markRecordS.b1, hy, lt_nat, hi, decide_true, cond_true, inR_nat hi, wrap_succ hi (by omega)]
    rw [wrap_small (n := c + 1) (by omega) (by omega), wrap_small (n := c + 1 + 1) (by omega) (by omega), wrap_small (n := c + 1 + 1 + 1) (by omega) (by omega), wrap_small (n := c + 1 + 1 + 1 + 1) (by omega) (by omega), wrap_small (n := c + 1 + 1 + 1 + 1 + 1) (by omega) (by omega)]
    simp only [h4, h5, decide_true, cond_true, markR]
    have : c + 1 + 1 = c + 2 := by omega
    rw [this]
    have : c + 2 + 1 = c + 3 := by omega
    rw [this]
    have : c + 3 + 1 = c + 4 := by omega
    rw [this]
    have : c + 4 + 1 = c + 5 := by omega
    rw [this]) (fun y hy => by simp [laws_markRecordS.b1, hy])
  unfold laws_markRecordS.sh
  rw [this]
  simp only [Option.bind_some, marksR]
  congr 2; omega
def laws_heldNodeS.b1 (a0 : List Nd) : Int × Int → Option (Step (Int) (Int × Int) (Int)) :=
  fun q => match q with
  | (x1_1, x5_2) => bif (decide (x5_2 < (a0.length : Int))) then (bif inR x5_2 a0.length then (bif (!decide (((gt a0 x5_2).kind) = x1_1)) then (some (.ret (-1))) else (bif inR x5_2 a0.length then (bif decide (((IntKind.wrap .i64 (x1_1 + 1)) : Int) ≤ 4611686018427387904) then (bif (!decide (((gt a0 x5_2).path) = (markT (IntKind.wrap .i64 (x1_1 + 1))))) then (some (.ret (-1))) else (bif inR x5_2 a0.length then (bif decide (((IntKind.wrap .i64 ((IntKind.wrap .i64 (x1_1 + 1)) + 1)) : Int) ≤ 4611686018427387904) then (bif (!decide (((gt a0 x5_2).body) = (markT (IntKind.wrap .i64 ((IntKind.wrap .i64 (x1_1 + 1)) + 1))))) then (some (.ret (-1))) else (bif inR x5_2 a0.length then (bif (!decide (((gt a0 x5_2).mode) = (IntKind.wrap .i64 ((IntKind.wrap .i64 ((IntKind.wrap .i64 (x1_1 + 1)) + 1)) + 1)))) then (some (.ret (-1))) else (some (.nxt (IntKind.wrap .i64 ((IntKind.wrap .i64 ((IntKind.wrap .i64 ((IntKind.wrap .i64 (x1_1 + 1)) + 1)) + 1)) + 1), IntKind.wrap .i64 (x5_2 + 1))))) else none)) else none) else none)) else none) else none)) else none) else (some (.brk x1_1))
def laws_heldNodeS.sh (k : Nat) (a0 : List Nd) (a1 : Int) : Option (Int) :=
  (loopF (laws_heldNodeS.b1 a0) k (a1, 0)).bind fun z => match z with | .inl t => some t | .inr x1_6 => some x1_6
theorem laws_heldNodeS.eq (a0 : List Nd) (a1 : Int) (h0 : a0.length ≤ 1152921504606846976) (h1 : 0 ≤ a1) (h2 : a1 ≤ 4611686018427387904 - 4 * a0.length) : ∃ k, laws_heldNodeS.sh k a0 a1 = some (heldN a0 a1) := by
  refine ⟨a0.length + 1, ?_⟩
  have := held_run a0 (fun (i : Nat) => markN (a1 + ((i * 4 : Nat) : Int))) a1 4 (laws_heldNodeS.b1 a0) (fun i hi => by
    have e2 : a1 + (((i + 1) * 4 : Nat) : Int) = a1 + ((i * 4 : Nat) : Int) + 4 := by omega
    obtain ⟨c, hc⟩ : ∃ c, a1 + ((i * 4 : Nat) : Int) = c := ⟨_, rfl⟩
    have h3 : 0 ≤ c ∧ c + 4 ≤ 4611686018427387904 := by omega
    have h4 : c + 1 ≤ 4611686018427387904 := by omega
    have h5 : c + 2 ≤ 4611686018427387904 := by omega
    rw [e2, hc]
    simp only [laws_heldNodeS.b1, lt_nat, hi, decide_true, cond_true, inR_nat hi, getD_gt, wrap_succ hi (by omega)]
    obtain ⟨x, hx⟩ : ∃ x, a0.getD i default = x := ⟨_, rfl⟩
    obtain ⟨f1, f2, f3, f4⟩ := x
    simp only [hx, markN, Nd.mk.injEq]
    rw [wrap_small (n := c + 1) (by omega) (by omega), wrap_small (n := c + 1 + 1) (by omega) (by omega), wrap_small (n := c + 1 + 1 + 1) (by omega) (by omega), wrap_small (n := c + 1 + 1 + 1 + 1) (by omega) (by omega)]
    have : c + 1 + 1 = c + 2 := by omega
    rw [this]
    have : c + 2 + 1 = c + 3 := by omega
    rw [this]
    have : c + 3 + 1 = c + 4 := by omega
    rw [this]
    simp only [h4, h5, decide_true, cond_true]
    by_cases g1 : f1 = c
    · by_cases g2 : f2 = markT (c + 1)
      · by_cases g3 : f3 = markT (c + 2)
        · by_cases g4 : f4 = c + 3
          · simp [g1, g2, g3, g4]
          · simp [g1, g2, g3, g4]
        · simp [g1, g2, g3]
      · simp [g1, g2]
    · simp [g1]) (by simp [laws_heldNodeS.b1])
  unfold laws_heldNodeS.sh
  rw [this]
  unfold heldN marksN
  by_cases he : a0 = (List.range a0.length).map fun (i : Nat) => markN (a1 + ((i * 4 : Nat) : Int))
  · rw [if_pos he, if_pos he]
    simp only [Option.bind_some]
    congr 1; omega
  · rw [if_neg he, if_neg he]; simp
def canonOf (l : List Rec) : List Rec × Int := if 4096 < l.length then ([], 2) else if (layerFault l).2 ≠ 0 then ([], 1) else (canonL l, 0)
theorem canonOf_len (l : List Rec) : (canonOf l).1.length ≤ l.length := by
  have := canonL_len l
  unfold canonOf
  repeat (split; simp)
  exact this
def hiddenL (a b : List Rec) : List (List UInt8) × Int := if pairCode a b = 0 then ((a.filter fun r => cutsR b r.path).map (·.path), 0) else ([], pairCode a b)
theorem hiddenL_len (a b : List Rec) : (hiddenL a b).1.length ≤ a.length := by
  unfold hiddenL
  split
  · simpa using List.length_filter_le _ a
  · simp

end Go.UL
