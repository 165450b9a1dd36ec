/- Plain Lean: what the functions compute. -/
import Derived.Test.YthpjkenkbfkdhaaGreatDoorJP12
set_option linter.unusedVariables false
set_option linter.unusedSimpArgs false
namespace Go.UL
open Go.RowKit
/-! ### right layers -/
theorem layerFault_zero {l : List Rec} (h : (layerFault l).2 = 0) : ∀ i, i < l.length → codeAt l i = 0 := by
  unfold layerFault at h
  cases hf : (List.range l.length).findSome? (fun i => if codeAt l i = 0 then none else some ((i : Int), codeAt l i)) with
  | none =>
    intro i hi
    have := List.findSome?_eq_none_iff.1 hf i (List.mem_range.2 hi)
    by_cases hc : codeAt l i = 0
    · exact hc
    · simp [hc] at this
  | some x =>
    rw [hf] at h
    obtain ⟨i, _, hi⟩ := List.exists_of_findSome?_eq_some hf
    by_cases hc : codeAt l i = 0
    · simp [hc] at hi
    · simp only [hc, if_false, Option.some.injEq] at hi
      subst hi
      exact absurd h hc
theorem layerOK_rec {l : List Rec} (h : (layerFault l).2 = 0) : ∀ x ∈ l, recFault x = 0 := by
  intro x hx
  obtain ⟨i, hi, rfl⟩ := List.getElem_of_mem hx
  have := codeAt_rec (layerFault_zero h i hi)
  rwa [getD_el hi] at this
theorem layerOK_path {l : List Rec} (h : (layerFault l).2 = 0) : ∀ x ∈ l, pathOK x.path = true := fun x hx => recFault_path (layerOK_rec h x hx)
theorem layerOK_len {l : List Rec} (h : (layerFault l).2 = 0) : l.length ≤ 16 := by
  by_cases hc : l.length ≤ 16
  · exact hc
  · have := layerFault_zero h 16 (by omega)
    simp [codeAt] at this
/-! ### the canonical form -/
def canonR (l : List Rec) (r : Rec) : Option Rec :=
  if underO l r.path then (if r.kind = 4 then none else some ⟨r.kind, r.path, r.body, r.mode, false⟩) else some ⟨r.kind, r.path, r.body, r.mode, r.opq && decide ((cut 47 r.path).length < 4)⟩
def canonL (l : List Rec) : List Rec := l.filterMap (canonR l)
def spec_l03Canon.b1 (a0 : List Rec) : List Rec × Int → Option (Step (List Rec) (List Rec × Int) (List Rec)) :=
  fun q => match q with
  | (x3_7, x4_9) => bif (decide (x4_9 < (a0.length : Int))) then (bif inR x4_9 a0.length then (bif decide (a0.length ≤ 1048576) then (bif decide (((gt a0 x4_9).path).length ≤ 1048576) then (bif (!(underO a0 ((gt a0 x4_9).path))) then (((bif ((gt a0 x4_9).opq) then (bif decide (((gt a0 x4_9).path).length ≤ 1048576) then (some (decide (((cut 47 ((gt a0 x4_9).path)).length : Int) < 4))) else none) else some false)).bind fun z49 => bif decide ((x3_7.length + ([(⟨(gt a0 x4_9).kind, (gt a0 x4_9).path, (gt a0 x4_9).body, (gt a0 x4_9).mode, z49⟩ : Rec)] : List Rec).length) * 56 ≤ 140737488355328) then (some (.nxt (x3_7 ++ ([(⟨(gt a0 x4_9).kind, (gt a0 x4_9).path, (gt a0 x4_9).body, (gt a0 x4_9).mode, z49⟩ : Rec)] : List Rec), IntKind.wrap .i64 (x4_9 + 1)))) else none) else (bif (!decide (((gt a0 x4_9).kind) = 4)) then (bif decide ((x3_7.length + ([(⟨(gt a0 x4_9).kind, (gt a0 x4_9).path, (gt a0 x4_9).body, (gt a0 x4_9).mode, false⟩ : Rec)] : List Rec).length) * 56 ≤ 140737488355328) then (some (.nxt (x3_7 ++ ([(⟨(gt a0 x4_9).kind, (gt a0 x4_9).path, (gt a0 x4_9).body, (gt a0 x4_9).mode, false⟩ : Rec)] : List Rec), IntKind.wrap .i64 (x4_9 + 1)))) else none) else (some (.nxt (x3_7, IntKind.wrap .i64 (x4_9 + 1)))))) else none) else none) else none) else (some (.brk x3_7))
def spec_l03Canon.sh (k : Nat) (a0 : List Rec) : Option (List Rec) :=
  (loopF (spec_l03Canon.b1 a0) k (([] : List Rec), 0)).bind fun z => match z with | .inl t => some t | .inr x3_13 => some x3_13
theorem spec_l03Canon.eq (a0 : List Rec) (h0 : a0.length ≤ 1048576) (h1 : ∀ x ∈ a0, pathOK x.path = true) : ∃ k, spec_l03Canon.sh k a0 = some (canonL a0) := by
  refine ⟨a0.length + 1, ?_⟩
  unfold spec_l03Canon.sh
  rw [collect_run a0 (canonR a0) (spec_l03Canon.b1 a0) (fun i hi acc ha => by
    have hp := pathOK_small (h1 _ (List.getElem_mem hi))
    have e1 : ∀ z : Rec, (acc.length + ([z] : List Rec).length) * 56 ≤ 140737488355328 := fun z => by simp; omega
    have e4 : decide (((cut 47 a0[i].path).length : Int) < 4) = decide ((cut 47 a0[i].path).length < 4) := by rw [decide_eq_decide]; omega
    simp only [spec_l03Canon.b1, lt_nat, hi, decide_true, cond_true, inR_nat hi, getD_gt, getD_el hi, h0, hp, e1, e4, wrap_succ hi (by omega), canonR]
    rcases bool_two (underO a0 a0[i].path) with hu | hu
    · by_cases hk : a0[i].kind = 4 <;> simp [hu, hk]
    · rcases bool_two a0[i].opq with ho | ho <;> simp [hu, ho]) (fun acc => by simp [spec_l03Canon.b1])]
  simp [canonL]
/-! ### two layers -/
/-! ### trees as layers -/
/-! ### marks -/
def markR (k : Int) : Rec := ⟨k, markT (k + 1), markT (k + 2), k + 3, decide ((k + 4).tmod 3 = 0)⟩
def marksR (n : Nat) (k : Int) : List Rec := (List.range n).map fun (i : Nat) => markR (k + ((i * 5 : Nat) : Int))
def laws_markRecordS.b1  : Int × Int × List Rec → Option (Step (Int × List Rec) (Int × Int × List Rec) (Int × List Rec)) :=
  fun q => match q with
  | (x1_1, x5_2, y3) => bif (decide (x5_2 < (y3.length : Int))) then (bif inR x5_2 y3.length then (bif decide (((IntKind.wrap .i64 (x1_1 + 1)) : Int) ≤ 4611686018427387904) then (bif decide (((IntKind.wrap .i64 ((IntKind.wrap .i64 (x1_1 + 1)) + 1)) : Int) ≤ 4611686018427387904) then (some (.nxt (IntKind.wrap .i64 ((IntKind.wrap .i64 ((IntKind.wrap .i64 ((IntKind.wrap .i64 ((IntKind.wrap .i64 (x1_1 + 1)) + 1)) + 1)) + 1)) + 1), IntKind.wrap .i64 (x5_2 + 1), setI y3 x5_2 (⟨x1_1, (markT (IntKind.wrap .i64 (x1_1 + 1))), (markT (IntKind.wrap .i64 ((IntKind.wrap .i64 (x1_1 + 1)) + 1))), IntKind.wrap .i64 ((IntKind.wrap .i64 ((IntKind.wrap .i64 (x1_1 + 1)) + 1)) + 1), (decide (((IntKind.wrap .i64 ((IntKind.wrap .i64 ((IntKind.wrap .i64 ((IntKind.wrap .i64 (x1_1 + 1)) + 1)) + 1)) + 1)).tmod 3) = 0))⟩ : Rec)))) else none) else none) else none) else (some (.brk (x1_1, y3)))
def laws_markRecordS.sh (k : Nat) (a0 : List Rec) (a1 : Int) : Option (Int × List Rec) :=
  (loopF (laws_markRecordS.b1) k (a1, 0, a0)).bind fun z => match z with | .inl t => some t | .inr (x1_7, y8) => some (x1_7, y8)
theorem laws_markRecordS.eq (a0 : List Rec) (a1 : Int) (h0 : a0.length ≤ 576460752303423488) (h1 : 0 ≤ a1) (h2 : a1 ≤ 4611686018427387904 - 5 * a0.length) : ∃ k, laws_markRecordS.sh k a0 a1 = some (a1 + 5 * (a0.length : Int), marksR a0.length a1) := by
  refine ⟨a0.length + 1, ?_⟩
  have := mark_run a0 (fun (i : Nat) => markR (a1 + ((i * 5 : Nat) : Int))) a1 5 laws_markRecordS.b1 (fun i hi y hy => by
    have e2 : a1 + (((i + 1) * 5 : Nat) : Int) = a1 + ((i * 5 : Nat) : Int) + 5 := by omega
    obtain ⟨c, hc⟩ : ∃ c, a1 + ((i * 5 : Nat) : Int) = c := ⟨_, rfl⟩
    have h3 : 0 ≤ c ∧ c + 5 ≤ 4611686018427387904 := by omega
    have h4 : c + 1 ≤ 4611686018427387904 := by omega
    have h5 : c + 1 + 1 ≤ 4611686018427387904 := by omega
    rw [e2, hc]
    simp only [laws_markRecordS.b1, hy, lt_nat, hi, decide_true, cond_true, inR_nat hi, wrap_succ hi (by omega)]
    rw [wrap_small (n := c + 1) (by omega) (by omega), wrap_small (n := c + 1 + 1) (by omega) (by omega), wrap_small (n := c + 1 + 1 + 1) (by omega) (by omega), wrap_small (n := c + 1 + 1 + 1 + 1) (by omega) (by omega), wrap_small (n := c + 1 + 1 + 1 + 1 + 1) (by omega) (by omega)]
    simp only [h4, h5, decide_true, cond_true, markR]
    have : c + 1 + 1 = c + 2 := by omega
    rw [this]
    have : c + 2 + 1 = c + 3 := by omega
    rw [this]
    have : c + 3 + 1 = c + 4 := by omega
    rw [this]
    have : c + 4 + 1 = c + 5 := by omega
    rw [this]) (fun y hy => by simp [laws_markRecordS.b1, hy])
  unfold laws_markRecordS.sh
  rw [this]
  simp only [Option.bind_some, marksR]
  congr 2; omega
end Go.UL
