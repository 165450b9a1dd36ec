/- Plain Lean: what the functions compute. -/
import Derived.Test.YthpjkenkbfkdhaaGreatDoorJP29
set_option linter.unusedVariables false
set_option linter.unusedSimpArgs false
namespace Go.UL
open Go.RowKit
/-! ### one pass over all layers -/
def winR (a : List (List Rec)) (p : List UInt8) : Option Rec := if (0 : Int) < (winner a p).2 then some (winner a p).1 else none
def pickK (a : List (List Rec)) (p : List UInt8) : Option Pick := if (0 : Int) < (winner a p).2 then some ⟨p, (winner a p).2⟩ else none
def winsL (a : List (List Rec)) : List Rec := (pathsL a).filterMap (winR a)
def picksL (a : List (List Rec)) : List Pick := (pathsL a).filterMap (pickK a)
def mergeL (a : List (List Rec)) : List Rec := canonL (winsL a)
theorem fm_take {α β : Type} [Inhabited α] {f : α → Option β} {l : List α} {i : Nat} (hi : i < l.length) : (l.take (i + 1)).filterMap f = (l.take i).filterMap f ++ (f (gt l (i : Int))).toList := by
  rw [List.take_succ_eq_append_getElem hi, List.filterMap_append, getD_gt, getD_el hi]
  cases h : f l[i] <;> simp [h]
theorem winner_path {a : List (List Rec)} {p : List UInt8} (h : (0 : Int) < (winner a p).2) : (winner a p).1.path = p := by
  have hlo := lowN_le a p
  have h1 : 0 < (winner0 a p).2.1 := h
  have hc : (winner a p).1.path = (winner0 a p).1.path := by
    show (closeW (winner0 a p)).path = _
    unfold closeW; split <;> rfl
  rcases winN_inv a p (lowN a p) (a.length - lowN a p) (by omega) with h2 | ⟨_, _, _, l, _, _, h3⟩
  · unfold winner0 at h1; rw [h2] at h1; exact absurd h1 (by simp)
  · rw [hc]; exact h3
theorem winR_path {a : List (List Rec)} {p : List UInt8} {x : Rec} (h : winR a p = some x) : x.path = p := by
  unfold winR at h
  split at h
  · rename_i hc; rw [← Option.some.inj h]; exact winner_path hc
  · cases h
theorem wins_spec (a : List (List Rec)) : Rise ((winsL a).map (·.path)) ∧ ∀ p, lookR (winsL a) p = if p ∈ pathsL a then winR a p else none :=
  pick_spec (fun r : Rec => r.path) (riseOf_rise _) (winR a) fun p x h => winR_path h
theorem wins_len {a : List (List Rec)} (h : stackOK a = true) : (winsL a).length ≤ 80 := Nat.le_trans (List.length_filterMap_le _ _) (paths_len h)
theorem picks_len {a : List (List Rec)} (h : stackOK a = true) : (picksL a).length ≤ 80 := Nat.le_trans (List.length_filterMap_le _ _) (paths_len h)
theorem wins_sheet {a : List (List Rec)} (h : stackOK a = true) : sheetB (winsL a) = true := by
  refine sheetB_mk (fun x hx => ?_) (wins_spec a).1
  obtain ⟨p, hp, hx⟩ := List.mem_filterMap.1 hx
  rw [winR_path hx]
  exact paths_ok h p hp
def traceOf (a : List (List Rec)) : List Pick × Int := if stackCode a = 0 then (picksL a, 0) else ([], stackCode a)
theorem traceOf_len (a : List (List Rec)) : (traceOf a).1.length ≤ 80 := by
  unfold traceOf
  split
  · rename_i h; exact picks_len (stackCode_zero h)
  · simp
def spec_MergeTrace.sh (a0 : List (List Rec)) : Option (List Pick × Int) :=
  bif (decide (4096 < (a0.length : Int))) then (some (([] : List Pick), 2)) else (bif decide (a0.length ≤ 1048576) then (bif decide (∀ l ∈ a0, l.length ≤ 1048576) then (bif decide (∀ l ∈ a0, ∀ x ∈ l, x.path.length ≤ 1048576) then (bif (!(stackOK a0)) then (some (([] : List Pick), 1)) else (bif decide (stackOK a0 = true) then (some ((picksL a0), 0)) else none)) else none) else none) else none)
theorem spec_MergeTrace.eq (a0 : List (List Rec)) (h0 : a0.length ≤ 1048576) (h1 : ∀ l ∈ a0, l.length ≤ 1048576) (h2 : ∀ l ∈ a0, ∀ x ∈ l, x.path.length ≤ 1048576) : spec_MergeTrace.sh a0 = some ((traceOf a0).1, (traceOf a0).2) := by
  unfold spec_MergeTrace.sh traceOf stackCode
  rw [lenSS4096]
  by_cases h : 4096 < a0.length
  · simp [h]
  · rcases bool_two (stackOK a0) with c1 | c1
    · simp [h, h0, decide_eq_true h1, decide_eq_true h2, c1]
    · simp [h, h0, decide_eq_true h1, decide_eq_true h2, c1]
def impl_MergeTrace.b1 (a0 : List (List Rec)) : List Pick × Int → Option (Step (List Pick × Int) (List Pick × Int) (List Pick)) :=
  fun q => match q with
  | (x5_20, x20_22) => bif (decide (x20_22 < ((pathsL a0).length : Int))) then (bif inR x20_22 (pathsL a0).length then (bif decide (stackOK a0 = true) then (bif decide (a0.length ≤ 1048576) then (bif decide ((gt (pathsL a0) x20_22).length ≤ 1048576) then (bif decide (∀ l ∈ a0, l.length ≤ 1048576) then (bif (decide ((0 : Int) < (winner a0 (gt (pathsL a0) x20_22)).2)) then (bif decide ((x5_20.length + ([(⟨gt (pathsL a0) x20_22, (winner a0 (gt (pathsL a0) x20_22)).2⟩ : Pick)] : List Pick).length) * 24 ≤ 140737488355328) then (some (.nxt (x5_20 ++ ([(⟨gt (pathsL a0) x20_22, (winner a0 (gt (pathsL a0) x20_22)).2⟩ : Pick)] : List Pick), IntKind.wrap .i64 (x20_22 + 1)))) else none) else (some (.nxt (x5_20, IntKind.wrap .i64 (x20_22 + 1))))) else none) else none) else none) else none) else none) else (some (.brk x5_20))
def impl_MergeTrace.sh (k : Nat) (a0 : List (List Rec)) : Option (List Pick × Int) :=
  bif decide (a0.length ≤ 1048576) then (bif decide (∀ l ∈ a0, l.length ≤ 1048576) then (bif decide (∀ l ∈ a0, ∀ x ∈ l, x.path.length ≤ 1048576) then (bif (!decide ((stackCode a0) = 0)) then (some ([], (stackCode a0))) else (bif decide (a0.length ≤ 5) then (bif decide (∀ l ∈ a0, l.length ≤ 1048576) then (bif decide (∀ l ∈ a0, ∀ x ∈ l, x.path.length ≤ 1048576) then ((loopF (impl_MergeTrace.b1 a0) k (([] : List Pick), 0)).bind fun z => match z with | .inl t => some t | .inr x5_26 => some (x5_26, 0)) else none) else none) else none)) else none) else none) else none
theorem impl_MergeTrace.eq (a0 : List (List Rec)) (h0 : a0.length ≤ 1048576) (h1 : ∀ l ∈ a0, l.length ≤ 1048576) (h2 : ∀ l ∈ a0, ∀ x ∈ l, x.path.length ≤ 1048576) : ∃ k, impl_MergeTrace.sh k a0 = some ((traceOf a0).1, (traceOf a0).2) := by
  unfold impl_MergeTrace.sh traceOf
  by_cases h : stackCode a0 = 0
  · have h0' := stackCode_zero h
    obtain ⟨h5, hL⟩ := stackOK_of h0'
    have hn := paths_len h0'
    refine ⟨(pathsL a0).length + 1, ?_⟩
    rw [collect_run (pathsL a0) (pickK a0) (impl_MergeTrace.b1 a0) (fun i hi acc ha => by
      have b0 : decide (a0.length ≤ 1048576) = true := decide_eq_true (by omega)
      have e1 : ∀ z : Pick, decide ((acc.length + ([z] : List Pick).length) * 24 ≤ 140737488355328) = true := fun z => decide_eq_true (by simp; omega)
      have m1 := pathOK_small (paths_ok h0' _ (List.getElem_mem hi))
      simp only [impl_MergeTrace.b1, lt_nat, hi, decide_true, cond_true, inR_nat hi, getD_gt, getD_el hi, b0, e1, wrap_succ hi (by omega), decide_eq_true m1, h0', decide_eq_true h1]
      unfold pickK
      by_cases hc : (0 : Int) < (winner a0 (pathsL a0)[i]).2 <;> simp [hc]) (fun acc => by simp [impl_MergeTrace.b1])]
    simp [h0, decide_eq_true h1, decide_eq_true h2, h, h5, picksL]
  · exact ⟨0, by simp [h0, decide_eq_true h1, decide_eq_true h2, h]⟩
/-! ### marks on picks -/
def markK (k : Int) : Pick := ⟨markT k, k + 1⟩
def marksK (n : Nat) (k : Int) : List Pick := (List.range n).map fun (i : Nat) => markK (k + ((i * 2 : Nat) : Int))
def heldK (xs : List Pick) (k : Int) : Int := if xs = marksK xs.length k then k + 2 * (xs.length : Int) else -1
theorem marksK_length (n : Nat) (k : Int) : (marksK n k).length = n := by simp [marksK]
theorem heldK_marks (n : Nat) (k : Int) : heldK (marksK n k) k = k + 2 * (n : Int) := by
  unfold heldK; rw [marksK_length]; simp
def laws_eqPick.sh (a0 : Pick) (a1 : Pick) : Option (Bool) :=
  bif (!decide (a0.path = a1.path)) then (some false) else (bif (!decide (a0.layer = a1.layer)) then (some false) else (some true))
theorem laws_eqPick.eq (a0 a1 : Pick) : laws_eqPick.sh a0 a1 = some (decide (a0 = a1)) := by
  obtain ⟨p, l⟩ := a0
  obtain ⟨p', l'⟩ := a1
  unfold laws_eqPick.sh
  simp only [Pick.mk.injEq]
  by_cases h1 : p = p' <;> by_cases h2 : l = l' <;> simp [h1, h2]
def laws_eqPickS.b1 (a0 : List Pick) (a1 : List Pick) : Int → Option (Step (Bool) (Int) (Unit)) :=
  fun x5_2 => bif (decide (x5_2 < (a0.length : Int))) then (bif inR x5_2 a0.length then (bif inR x5_2 a1.length then (bif (!(decide ((gt a0 x5_2) = (gt a1 x5_2)))) then (some (.ret false)) else (some (.nxt (IntKind.wrap .i64 (x5_2 + 1))))) else none) else none) else (some (.brk ()))
def laws_eqPickS.sh (k : Nat) (a0 : List Pick) (a1 : List Pick) : Option (Bool) :=
  bif (!decide ((a0.length : Int) = (a1.length : Int))) then (some false) else ((loopF (laws_eqPickS.b1 a0 a1) k 0).bind fun z => match z with | .inl t => some t | .inr _ => some true)
theorem laws_eqPickS.eq (a0 a1 : List Pick) (h : a0.length ≤ 4611686018427387904) : ∃ k, laws_eqPickS.sh k a0 a1 = some (decide (a0 = a1)) := by
  refine ⟨a0.length + 1, ?_⟩
  unfold laws_eqPickS.sh
  by_cases hl : a0.length = a1.length
  · rw [eq_run a0 a1 (laws_eqPickS.b1 a0 a1) hl (fun i hi => by
      have hi' : i < a1.length := by omega
      simp only [laws_eqPickS.b1, lt_nat, hi, decide_true, cond_true, inR_nat hi, inR_nat hi', getD_gt, wrap_succ hi (by omega)]
      by_cases he : a0.getD i default = a1.getD i default
      · simp only [he, decide_true, Bool.not_true, cond_false, if_true]
      · simp only [he, decide_false, Bool.not_false, cond_true, if_false]) (by simp [laws_eqPickS.b1])]
    by_cases he : a0 = a1 <;> simp [he, hl]
  · have hl' : ¬ (a0.length : Int) = (a1.length : Int) := by omega
    have he : a0 ≠ a1 := fun e => hl (by rw [e])
    simp [hl', he]
def laws_markPickS.b1  : Int × Int × List Pick → Option (Step (Int × List Pick) (Int × Int × List Pick) (Int × List Pick)) :=
  fun q => match q with
  | (x1_1, x5_2, y3) => bif (decide (x5_2 < (y3.length : Int))) then (bif decide ((x1_1 : Int) ≤ 4611686018427387904) then (bif inR x5_2 y3.length then (some (.nxt (IntKind.wrap .i64 ((IntKind.wrap .i64 (x1_1 + 1)) + 1), IntKind.wrap .i64 (x5_2 + 1), setI y3 x5_2 (⟨(markT x1_1), IntKind.wrap .i64 (x1_1 + 1)⟩ : Pick)))) else none) else none) else (some (.brk (x1_1, y3)))
def laws_markPickS.sh (k : Nat) (a0 : List Pick) (a1 : Int) : Option (Int × List Pick) :=
  (loopF (laws_markPickS.b1) k (a1, 0, a0)).bind fun z => match z with | .inl t => some t | .inr (x1_7, y8) => some (x1_7, y8)
theorem laws_markPickS.eq (a0 : List Pick) (a1 : Int) (h0 : a0.length ≤ 1152921504606846976) (h1 : 0 ≤ a1) (h2 : a1 ≤ 4611686018427387904 - 2 * a0.length) : ∃ k, laws_markPickS.sh k a0 a1 = some (a1 + 2 * (a0.length : Int), marksK a0.length a1) := by
  refine ⟨a0.length + 1, ?_⟩
  have := mark_run a0 (fun (i : Nat) => markK (a1 + ((i * 2 : Nat) : Int))) a1 2 laws_markPickS.b1 (fun i hi y hy => by
    have e2 : a1 + (((i + 1) * 2 : Nat) : Int) = a1 + ((i * 2 : Nat) : Int) + 2 := by omega
    obtain ⟨c, hc⟩ : ∃ c, a1 + ((i * 2 : Nat) : Int) = c := ⟨_, rfl⟩
    have h3 : 0 ≤ c ∧ c + 2 ≤ 4611686018427387904 := by omega
    have h4 : c ≤ 4611686018427387904 := by omega
    rw [e2, hc]
    simp only [laws_markPickS.b1, hy, lt_nat, hi, decide_true, cond_true, inR_nat hi, wrap_succ hi (by omega)]
    rw [wrap_small (n := c + 1) (by omega) (by omega), wrap_small (n := c + 1 + 1) (by omega) (by omega)]
    simp only [h4, decide_true, cond_true, markK]
    have : c + 1 + 1 = c + 2 := by omega
    rw [this]) (fun y hy => by simp [laws_markPickS.b1, hy])
  unfold laws_markPickS.sh
  rw [this]
  simp only [Option.bind_some, marksK]
  congr 2; omega
def laws_heldPickS.b1 (a0 : List Pick) : Int × Int → Option (Step (Int) (Int × Int) (Int)) :=
  fun q => match q with
  | (x1_1, x5_2) => bif (decide (x5_2 < (a0.length : Int))) then (bif inR x5_2 a0.length then (bif decide ((x1_1 : Int) ≤ 4611686018427387904) then (bif (!decide (((gt a0 x5_2).path) = (markT x1_1))) then (some (.ret (-1))) else (bif inR x5_2 a0.length then (bif (!decide (((gt a0 x5_2).layer) = (IntKind.wrap .i64 (x1_1 + 1)))) then (some (.ret (-1))) else (some (.nxt (IntKind.wrap .i64 ((IntKind.wrap .i64 (x1_1 + 1)) + 1), IntKind.wrap .i64 (x5_2 + 1))))) else none)) else none) else none) else (some (.brk x1_1))
def laws_heldPickS.sh (k : Nat) (a0 : List Pick) (a1 : Int) : Option (Int) :=
  (loopF (laws_heldPickS.b1 a0) k (a1, 0)).bind fun z => match z with | .inl t => some t | .inr x1_6 => some x1_6
theorem laws_heldPickS.eq (a0 : List Pick) (a1 : Int) (h0 : a0.length ≤ 1152921504606846976) (h1 : 0 ≤ a1) (h2 : a1 ≤ 4611686018427387904 - 2 * a0.length) : ∃ k, laws_heldPickS.sh k a0 a1 = some (heldK a0 a1) := by
  refine ⟨a0.length + 1, ?_⟩
  have := held_run a0 (fun (i : Nat) => markK (a1 + ((i * 2 : Nat) : Int))) a1 2 (laws_heldPickS.b1 a0) (fun i hi => by
    have e2 : a1 + (((i + 1) * 2 : Nat) : Int) = a1 + ((i * 2 : Nat) : Int) + 2 := by omega
    obtain ⟨c, hc⟩ : ∃ c, a1 + ((i * 2 : Nat) : Int) = c := ⟨_, rfl⟩
    have h3 : 0 ≤ c ∧ c + 2 ≤ 4611686018427387904 := by omega
    have h4 : c ≤ 4611686018427387904 := by omega
    rw [e2, hc]
    simp only [laws_heldPickS.b1, lt_nat, hi, decide_true, cond_true, inR_nat hi, getD_gt, wrap_succ hi (by omega)]
    obtain ⟨x, hx⟩ : ∃ x, a0.getD i default = x := ⟨_, rfl⟩
    obtain ⟨f1, f2⟩ := x
    simp only [hx, markK, Pick.mk.injEq]
    rw [wrap_small (n := c + 1) (by omega) (by omega), wrap_small (n := c + 1 + 1) (by omega) (by omega)]
    have : c + 1 + 1 = c + 2 := by omega
    rw [this]
    simp only [h4, decide_true, cond_true]
    by_cases g1 : f1 = markT c
    · by_cases g2 : f2 = c + 1
      · simp [g1, g2]
      · simp [g1, g2]
    · simp [g1]) (by simp [laws_heldPickS.b1])
  unfold laws_heldPickS.sh
  rw [this]
  unfold heldK marksK
  by_cases he : a0 = (List.range a0.length).map fun (i : Nat) => markK (a1 + ((i * 2 : Nat) : Int))
  · rw [if_pos he, if_pos he]
    simp only [Option.bind_some]
    congr 1; omega
  · rw [if_neg he, if_neg he]; simp
def law_MergeTrace.sh (a0 : List (List Rec)) : Option (Bool) :=
  bif decide ((0 : Int) ≤ 1048576) then (bif decide ((1048576 : Int) ≤ 1048576) then (bif decide (a0.length ≤ 9223372036854775807) then (bif decide (∀ l ∈ a0, l.length ≤ 9223372036854775807) then (bif decide (∀ l ∈ a0, ∀ x ∈ l, okRec x) then (bif (decide ((szRecSS a0 1048576) < 0)) then (some true) else (bif decide (a0.length ≤ 1048576) then (bif decide (∀ l ∈ a0, l.length ≤ 1048576) then (bif decide (a0.length ≤ 1048576) then (bif decide (∀ l ∈ a0, l.length ≤ 1048576) then (bif decide (∀ l ∈ a0, ∀ x ∈ l, x.path.length ≤ 1048576) then (bif decide (a0.length ≤ 1048576) then (bif decide (∀ l ∈ a0, l.length ≤ 1048576) then (bif decide (a0.length ≤ 1048576) then (bif decide (∀ l ∈ a0, l.length ≤ 1048576) then (bif decide (∀ l ∈ a0, ∀ x ∈ l, x.path.length ≤ 1048576) then (bif decide (((traceOf a0).1).length ≤ 4611686018427387904) then (bif ((!(decide (((traceOf a0).1) = ((traceOf a0).1)))) || (!decide (((traceOf a0).2) = ((traceOf a0).2)))) then (some false) else (bif decide (a0.length ≤ 1048576) then (bif decide (∀ l ∈ a0, l.length ≤ 1048576) then (bif decide (a0.length ≤ 1048576) then (bif decide (∀ l ∈ a0, l.length ≤ 1048576) then (bif (!(decide (a0 = a0))) then (some false) else (bif decide (a0.length ≤ 1048576) then (bif decide (∀ l ∈ a0, l.length ≤ 1048576) then (bif decide ((0 : Int) ≤ 1) then (bif decide ((1 : Int) ≤ 4611686018427387904 - 5 * (totL a0 : Int)) then (((bif (decide ((1 + 5 * (totL a0 : Int)) < 0)) then some true else (bif decide (((traceOf a0).1).length ≤ 4611686018427387904) then (some (!(decide (((traceOf a0).1) = ((traceOf a0).1))))) else none))).bind fun z64 => bif (z64 || (!decide (((traceOf a0).2) = ((traceOf a0).2)))) then (some false) else (bif decide (((traceOf a0).1).length ≤ 1152921504606846976) then (bif decide ((0 : Int) ≤ 1) then (bif decide ((1 : Int) ≤ 4611686018427387904 - 2 * (((traceOf a0).1).length : Int)) then (bif decide ((marksK ((traceOf a0).1).length 1).length ≤ 1152921504606846976) then (bif decide ((0 : Int) ≤ 1) then (bif decide ((1 : Int) ≤ 4611686018427387904 - 2 * ((marksK ((traceOf a0).1).length 1).length : Int)) then (bif (decide ((heldK (marksK ((traceOf a0).1).length 1) 1) < 0)) then (some false) else (bif (!decide ((heldK (marksK ((traceOf a0).1).length 1) 1) = (1 + 2 * (((traceOf a0).1).length : Int)))) then (some false) else (bif decide (a0.length ≤ 1048576) then (bif decide (∀ l ∈ a0, l.length ≤ 1048576) then (bif decide (a0.length ≤ 1048576) then (bif decide (∀ l ∈ a0, l.length ≤ 1048576) then (bif decide (∀ l ∈ a0, ∀ x ∈ l, x.path.length ≤ 1048576) then (bif decide (((traceOf a0).1).length ≤ 4611686018427387904) then (bif ((!(decide (((traceOf a0).1) = ((traceOf a0).1)))) || (!decide (((traceOf a0).2) = ((traceOf a0).2)))) then (some false) else (bif decide ((marksK ((traceOf a0).1).length 1).length ≤ 1152921504606846976) then (bif decide ((0 : Int) ≤ 1) then (bif decide ((1 : Int) ≤ 4611686018427387904 - 2 * ((marksK ((traceOf a0).1).length 1).length : Int)) then (bif (decide ((heldK (marksK ((traceOf a0).1).length 1) 1) < 0)) then (some false) else (bif (!decide ((heldK (marksK ((traceOf a0).1).length 1) 1) = (1 + 2 * (((traceOf a0).1).length : Int)))) then (some false) else (some true))) else none) else none) else none)) else none) else none) else none) else none) else none) else none))) else none) else none) else none) else none) else none) else none)) else none) else none) else none) else none)) else none) else none) else none) else none)) else none) else none) else none) else none) else none) else none) else none) else none) else none) else none) else none)) else none) else none) else none) else none) else none
theorem law_MergeTrace.eq (a0 : List (List Rec)) (h2 : ∀ l ∈ a0, ∀ x ∈ l, okRec x) (h3 : a0.length ≤ 9223372036854775807) (h4 : ∀ l ∈ a0, l.length ≤ 9223372036854775807) : law_MergeTrace.sh a0 = some true := by
  unfold law_MergeTrace.sh
  by_cases hs : szRecSS a0 1048576 < 0
  · simp [h3, decide_eq_true h2, decide_eq_true h4, hs]
  · obtain ⟨k1, k2, k3, _, k4, k5⟩ := szSS_of hs (by omega) (by omega)
    have hl := traceOf_len a0
    have hT := tot_small k1 k2
    have b2 : (traceOf a0).1.length ≤ 4611686018427387904 := by omega
    have b2' : (traceOf a0).1.length ≤ 1152921504606846976 := by omega
    have b4 : (1 : Int) ≤ 4611686018427387904 - 5 * (totL a0 : Int) := by omega
    have b7 : ¬ (1 + 5 * (totL a0 : Int)) < 0 := by omega
    have b8 : (1 : Int) ≤ 4611686018427387904 - 2 * ((traceOf a0).1.length : Int) := by omega
    have b9 : ¬ (1 + 2 * ((traceOf a0).1.length : Int)) < 0 := by omega
    simp [h3, decide_eq_true h2, decide_eq_true h4, hs, k1, decide_eq_true k2, decide_eq_true k3, marksK_length, heldK_marks, b2, b2', b4, b7, b8, b9]

end Go.UL
