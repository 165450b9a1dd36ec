/- Plain Lean: what the functions compute. -/
import Derived.Test.YthpjkenkbfkdhaaGreatDoorMP29
set_option linter.unusedVariables false
set_option linter.unusedSimpArgs false
namespace Go.UL
open Go.RowKit
/-! ### one pass over all layers -/
def winR (a : List (List Rec)) (p : List UInt8) : Option Rec := if (0 : Int) < (winner a p).2 then some (winner a p).1 else none
def pickK (a : List (List Rec)) (p : List UInt8) : Option Pick := if (0 : Int) < (winner a p).2 then some ⟨p, (winner a p).2⟩ else none
def winsL (a : List (List Rec)) : List Rec := (pathsL a).filterMap (winR a)
def picksL (a : List (List Rec)) : List Pick := (pathsL a).filterMap (pickK a)
def mergeL (a : List (List Rec)) : List Rec := canonL (winsL a)
theorem fm_take {α β : Type} [Inhabited α] {f : α → Option β} {l : List α} {i : Nat} (hi : i < l.length) : (l.take (i + 1)).filterMap f = (l.take i).filterMap f ++ (f (gt l (i : Int))).toList := by
  rw [List.take_succ_eq_append_getElem hi, List.filterMap_append, getD_gt, getD_el hi]
  cases h : f l[i] <;> simp [h]
theorem winner_path {a : List (List Rec)} {p : List UInt8} (h : (0 : Int) < (winner a p).2) : (winner a p).1.path = p := by
  have hlo := lowN_le a p
  have h1 : 0 < (winner0 a p).2.1 := h
  have hc : (winner a p).1.path = (winner0 a p).1.path := by
    show (closeW (winner0 a p)).path = _
    unfold closeW; split <;> rfl
  rcases winN_inv a p (lowN a p) (a.length - lowN a p) (by omega) with h2 | ⟨_, _, _, l, _, _, h3⟩
  · unfold winner0 at h1; rw [h2] at h1; exact absurd h1 (by simp)
  · rw [hc]; exact h3
theorem winR_path {a : List (List Rec)} {p : List UInt8} {x : Rec} (h : winR a p = some x) : x.path = p := by
  unfold winR at h
  split at h
  · rename_i hc; rw [← Option.some.inj h]; exact winner_path hc
  · cases h
theorem wins_spec (a : List (List Rec)) : Rise ((winsL a).map (·.path)) ∧ ∀ p, lookR (winsL a) p = if p ∈ pathsL a then winR a p else none :=
  pick_spec (fun r : Rec => r.path) (riseOf_rise _) (winR a) fun p x h => winR_path h
theorem wins_len {a : List (List Rec)} (h : stackOK a = true) : (winsL a).length ≤ 80 := Nat.le_trans (List.length_filterMap_le _ _) (paths_len h)
theorem wins_sheet {a : List (List Rec)} (h : stackOK a = true) : sheetB (winsL a) = true := by
  refine sheetB_mk (fun x hx => ?_) (wins_spec a).1
  obtain ⟨p, hp, hx⟩ := List.mem_filterMap.1 hx
  rw [winR_path hx]
  exact paths_ok h p hp
def mergeOf (a : List (List Rec)) : List Rec × Int := if stackCode a = 0 then (fitL (mergeL a), fitC (mergeL a)) else ([], stackCode a)
theorem mergeOf_len (a : List (List Rec)) : (mergeOf a).1.length ≤ 16 := by
  unfold mergeOf
  split
  · exact fitL_len _
  · simp
def spec_MergeMany.sh (a0 : List (List Rec)) : Option (List Rec × Int) :=
  bif (decide (4096 < (a0.length : Int))) then (some (([] : List Rec), 2)) else (bif decide (a0.length ≤ 1048576) then (bif decide (∀ l ∈ a0, l.length ≤ 1048576) then (bif decide (∀ l ∈ a0, ∀ x ∈ l, x.path.length ≤ 1048576) then (bif (!(stackOK a0)) then (some (([] : List Rec), 1)) else (bif decide (stackOK a0 = true) then (bif (decide (16 < ((mergeL a0).length : Int))) then (some (([] : List Rec), 7)) else (some ((mergeL a0), 0))) else none)) else none) else none) else none)
theorem spec_MergeMany.eq (a0 : List (List Rec)) (h0 : a0.length ≤ 1048576) (h1 : ∀ l ∈ a0, l.length ≤ 1048576) (h2 : ∀ l ∈ a0, ∀ x ∈ l, x.path.length ≤ 1048576) : spec_MergeMany.sh a0 = some ((mergeOf a0).1, (mergeOf a0).2) := by
  unfold spec_MergeMany.sh mergeOf stackCode
  rw [lenSS4096, fit_dec]
  by_cases h : 4096 < a0.length
  · simp [h]
  · rcases bool_two (stackOK a0) with c1 | c1
    · by_cases h16 : 16 < (mergeL a0).length <;> simp [h, h0, decide_eq_true h1, decide_eq_true h2, c1, h16, fitL, fitC]
    · simp [h, h0, decide_eq_true h1, decide_eq_true h2, c1]
def impl_merge.b1 (a0 : List (List Rec)) : List Rec × Int → Option (Step (List Rec) (List Rec × Int) (List Rec)) :=
  fun q => match q with
  | (x3_14, x13_16) => bif (decide (x13_16 < ((pathsL a0).length : Int))) then (bif inR x13_16 (pathsL a0).length then (bif decide (stackOK a0 = true) then (bif decide (a0.length ≤ 1048576) then (bif decide ((gt (pathsL a0) x13_16).length ≤ 1048576) then (bif decide (∀ l ∈ a0, l.length ≤ 1048576) then (bif (decide ((0 : Int) < (winner a0 (gt (pathsL a0) x13_16)).2)) then (bif decide ((x3_14.length + ([((winner a0 (gt (pathsL a0) x13_16)).1)] : List Rec).length) * 56 ≤ 140737488355328) then (some (.nxt (x3_14 ++ ([((winner a0 (gt (pathsL a0) x13_16)).1)] : List Rec), IntKind.wrap .i64 (x13_16 + 1)))) else none) else (some (.nxt (x3_14, IntKind.wrap .i64 (x13_16 + 1))))) else none) else none) else none) else none) else none) else (some (.brk x3_14))
def impl_merge.sh (k : Nat) (a0 : List (List Rec)) : Option (List Rec) :=
  bif decide (a0.length ≤ 5) then (bif decide (∀ l ∈ a0, l.length ≤ 1048576) then (bif decide (∀ l ∈ a0, ∀ x ∈ l, x.path.length ≤ 1048576) then ((loopF (impl_merge.b1 a0) k (([] : List Rec), 0)).bind fun z => match z with | .inl t => some t | .inr x3_20 => bif decide (x3_20.length ≤ 1048576) then (bif decide (∀ x ∈ x3_20, pathOK x.path = true) then (some (canonL x3_20)) else none) else none) else none) else none) else none
theorem impl_merge.eq (a0 : List (List Rec)) (h0 : stackOK a0 = true) : ∃ k, impl_merge.sh k a0 = some (mergeL a0) := by
  obtain ⟨h5, hL⟩ := stackOK_of h0
  have hn := paths_len h0
  have hls : ∀ l ∈ a0, l.length ≤ 1048576 := fun l hl => by have := layerOK_len (hL l hl); omega
  have hps : ∀ l ∈ a0, ∀ x ∈ l, x.path.length ≤ 1048576 := fun l hl x hx => pathOK_small (layerOK_path (hL l hl) x hx)
  refine ⟨(pathsL a0).length + 1, ?_⟩
  unfold impl_merge.sh
  rw [collect_run (pathsL a0) (winR a0) (impl_merge.b1 a0) (fun i hi acc ha => by
    have b0 : decide (a0.length ≤ 1048576) = true := decide_eq_true (by omega)
    have e1 : ∀ z : Rec, decide ((acc.length + ([z] : List Rec).length) * 56 ≤ 140737488355328) = true := fun z => decide_eq_true (by simp; omega)
    have m1 := pathOK_small (paths_ok h0 _ (List.getElem_mem hi))
    simp only [impl_merge.b1, lt_nat, hi, decide_true, cond_true, inR_nat hi, getD_gt, getD_el hi, b0, e1, wrap_succ hi (by omega), decide_eq_true m1, h0, decide_eq_true hls]
    unfold winR
    by_cases hc : (0 : Int) < (winner a0 (pathsL a0)[i]).2 <;> simp [hc]) (fun acc => by simp [impl_merge.b1])]
  have b1 : a0.length ≤ 5 := h5
  have b2 : (winsL a0).length ≤ 1048576 := by have := wins_len h0; omega
  have b3 := sheetB_path (wins_sheet h0)
  unfold winsL at b2 b3
  simp only [decide_eq_true b1, decide_eq_true hls, decide_eq_true hps, Option.bind_some, decide_eq_true b2, decide_eq_true b3, cond_true, mergeL, winsL]
def impl_MergeMany.sh (a0 : List (List Rec)) : Option (List Rec × Int) :=
  bif decide (a0.length ≤ 1048576) then (bif decide (∀ l ∈ a0, l.length ≤ 1048576) then (bif decide (∀ l ∈ a0, ∀ x ∈ l, x.path.length ≤ 1048576) then (bif (!decide ((stackCode a0) = 0)) then (some ([], (stackCode a0))) else (bif decide (stackOK a0 = true) then (some ((fitL (mergeL a0)), (fitC (mergeL a0)))) else none)) else none) else none) else none
theorem impl_MergeMany.eq (a0 : List (List Rec)) (h0 : a0.length ≤ 1048576) (h1 : ∀ l ∈ a0, l.length ≤ 1048576) (h2 : ∀ l ∈ a0, ∀ x ∈ l, x.path.length ≤ 1048576) : impl_MergeMany.sh a0 = some ((mergeOf a0).1, (mergeOf a0).2) := by
  unfold impl_MergeMany.sh mergeOf
  by_cases h : stackCode a0 = 0
  · simp [h0, decide_eq_true h1, decide_eq_true h2, h, stackCode_zero h]
  · simp [h0, decide_eq_true h1, decide_eq_true h2, h]
def law_MergeMany.sh (a0 : List (List Rec)) : Option (Bool) :=
  bif decide ((0 : Int) ≤ 1048576) then (bif decide ((1048576 : Int) ≤ 1048576) then (bif decide (a0.length ≤ 9223372036854775807) then (bif decide (∀ l ∈ a0, l.length ≤ 9223372036854775807) then (bif decide (∀ l ∈ a0, ∀ x ∈ l, okRec x) then (bif (decide ((szRecSS a0 1048576) < 0)) then (some true) else (bif decide (a0.length ≤ 1048576) then (bif decide (∀ l ∈ a0, l.length ≤ 1048576) then (bif decide (a0.length ≤ 1048576) then (bif decide (∀ l ∈ a0, l.length ≤ 1048576) then (bif decide (∀ l ∈ a0, ∀ x ∈ l, x.path.length ≤ 1048576) then (bif decide (a0.length ≤ 1048576) then (bif decide (∀ l ∈ a0, l.length ≤ 1048576) then (bif decide (a0.length ≤ 1048576) then (bif decide (∀ l ∈ a0, l.length ≤ 1048576) then (bif decide (∀ l ∈ a0, ∀ x ∈ l, x.path.length ≤ 1048576) then (bif decide (((mergeOf a0).1).length ≤ 4611686018427387904) then (bif ((!(decide (((mergeOf a0).1) = ((mergeOf a0).1)))) || (!decide (((mergeOf a0).2) = ((mergeOf a0).2)))) then (some false) else (bif decide (a0.length ≤ 1048576) then (bif decide (∀ l ∈ a0, l.length ≤ 1048576) then (bif decide (a0.length ≤ 1048576) then (bif decide (∀ l ∈ a0, l.length ≤ 1048576) then (bif (!(decide (a0 = a0))) then (some false) else (bif decide (a0.length ≤ 1048576) then (bif decide (∀ l ∈ a0, l.length ≤ 1048576) then (bif decide ((0 : Int) ≤ 1) then (bif decide ((1 : Int) ≤ 4611686018427387904 - 5 * (totL a0 : Int)) then (((bif (decide ((1 + 5 * (totL a0 : Int)) < 0)) then some true else (bif decide (((mergeOf a0).1).length ≤ 4611686018427387904) then (some (!(decide (((mergeOf a0).1) = ((mergeOf a0).1))))) else none))).bind fun z64 => bif (z64 || (!decide (((mergeOf a0).2) = ((mergeOf a0).2)))) then (some false) else (bif decide (((mergeOf a0).1).length ≤ 576460752303423488) then (bif decide ((0 : Int) ≤ 1) then (bif decide ((1 : Int) ≤ 4611686018427387904 - 5 * (((mergeOf a0).1).length : Int)) then (bif decide ((marksR ((mergeOf a0).1).length 1).length ≤ 576460752303423488) then (bif decide ((0 : Int) ≤ 1) then (bif decide ((1 : Int) ≤ 4611686018427387904 - 5 * ((marksR ((mergeOf a0).1).length 1).length : Int)) then (bif (decide ((heldR (marksR ((mergeOf a0).1).length 1) 1) < 0)) then (some false) else (bif (!decide ((heldR (marksR ((mergeOf a0).1).length 1) 1) = (1 + 5 * (((mergeOf a0).1).length : Int)))) then (some false) else (bif decide (a0.length ≤ 1048576) then (bif decide (∀ l ∈ a0, l.length ≤ 1048576) then (bif decide (a0.length ≤ 1048576) then (bif decide (∀ l ∈ a0, l.length ≤ 1048576) then (bif decide (∀ l ∈ a0, ∀ x ∈ l, x.path.length ≤ 1048576) then (bif decide (((mergeOf a0).1).length ≤ 4611686018427387904) then (bif ((!(decide (((mergeOf a0).1) = ((mergeOf a0).1)))) || (!decide (((mergeOf a0).2) = ((mergeOf a0).2)))) then (some false) else (bif decide ((marksR ((mergeOf a0).1).length 1).length ≤ 576460752303423488) then (bif decide ((0 : Int) ≤ 1) then (bif decide ((1 : Int) ≤ 4611686018427387904 - 5 * ((marksR ((mergeOf a0).1).length 1).length : Int)) then (bif (decide ((heldR (marksR ((mergeOf a0).1).length 1) 1) < 0)) then (some false) else (bif (!decide ((heldR (marksR ((mergeOf a0).1).length 1) 1) = (1 + 5 * (((mergeOf a0).1).length : Int)))) then (some false) else (some true))) else none) else none) else none)) else none) else none) else none) else none) else none) else none))) else none) else none) else none) else none) else none) else none)) else none) else none) else none) else none)) else none) else none) else none) else none)) else none) else none) else none) else none) else none) else none) else none) else none) else none) else none) else none)) else none) else none) else none) else none) else none
theorem law_MergeMany.eq (a0 : List (List Rec)) (h2 : ∀ l ∈ a0, ∀ x ∈ l, okRec x) (h3 : a0.length ≤ 9223372036854775807) (h4 : ∀ l ∈ a0, l.length ≤ 9223372036854775807) : law_MergeMany.sh a0 = some true := by
  unfold law_MergeMany.sh
  by_cases hs : szRecSS a0 1048576 < 0
  · simp [h3, decide_eq_true h2, decide_eq_true h4, hs]
  · obtain ⟨k1, k2, k3, _, k4, k5⟩ := szSS_of hs (by omega) (by omega)
    have hl := mergeOf_len a0
    have hT := tot_small k1 k2
    have b2 : (mergeOf a0).1.length ≤ 4611686018427387904 := by omega
    have b2' : (mergeOf a0).1.length ≤ 576460752303423488 := by omega
    have b4 : (1 : Int) ≤ 4611686018427387904 - 5 * (totL a0 : Int) := by omega
    have b7 : ¬ (1 + 5 * (totL a0 : Int)) < 0 := by omega
    have b8 : (1 : Int) ≤ 4611686018427387904 - 5 * ((mergeOf a0).1.length : Int) := by omega
    have b9 : ¬ (1 + 5 * ((mergeOf a0).1.length : Int)) < 0 := by omega
    simp [h3, decide_eq_true h2, decide_eq_true h4, hs, k1, decide_eq_true k2, decide_eq_true k3, marksR_length, heldR_marks, b2, b2', b4, b7, b8, b9]
/-! ### marks on picks -/
end Go.UL
