/- Plain Lean: what the functions compute. -/
import Derived.Test.YthpjkenkbfkdhaaGreatDoorQP28
set_option linter.unusedVariables false
set_option linter.unusedSimpArgs false
namespace Go.UL
open Go.RowKit
/-! ### the paths of a stack; many layers as one, from below -/
theorem foldI_runK {α β ρ : Type} [Inhabited α] (l : List α) (f : β → α → β) (Inv : Nat → β → Prop) (b : β × Int → Option (Step ρ (β × Int) β)) (K : Nat) (hK : l.length < K)
    (h1 : ∀ (i : Nat) (s : β), i < l.length → Inv i s → b (s, (i : Int)) = some (.nxt (f s (gt l (i : Int)), ((i + 1 : Nat) : Int))) ∧ Inv (i + 1) (f s (gt l (i : Int))))
    (h2 : ∀ s : β, b (s, (l.length : Int)) = some (.brk s)) (s0 : β) (h0 : Inv 0 s0) : loopF b K (s0, 0) = some (.inr (l.foldl f s0)) ∧ Inv l.length (l.foldl f s0) := by
  have key : ∀ (d i k : Nat) (s : β), i + d = l.length → d < k → Inv i s → loopF b k (s, (i : Int)) = some (.inr ((l.drop i).foldl f s)) ∧ Inv l.length ((l.drop i).foldl f s) := by
    intro d
    induction d with
    | zero =>
      intro i k s hi hk hs
      obtain ⟨k, rfl⟩ : ∃ m, k = m + 1 := ⟨k - 1, by omega⟩
      have : i = l.length := by omega
      subst this
      rw [loopF, h2 s, List.drop_length]; exact ⟨rfl, hs⟩
    | succ d ih =>
      intro i k s hi hk hs
      obtain ⟨k, rfl⟩ : ∃ m, k = m + 1 := ⟨k - 1, by omega⟩
      have hlt : i < l.length := by omega
      obtain ⟨e1, e2⟩ := h1 i s hlt hs
      rw [loopF, e1, drop_gt hlt]
      exact ih (i + 1) k _ (by omega) (by omega) e2
  have := key l.length 0 K s0 (by omega) (by omega) h0
  simpa using this
theorem canonR_path {l : List Rec} {r x : Rec} (h : canonR l r = some x) : x.path = r.path := by
  unfold canonR at h
  split at h
  · split at h
    · cases h
    · rw [← Option.some.inj h]
  · rw [← Option.some.inj h]
theorem filterMap_rise {f : Rec → Option Rec} (hf : ∀ r x, f r = some x → x.path = r.path) : ∀ {l : List Rec}, Rise (l.map (·.path)) → Rise ((l.filterMap f).map (·.path)) ∧ ∀ q ∈ (l.filterMap f).map (·.path), q ∈ l.map (·.path) := by
  intro l
  induction l with
  | nil => intro _; exact ⟨List.Pairwise.nil, by simp⟩
  | cons r l ih =>
    intro h
    obtain ⟨i1, i2⟩ := ih (rise_tl h)
    have hlt := rise_lt h
    cases hr : f r with
    | none => rw [List.filterMap_cons_none hr]; exact ⟨i1, fun q hq => List.mem_cons_of_mem _ (i2 q hq)⟩
    | some x =>
      rw [List.filterMap_cons_some hr, List.map_cons, hf r x hr]
      exact ⟨List.pairwise_cons.2 ⟨fun q hq => hlt q (i2 q hq), i1⟩, fun q hq => by
        rcases List.mem_cons.1 hq with rfl | hq
        · exact List.mem_cons_self
        · exact List.mem_cons_of_mem _ (i2 q hq)⟩
theorem canonL_sheet {l : List Rec} (h : sheetB l = true) : sheetB (canonL l) = true := by
  obtain ⟨h1, h2⟩ := filterMap_rise (f := canonR l) (fun r x => canonR_path) (sheetB_rise h)
  refine sheetB_mk (fun x hx => ?_) h1
  obtain ⟨r, hr, e⟩ := List.mem_map.1 (h2 _ (List.mem_map_of_mem hx))
  rw [← e]; exact sheetB_path h r hr
theorem squashL_sheet {a b : List Rec} (ha : sheetB a = true) (hb : sheetB b = true) : sheetB (squashL a b) = true := canonL_sheet (twoR_sheet ha hb)
def squashAllL (xs : List (List Rec)) : List Rec := xs.foldl squashL []
theorem sheetB_nil : sheetB [] = true := rfl
def spec_l06All.b1 (a0 : List (List Rec)) : List Rec × Int → Option (Step (List Rec) (List Rec × Int) (List Rec)) :=
  fun q => match q with
  | (x3_7, x4_9) => bif (decide (x4_9 < (a0.length : Int))) then (bif inR x4_9 a0.length then (bif decide (x3_7.length ≤ 500000) then (bif decide ((gt a0 x4_9).length ≤ 500000) then (bif decide (sheetB x3_7 = true) then (bif decide (sheetB (gt a0 x4_9) = true) then (some (.nxt ((squashL x3_7 (gt a0 x4_9)), IntKind.wrap .i64 (x4_9 + 1)))) else none) else none) else none) else none) else none) else (some (.brk x3_7))
def spec_l06All.sh (k : Nat) (a0 : List (List Rec)) : Option (List Rec) :=
  (loopF (spec_l06All.b1 a0) k (([] : List Rec), 0)).bind fun z => match z with | .inl t => some t | .inr x3_13 => some x3_13
theorem spec_l06All.eq (a0 : List (List Rec)) (h0 : stackOK a0 = true) : ∃ k, spec_l06All.sh k a0 = some (squashAllL a0) := by
  obtain ⟨h5, hL⟩ := stackOK_of h0
  refine ⟨a0.length + 1, ?_⟩
  unfold spec_l06All.sh
  have hk := foldI_runK a0 squashL (fun i s => sheetB s = true ∧ s.length ≤ 16 * i) (spec_l06All.b1 a0) (a0.length + 1) (by omega) (fun i s hi hI => by
    have hl := hL (gt a0 (i : Int)) (by rw [getD_gt, getD_el hi]; exact List.getElem_mem hi)
    have h16 := layerOK_len hl
    have hq := squashL_len s (gt a0 (i : Int))
    have d1 : decide ((i : Int) < (a0.length : Int)) = true := decide_eq_true (by omega)
    have d2 : decide (s.length ≤ 500000) = true := decide_eq_true (by have := hI.2; omega)
    have d3 : decide ((gt a0 (i : Int)).length ≤ 500000) = true := decide_eq_true (by omega)
    have e1 : IntKind.wrap .i64 ((i : Int) + 1) = ((i + 1 : Nat) : Int) := by rw [wrap_small (by omega) (by omega)]; omega
    refine ⟨?_, squashL_sheet hI.1 (layerOK_sheet hl), by have := hI.2; omega⟩
    simp only [spec_l06All.b1, d1, d2, d3, inR_nat hi, cond_true, e1, hI.1, layerOK_sheet hl, decide_true]) (fun s => by simp [spec_l06All.b1]) [] ⟨sheetB_nil, by simp⟩
  rw [hk.1]
  simp only [Option.bind_some, squashAllL]
def impl_squashAll.b1 (a0 : List (List Rec)) : List Rec × Int → Option (Step (List Rec) (List Rec × Int) (List Rec)) :=
  fun q => match q with
  | (x3_7, x9_9) => bif (decide (x9_9 < (a0.length : Int))) then (bif inR x9_9 a0.length then (bif decide (x3_7.length ≤ 500000) then (bif decide ((gt a0 x9_9).length ≤ 500000) then (bif decide (sheetB x3_7 = true) then (bif decide (sheetB (gt a0 x9_9) = true) then (some (.nxt ((squashL x3_7 (gt a0 x9_9)), IntKind.wrap .i64 (x9_9 + 1)))) else none) else none) else none) else none) else none) else (some (.brk x3_7))
def impl_squashAll.sh (k : Nat) (a0 : List (List Rec)) : Option (List Rec) :=
  (loopF (impl_squashAll.b1 a0) k (([] : List Rec), 0)).bind fun z => match z with | .inl t => some t | .inr x3_13 => some x3_13
theorem impl_squashAll.eq (a0 : List (List Rec)) (h0 : stackOK a0 = true) : ∃ k, impl_squashAll.sh k a0 = some (squashAllL a0) := by
  obtain ⟨h5, hL⟩ := stackOK_of h0
  refine ⟨a0.length + 1, ?_⟩
  unfold impl_squashAll.sh
  have hk := foldI_runK a0 squashL (fun i s => sheetB s = true ∧ s.length ≤ 16 * i) (impl_squashAll.b1 a0) (a0.length + 1) (by omega) (fun i s hi hI => by
    have hl := hL (gt a0 (i : Int)) (by rw [getD_gt, getD_el hi]; exact List.getElem_mem hi)
    have h16 := layerOK_len hl
    have hq := squashL_len s (gt a0 (i : Int))
    have d1 : decide ((i : Int) < (a0.length : Int)) = true := decide_eq_true (by omega)
    have d2 : decide (s.length ≤ 500000) = true := decide_eq_true (by have := hI.2; omega)
    have d3 : decide ((gt a0 (i : Int)).length ≤ 500000) = true := decide_eq_true (by omega)
    have e1 : IntKind.wrap .i64 ((i : Int) + 1) = ((i + 1 : Nat) : Int) := by rw [wrap_small (by omega) (by omega)]; omega
    refine ⟨?_, squashL_sheet hI.1 (layerOK_sheet hl), by have := hI.2; omega⟩
    simp only [impl_squashAll.b1, d1, d2, d3, inR_nat hi, cond_true, e1, hI.1, layerOK_sheet hl, decide_true]) (fun s => by simp [impl_squashAll.b1]) [] ⟨sheetB_nil, by simp⟩
  rw [hk.1]
  simp only [Option.bind_some, squashAllL]
def squashAllOf (a : List (List Rec)) : List Rec × Int := if stackCode a = 0 then (fitL (squashAllL a), fitC (squashAllL a)) else ([], stackCode a)
theorem squashAllOf_len (a : List (List Rec)) : (squashAllOf a).1.length ≤ 16 := by
  unfold squashAllOf
  split
  · exact fitL_len _
  · simp
def spec_SquashAll.sh (a0 : List (List Rec)) : Option (List Rec × Int) :=
  bif (decide (4096 < (a0.length : Int))) then (some (([] : List Rec), 2)) else (bif decide (a0.length ≤ 1048576) then (bif decide (∀ l ∈ a0, l.length ≤ 1048576) then (bif decide (∀ l ∈ a0, ∀ x ∈ l, x.path.length ≤ 1048576) then (bif (!(stackOK a0)) then (some (([] : List Rec), 1)) else (bif decide (stackOK a0 = true) then (bif (decide (16 < ((squashAllL a0).length : Int))) then (some (([] : List Rec), 7)) else (some ((squashAllL a0), 0))) else none)) else none) else none) else none)
theorem spec_SquashAll.eq (a0 : List (List Rec)) (h0 : a0.length ≤ 1048576) (h1 : ∀ l ∈ a0, l.length ≤ 1048576) (h2 : ∀ l ∈ a0, ∀ x ∈ l, x.path.length ≤ 1048576) : spec_SquashAll.sh a0 = some ((squashAllOf a0).1, (squashAllOf a0).2) := by
  unfold spec_SquashAll.sh squashAllOf stackCode
  rw [lenSS4096, fit_dec]
  by_cases h : 4096 < a0.length
  · simp [h]
  · rcases bool_two (stackOK a0) with c1 | c1
    · by_cases h16 : 16 < (squashAllL a0).length <;> simp [h, h0, decide_eq_true h1, decide_eq_true h2, c1, h16, fitL, fitC]
    · simp [h, h0, decide_eq_true h1, decide_eq_true h2, c1]
def impl_SquashAll.sh (a0 : List (List Rec)) : Option (List Rec × Int) :=
  bif decide (a0.length ≤ 1048576) then (bif decide (∀ l ∈ a0, l.length ≤ 1048576) then (bif decide (∀ l ∈ a0, ∀ x ∈ l, x.path.length ≤ 1048576) then (bif (!decide ((stackCode a0) = 0)) then (some ([], (stackCode a0))) else (bif decide (stackOK a0 = true) then (some ((fitL (squashAllL a0)), (fitC (squashAllL a0)))) else none)) else none) else none) else none
theorem impl_SquashAll.eq (a0 : List (List Rec)) (h0 : a0.length ≤ 1048576) (h1 : ∀ l ∈ a0, l.length ≤ 1048576) (h2 : ∀ l ∈ a0, ∀ x ∈ l, x.path.length ≤ 1048576) : impl_SquashAll.sh a0 = some ((squashAllOf a0).1, (squashAllOf a0).2) := by
  unfold impl_SquashAll.sh squashAllOf
  by_cases h : stackCode a0 = 0
  · simp [h0, decide_eq_true h1, decide_eq_true h2, h, stackCode_zero h]
  · simp [h0, decide_eq_true h1, decide_eq_true h2, h]
def law_SquashAll.sh (a0 : List (List Rec)) : Option (Bool) :=
  bif decide ((0 : Int) ≤ 1048576) then (bif decide ((1048576 : Int) ≤ 1048576) then (bif decide (a0.length ≤ 9223372036854775807) then (bif decide (∀ l ∈ a0, l.length ≤ 9223372036854775807) then (bif decide (∀ l ∈ a0, ∀ x ∈ l, okRec x) then (bif (decide ((szRecSS a0 1048576) < 0)) then (some true) else (bif decide (a0.length ≤ 1048576) then (bif decide (∀ l ∈ a0, l.length ≤ 1048576) then (bif decide (a0.length ≤ 1048576) then (bif decide (∀ l ∈ a0, l.length ≤ 1048576) then (bif decide (∀ l ∈ a0, ∀ x ∈ l, x.path.length ≤ 1048576) then (bif decide (a0.length ≤ 1048576) then (bif decide (∀ l ∈ a0, l.length ≤ 1048576) then (bif decide (a0.length ≤ 1048576) then (bif decide (∀ l ∈ a0, l.length ≤ 1048576) then (bif decide (∀ l ∈ a0, ∀ x ∈ l, x.path.length ≤ 1048576) then (bif decide (((squashAllOf a0).1).length ≤ 4611686018427387904) then (bif ((!(decide (((squashAllOf a0).1) = ((squashAllOf a0).1)))) || (!decide (((squashAllOf a0).2) = ((squashAllOf a0).2)))) then (some false) else (bif decide (a0.length ≤ 1048576) then (bif decide (∀ l ∈ a0, l.length ≤ 1048576) then (bif decide (a0.length ≤ 1048576) then (bif decide (∀ l ∈ a0, l.length ≤ 1048576) then (bif (!(decide (a0 = a0))) then (some false) else (bif decide (a0.length ≤ 1048576) then (bif decide (∀ l ∈ a0, l.length ≤ 1048576) then (bif decide ((0 : Int) ≤ 1) then (bif decide ((1 : Int) ≤ 4611686018427387904 - 5 * (totL a0 : Int)) then (((bif (decide ((1 + 5 * (totL a0 : Int)) < 0)) then some true else (bif decide (((squashAllOf a0).1).length ≤ 4611686018427387904) then (some (!(decide (((squashAllOf a0).1) = ((squashAllOf a0).1))))) else none))).bind fun z64 => bif (z64 || (!decide (((squashAllOf a0).2) = ((squashAllOf a0).2)))) then (some false) else (bif decide (((squashAllOf a0).1).length ≤ 576460752303423488) then (bif decide ((0 : Int) ≤ 1) then (bif decide ((1 : Int) ≤ 4611686018427387904 - 5 * (((squashAllOf a0).1).length : Int)) then (bif decide ((marksR ((squashAllOf a0).1).length 1).length ≤ 576460752303423488) then (bif decide ((0 : Int) ≤ 1) then (bif decide ((1 : Int) ≤ 4611686018427387904 - 5 * ((marksR ((squashAllOf a0).1).length 1).length : Int)) then (bif (decide ((heldR (marksR ((squashAllOf a0).1).length 1) 1) < 0)) then (some false) else (bif (!decide ((heldR (marksR ((squashAllOf a0).1).length 1) 1) = (1 + 5 * (((squashAllOf a0).1).length : Int)))) then (some false) else (bif decide (a0.length ≤ 1048576) then (bif decide (∀ l ∈ a0, l.length ≤ 1048576) then (bif decide (a0.length ≤ 1048576) then (bif decide (∀ l ∈ a0, l.length ≤ 1048576) then (bif decide (∀ l ∈ a0, ∀ x ∈ l, x.path.length ≤ 1048576) then (bif decide (((squashAllOf a0).1).length ≤ 4611686018427387904) then (bif ((!(decide (((squashAllOf a0).1) = ((squashAllOf a0).1)))) || (!decide (((squashAllOf a0).2) = ((squashAllOf a0).2)))) then (some false) else (bif decide ((marksR ((squashAllOf a0).1).length 1).length ≤ 576460752303423488) then (bif decide ((0 : Int) ≤ 1) then (bif decide ((1 : Int) ≤ 4611686018427387904 - 5 * ((marksR ((squashAllOf a0).1).length 1).length : Int)) then (bif (decide ((heldR (marksR ((squashAllOf a0).1).length 1) 1) < 0)) then (some false) else (bif (!decide ((heldR (marksR ((squashAllOf a0).1).length 1) 1) = (1 + 5 * (((squashAllOf a0).1).length : Int)))) then (some false) else (some true))) else none) else none) else none)) else none) else none) else none) else none) else none) else none))) else none) else none) else none) else none) else none) else none)) else none) else none) else none) else none)) else none) else none) else none) else none)) else none) else none) else none) else none) else none) else none) else none) else none) else none) else none) else none)) else none) else none) else none) else none) else none
theorem law_SquashAll.eq (a0 : List (List Rec)) (h2 : ∀ l ∈ a0, ∀ x ∈ l, okRec x) (h3 : a0.length ≤ 9223372036854775807) (h4 : ∀ l ∈ a0, l.length ≤ 9223372036854775807) : law_SquashAll.sh a0 = some true := by
  unfold law_SquashAll.sh
  by_cases hs : szRecSS a0 1048576 < 0
  · simp [h3, decide_eq_true h2, decide_eq_true h4, hs]
  · obtain ⟨k1, k2, k3, _, k4, k5⟩ := szSS_of hs (by omega) (by omega)
    have hl := squashAllOf_len a0
    have hT := tot_small k1 k2
    have b2 : (squashAllOf a0).1.length ≤ 4611686018427387904 := by omega
    have b2' : (squashAllOf a0).1.length ≤ 576460752303423488 := by omega
    have b4 : (1 : Int) ≤ 4611686018427387904 - 5 * (totL a0 : Int) := by omega
    have b7 : ¬ (1 + 5 * (totL a0 : Int)) < 0 := by omega
    have b8 : (1 : Int) ≤ 4611686018427387904 - 5 * ((squashAllOf a0).1.length : Int) := by omega
    have b9 : ¬ (1 + 5 * ((squashAllOf a0).1.length : Int)) < 0 := by omega
    simp [h3, decide_eq_true h2, decide_eq_true h4, hs, k1, decide_eq_true k2, decide_eq_true k3, marksR_length, heldR_marks, b2, b2', b4, b7, b8, b9]

end Go.UL
