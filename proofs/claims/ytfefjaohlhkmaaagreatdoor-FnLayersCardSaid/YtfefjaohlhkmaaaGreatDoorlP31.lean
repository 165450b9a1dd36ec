/- Plain Lean: what the functions compute. -/
import Derived.Test.YtfefjaohlhkmaaaGreatDoorlP25
set_option linter.unusedVariables false
set_option linter.unusedSimpArgs false
namespace Go.UL
open Go.RowKit
/-! ### the walks of applying -/
theorem Sheet.take {l : List Rec} (h : Sheet l) (i : Nat) : Sheet (l.take i) := by
  refine ⟨rise_take (fun r : Rec => r.path) h.rise i, fun r hr => h.ok r (List.mem_of_mem_take hr), fun r hr hp => ?_⟩
  obtain ⟨q, hq, e, hk⟩ := h.par r (List.mem_of_mem_take hr) hp
  obtain ⟨j, hj, rfl⟩ := List.mem_take_iff_getElem.1 hr
  have hjl : j < l.length := by omega
  have hlt : ltP q.path (l.getD j default).path = true := by rw [e, getD_el hjl]; exact ltP_parent hp
  have hq2 := idx_lt (fun r : Rec => r.path) h.rise hjl hq hlt
  refine ⟨q, ?_, e, hk⟩
  have : l.take j = (l.take i).take j := by rw [List.take_take, Nat.min_eq_left (by omega)]
  rw [this] at hq2
  exact List.mem_of_mem_take hq2
/-- A layer and a tree without a bound. -/
def okT (l : List Rec) (t : List Nd) : Bool := decide ((layerFault l).2 = 0) && woodOK t
theorem okT_of {l : List Rec} {t : List Nd} (h : okT l t = true) : Sheet l ∧ Wood t := by
  rw [okT, Bool.and_eq_true, decide_eq_true_eq] at h
  exact ⟨layer_sheet h.1, wood_of h.2⟩
theorem okT_mk {l : List Rec} {t : List Nd} (h : (layerFault l).2 = 0) (k : Wood t) : okT l t = true := by rw [okT, decide_eq_true h, wood_ok k]; rfl
theorem wood_paths {t : List Nd} (h : Wood t) : ∀ x ∈ t, x.path.length ≤ 1048576 := fun x hx => pathOK_small (nodeOK_path (h.ok x hx))
def spec_l04Put.b1 (a0 : List Nd) (a1 : Nd) : Int → Option (Step (List Nd) (Int) (Int)) :=
  fun x5_7 => bif (!(decide (x5_7 < (a0.length : Int))) || (inR x5_7 a0.length)) then (bif (!(decide (x5_7 < (a0.length : Int))) || (decide (((gt a0 x5_7).path).length ≤ 1048576))) then (bif (!(decide (x5_7 < (a0.length : Int))) || (decide (a1.path.length ≤ 1048576))) then (bif ((decide (x5_7 < (a0.length : Int))) && (lessL (cut 47 ((gt a0 x5_7).path)) (cut 47 a1.path))) then (some (.nxt (IntKind.wrap .i64 (x5_7 + 1)))) else (some (.brk x5_7))) else none) else none) else none
def spec_l04Put.sh (k : Nat) (a0 : List Nd) (a1 : Nd) : Option (List Nd) :=
  (loopF (spec_l04Put.b1 a0 a1) k 0).bind fun z => match z with | .inl t => some t | .inr x5_11 => bif inS x5_11 (a0.length : Int) (a0.length : Int) then (bif (!(decide (x5_11 < (a0.length : Int))) || (inR x5_11 a0.length)) then (bif ((decide (x5_11 < (a0.length : Int))) && (decide (((gt a0 x5_11).path) = a1.path))) then (bif inS (IntKind.wrap .i64 (x5_11 + 1)) (a0.length : Int) (a0.length : Int) then (bif inS 0 x5_11 (a0.length : Int) then (bif decide ((([] : List Nd).length + (sub a0 0 x5_11).length) * 48 ≤ 140737488355328) then (bif decide (((([] : List Nd) ++ (sub a0 0 x5_11)).length + ([a1] : List Nd).length) * 48 ≤ 140737488355328) then (bif decide ((((([] : List Nd) ++ (sub a0 0 x5_11)) ++ ([a1] : List Nd)).length + (sub a0 (IntKind.wrap .i64 (x5_11 + 1)) (a0.length : Int)).length) * 48 ≤ 140737488355328) then (some (((([] : List Nd) ++ (sub a0 0 x5_11)) ++ ([a1] : List Nd)) ++ (sub a0 (IntKind.wrap .i64 (x5_11 + 1)) (a0.length : Int)))) else none) else none) else none) else none) else none) else (bif inS 0 x5_11 (a0.length : Int) then (bif decide ((([] : List Nd).length + (sub a0 0 x5_11).length) * 48 ≤ 140737488355328) then (bif decide (((([] : List Nd) ++ (sub a0 0 x5_11)).length + ([a1] : List Nd).length) * 48 ≤ 140737488355328) then (bif decide ((((([] : List Nd) ++ (sub a0 0 x5_11)) ++ ([a1] : List Nd)).length + (sub a0 x5_11 (a0.length : Int)).length) * 48 ≤ 140737488355328) then (some (((([] : List Nd) ++ (sub a0 0 x5_11)) ++ ([a1] : List Nd)) ++ (sub a0 x5_11 (a0.length : Int)))) else none) else none) else none) else none)) else none) else none
theorem while_run {t : List Nd} {n : Nd} (h0 : t.length ≤ 1000000) (h1 : ∀ x ∈ t, x.path.length ≤ 1048576) (h2 : n.path.length ≤ 1048576) :
    loopF (spec_l04Put.b1 t n) (t.length + 1) 0 = some (.inr ((t.takeWhile fun x => ltP x.path n.path).length : Int)) := by
  have key : ∀ (d i k : Nat), i + d = t.length → d < k → loopF (spec_l04Put.b1 t n) k (i : Int) = some (.inr ((i + ((t.drop i).takeWhile fun x => ltP x.path n.path).length : Nat) : Int)) := by
    intro d
    induction d with
    | zero =>
      intro i k hi hk
      obtain ⟨k, rfl⟩ : ∃ m, k = m + 1 := ⟨k - 1, by omega⟩
      have d1 : decide ((i : Int) < (t.length : Int)) = false := decide_eq_false (by omega)
      have hd : t.drop i = [] := List.drop_eq_nil_of_le (by omega)
      rw [loopF, hd]
      simp only [spec_l04Put.b1, d1, Bool.not_false, Bool.true_or, Bool.false_and, cond_true, cond_false, List.takeWhile_nil, List.length_nil, Nat.add_zero]; rfl
    | succ d ih =>
      intro i k hi hk
      obtain ⟨k, rfl⟩ : ∃ m, k = m + 1 := ⟨k - 1, by omega⟩
      have hlt : i < t.length := by omega
      have d1 : decide ((i : Int) < (t.length : Int)) = true := decide_eq_true (by omega)
      have p1 : decide ((gt t (i : Int)).path.length ≤ 1048576) = true := decide_eq_true (by rw [getD_gt, getD_el hlt]; exact h1 _ (List.getElem_mem hlt))
      have w1 : IntKind.wrap .i64 ((i : Int) + 1) = ((i + 1 : Nat) : Int) := by rw [wrap_small (by omega) (by omega)]; omega
      rw [loopF, drop_gt hlt]
      simp only [spec_l04Put.b1, d1, inR_nat hlt, p1, decide_eq_true h2, Bool.not_true, Bool.false_or, Bool.true_and, cond_true, w1]
      rcases bool_two (lessL (cut 47 (gt t (i : Int)).path) (cut 47 n.path)) with hl | hl
      · have hl' : ltP (gt t (i : Int)).path n.path = true := hl
        rw [hl]
        simp only [cond_true, List.takeWhile_cons, hl', if_true, List.length_cons]
        refine (ih (i + 1) k (by omega) (by omega)).trans ?_
        congr 2; omega
      · have hl' : ltP (gt t (i : Int)).path n.path = false := hl
        rw [hl]
        simp only [cond_false, List.takeWhile_cons, hl', Bool.false_eq_true, if_false, List.length_nil, Nat.add_zero]; rfl
  have := key t.length 0 (t.length + 1) (by omega) (by omega)
  rw [List.drop_zero, Nat.zero_add] at this
  exact this
theorem take_while_len {α : Type} (q : α → Bool) (t : List α) : t.take (t.takeWhile q).length = t.takeWhile q ∧ t.drop (t.takeWhile q).length = t.dropWhile q := by
  have h : t = t.takeWhile q ++ t.dropWhile q := List.takeWhile_append_dropWhile.symm
  constructor
  · conv => lhs; rw [h]
    rw [List.take_append_of_le_length (by simp)]; simp
  · conv => lhs; rw [h]
    have : (t.takeWhile q ++ t.dropWhile q).takeWhile q = t.takeWhile q := by rw [← h]
    rw [this, List.drop_left]
theorem spec_l04Put.eq (a0 : List Nd) (a1 : Nd) (h0 : a0.length ≤ 1000000) (h1 : ∀ x ∈ a0, x.path.length ≤ 1048576) (h2 : a1.path.length ≤ 1048576) : ∃ k, spec_l04Put.sh k a0 a1 = some (putN a0 a1) := by
  refine ⟨a0.length + 1, ?_⟩
  unfold spec_l04Put.sh
  rw [while_run h0 h1 h2]
  obtain ⟨c, hc⟩ : ∃ c, c = (a0.takeWhile fun x => ltP x.path a1.path).length := ⟨_, rfl⟩
  obtain ⟨t1, t2⟩ := take_while_len (fun x : Nd => ltP x.path a1.path) a0
  rw [← hc] at t1 t2 ⊢
  have hle : c ≤ a0.length := by rw [hc]; exact (List.takeWhile_prefix _).length_le
  have s1 : inS (c : Int) (a0.length : Int) (a0.length : Int) = true := inS_mk (by omega) (by omega) (by omega)
  have s2 : inS 0 (c : Int) (a0.length : Int) = true := inS_mk (by omega) (by omega) (by omega)
  have e1 : sub a0 0 (c : Int) = a0.take c := by show sub a0 ((0 : Nat) : Int) (c : Int) = _; rw [sub_nat]; rfl
  have e2 : sub a0 (c : Int) (a0.length : Int) = a0.drop c := by rw [sub_nat, List.take_length]
  have l1 : (a0.take c).length ≤ 1000000 := by simp; omega
  have l2 : (a0.drop c).length ≤ 1000000 := by simp; omega
  have g1 : decide ((([] : List Nd).length + (a0.take c).length) * 48 ≤ 140737488355328) = true := decide_eq_true (by simp only [List.length_nil]; omega)
  have g2 : decide (((([] : List Nd) ++ a0.take c).length + ([a1] : List Nd).length) * 48 ≤ 140737488355328) = true := decide_eq_true (by simp only [List.nil_append, List.length_cons, List.length_nil]; omega)
  have g3 : decide ((((([] : List Nd) ++ a0.take c) ++ ([a1] : List Nd)).length + (a0.drop c).length) * 48 ≤ 140737488355328) = true := decide_eq_true (by simp only [List.nil_append, List.length_append, List.length_cons, List.length_nil]; omega)
  simp only [Option.bind_some, s1, s2, e1, e2, g1, g2, g3, cond_true]
  by_cases hlt : c < a0.length
  · have d1 : decide ((c : Int) < (a0.length : Int)) = true := decide_eq_true (by omega)
    have w1 : IntKind.wrap .i64 ((c : Int) + 1) = ((c + 1 : Nat) : Int) := by rw [wrap_small (by omega) (by omega)]; omega
    have s3 : inS ((c + 1 : Nat) : Int) (a0.length : Int) (a0.length : Int) = true := inS_mk (by omega) (by omega) (by omega)
    have e3 : sub a0 ((c + 1 : Nat) : Int) (a0.length : Int) = a0.drop (c + 1) := by rw [sub_nat, List.take_length]
    have l3 : (a0.drop (c + 1)).length ≤ 1000000 := by simp; omega
    have g4 : decide ((((([] : List Nd) ++ a0.take c) ++ ([a1] : List Nd)).length + (a0.drop (c + 1)).length) * 48 ≤ 140737488355328) = true := decide_eq_true (by simp only [List.nil_append, List.length_append, List.length_cons, List.length_nil]; omega)
    rw [drop_gt hlt] at t2
    simp only [d1, inR_nat hlt, w1, s3, e3, g4, Bool.not_true, Bool.false_or, Bool.true_and, cond_true]
    unfold putN
    rw [← t1, ← t2]
    by_cases he : (gt a0 (c : Int)).path = a1.path
    · simp [he]
    · simp [he, drop_gt hlt]
  · have d1 : decide ((c : Int) < (a0.length : Int)) = false := decide_eq_false (by omega)
    have hn : a0.drop c = [] := List.drop_eq_nil_of_le (by omega)
    simp only [d1, Bool.not_false, Bool.true_or, Bool.false_and, cond_true, cond_false]
    unfold putN
    rw [← t1, ← t2, hn]; simp
def spec_l04Node.sh (a0 : Rec) : Option (Nd) :=
  some (⟨a0.kind, a0.path, a0.body, a0.mode⟩ : Nd)
theorem spec_l04Node.eq (a0 : Rec) : spec_l04Node.sh a0 = some (ndOf a0) := rfl
def impl_Record_node.sh (a0 : Rec) : Option (Nd) :=
  some (⟨a0.kind, a0.path, a0.body, a0.mode⟩ : Nd)
theorem impl_Record_node.eq (a0 : Rec) : impl_Record_node.sh a0 = some (ndOf a0) := rfl
def spec_l05Do.sh (a0 : List Nd) (a1 : Rec) : Option (List Nd) :=
  bif decide (a0.length ≤ 1048576) then (bif (decide (a1.kind = 4)) then (bif decide (a0.length ≤ 1048576) then (some (without a0 a1.path true)) else none) else (((bif ((!decide (a1.kind = 3)) || a1.opq) then some true else (((bif (decide (0 ≤ (findN a0 a1.path))) then (bif inR (findN a0 a1.path) a0.length then (some (!decide (((gt a0 (findN a0 a1.path)).kind) = 3))) else none) else some false)).bind fun z24 => some z24))).bind fun z23 => bif z23 then (bif decide (a0.length ≤ 1048576) then (bif decide ((without a0 a1.path false).length ≤ 1000000) then (bif decide (∀ x ∈ (without a0 a1.path false), x.path.length ≤ 1048576) then (bif decide ((ndOf a1).path.length ≤ 1048576) then (some (putN (without a0 a1.path false) (ndOf a1))) else none) else none) else none) else none) else (bif decide (a0.length ≤ 1000000) then (bif decide (∀ x ∈ a0, x.path.length ≤ 1048576) then (bif decide ((ndOf a1).path.length ≤ 1048576) then (some (putN a0 (ndOf a1))) else none) else none) else none))) else none
theorem spec_l05Do.eq (a0 : List Nd) (a1 : Rec) (h0 : a0.length ≤ 1000000) (h1 : ∀ x ∈ a0, x.path.length ≤ 1048576) (h2 : a1.path.length ≤ 1048576) : spec_l05Do.sh a0 a1 = some (doS a0 a1) := by
  unfold spec_l05Do.sh doS
  have b1 : decide (a0.length ≤ 1048576) = true := decide_eq_true (by omega)
  have b2 : decide (a0.length ≤ 1000000) = true := decide_eq_true h0
  have b3 : decide ((without a0 a1.path false).length ≤ 1000000) = true := decide_eq_true (Nat.le_trans (without_len _ _ _) h0)
  have b4 : ∀ x ∈ without a0 a1.path false, x.path.length ≤ 1048576 := fun x hx => h1 x (List.mem_filter.1 hx).1
  have b5 : decide ((ndOf a1).path.length ≤ 1048576) = true := decide_eq_true h2
  simp only [b1, b2, b3, b5, decide_eq_true h1, decide_eq_true b4, cond_true]
  by_cases h4 : a1.kind = 4
  · simp [h4]
  · simp only [h4, decide_false, cond_false, if_false]
    by_cases h3 : a1.kind = 3
    · rcases bool_two a1.opq with ho | ho
      · simp [h3, ho]
      · by_cases hf : 0 ≤ findN a0 a1.path
        · by_cases hk : (gt a0 (findN a0 a1.path)).kind = 3 <;> simp [h3, ho, hf, findN_inR (t := a0) (p := a1.path) (by omega), hk]
        · simp [h3, ho, hf]
    · simp [h3]
theorem apply_at {l : List Rec} {t : List Nd} (hs : Sheet l) (ht : Wood t) {i : Nat} (hi : i ≤ l.length) : Wood (applyL (l.take i) t) ∧ (applyL (l.take i) t).length ≤ t.length + i ∧ (l.take i).foldl doI t = applyL (l.take i) t := by
  obtain ⟨h1, _, h3, h4⟩ := applyL_spec t ht i (l.take i) (by simp; omega) (hs.take i)
  exact ⟨h1, h3, h4⟩
theorem apply_next {l : List Rec} {t : List Nd} {i : Nat} (hi : i < l.length) : applyL (l.take (i + 1)) t = doS (applyL (l.take i) t) (gt l (i : Int)) := by
  rw [List.take_succ_eq_append_getElem hi, applyL_snoc, getD_gt, getD_el hi]
def spec_l05Apply.b1 (a0 : List Rec) : List Nd × Int → Option (Step (List Nd) (List Nd × Int) (List Nd)) :=
  fun q => match q with
  | (x1_13, x5_15) => bif (decide (x5_15 < (a0.length : Int))) then (bif inR x5_15 a0.length then (bif decide (x1_13.length ≤ 1000000) then (bif decide (∀ x ∈ x1_13, x.path.length ≤ 1048576) then (bif decide ((gt a0 x5_15).path.length ≤ 1048576) then (some (.nxt ((doS x1_13 (gt a0 x5_15)), IntKind.wrap .i64 (x5_15 + 1)))) else none) else none) else none) else none) else (some (.brk x1_13))
def spec_l05Apply.sh (k : Nat) (a0 : List Rec) (a1 : List Nd) : Option (List Nd) :=
  bif decide ((([] : List Nd).length + a1.length) * 48 ≤ 140737488355328) then ((loopF (spec_l05Apply.b1 a0) k (([] : List Nd) ++ a1, 0)).bind fun z => match z with | .inl t => some t | .inr x1_19 => some x1_19) else none
theorem spec_l05Apply.eq (a0 : List Rec) (a1 : List Nd) (h0 : a0.length ≤ 16) (h1 : a1.length ≤ 1000) (h2 : okT a0 a1 = true) : ∃ k, spec_l05Apply.sh k a0 a1 = some (applyL a0 a1) := by
  obtain ⟨hs, ht⟩ := okT_of h2
  refine ⟨a0.length + 1, ?_⟩
  unfold spec_l05Apply.sh
  have key : ∀ (d i k : Nat), i + d = a0.length → d < k → loopF (spec_l05Apply.b1 a0) k (applyL (a0.take i) a1, (i : Int)) = some (.inr (applyL a0 a1)) := by
    intro d
    induction d with
    | zero =>
      intro i k hi hk
      obtain ⟨k, rfl⟩ : ∃ m, k = m + 1 := ⟨k - 1, by omega⟩
      have d1 : decide ((i : Int) < (a0.length : Int)) = false := decide_eq_false (by omega)
      rw [loopF, List.take_of_length_le (by omega)]
      simp only [spec_l05Apply.b1, d1, cond_false]; rfl
    | succ d ih =>
      intro i k hi hk
      obtain ⟨k, rfl⟩ : ∃ m, k = m + 1 := ⟨k - 1, by omega⟩
      have hlt : i < a0.length := by omega
      obtain ⟨w1, w2, _⟩ := apply_at hs ht (show i ≤ a0.length by omega)
      have d1 : decide ((i : Int) < (a0.length : Int)) = true := decide_eq_true (by omega)
      have d2 : decide ((applyL (a0.take i) a1).length ≤ 1000000) = true := decide_eq_true (by omega)
      have d3 : decide ((gt a0 (i : Int)).path.length ≤ 1048576) = true := decide_eq_true (by
        rw [getD_gt, getD_el hlt]; exact pathOK_small (recFault_path (hs.ok _ (List.getElem_mem hlt))))
      have e1 : IntKind.wrap .i64 ((i : Int) + 1) = ((i + 1 : Nat) : Int) := by rw [wrap_small (by omega) (by omega)]; omega
      rw [loopF]
      simp only [spec_l05Apply.b1, d1, d2, d3, decide_eq_true (wood_paths w1), inR_nat hlt, cond_true, e1]
      rw [← apply_next hlt]
      exact ih (i + 1) k (by omega) (by omega)
  have g1 : decide ((([] : List Nd).length + a1.length) * 48 ≤ 140737488355328) = true := decide_eq_true (by simp only [List.length_nil]; omega)
  have hk := key a0.length 0 (a0.length + 1) (by omega) (by omega)
  rw [List.take_zero] at hk
  have hk2 : loopF (spec_l05Apply.b1 a0) (a0.length + 1) (([] : List Nd) ++ a1, 0) = some (.inr (applyL a0 a1)) := hk
  rw [hk2]
  simp only [g1, cond_true, Option.bind_some]
def impl_apply.b1 (a0 : List Rec) : List Nd × Int → Option (Step (List Nd) (List Nd × Int) (List Nd)) :=
  fun q => match q with
  | (x5_6, x13_8) => bif (decide (x13_8 < (a0.length : Int))) then (bif inR x13_8 a0.length then (bif decide (x5_6.length ≤ 1048576) then (((bif (((decide (((gt a0 x13_8).kind) = 3)) && (!((gt a0 x13_8).opq))) && (decide (0 ≤ (findN x5_6 ((gt a0 x13_8).path))))) then (bif inR (findN x5_6 ((gt a0 x13_8).path)) x5_6.length then (some (decide (((gt x5_6 (findN x5_6 ((gt a0 x13_8).path))).kind) = 3))) else none) else some false)).bind fun z58 => bif z58 then (bif inR (findN x5_6 ((gt a0 x13_8).path)) x5_6.length then (some (.nxt (setI x5_6 (findN x5_6 ((gt a0 x13_8).path)) (⟨(gt x5_6 (findN x5_6 ((gt a0 x13_8).path))).kind, (gt x5_6 (findN x5_6 ((gt a0 x13_8).path))).path, (gt x5_6 (findN x5_6 ((gt a0 x13_8).path))).body, (gt a0 x13_8).mode⟩ : Nd), IntKind.wrap .i64 (x13_8 + 1)))) else none) else (bif decide (x5_6.length ≤ 1048576) then (bif decide (((gt a0 x13_8).path).length ≤ 1048576) then (bif (!decide (((gt a0 x13_8).kind) = 4)) then (bif decide ((without x5_6 ((gt a0 x13_8).path) true).length ≤ 1048575) then (bif decide (riseN (without x5_6 ((gt a0 x13_8).path) true) = true) then (bif decide (∀ x ∈ (without x5_6 ((gt a0 x13_8).path) true), x.path.length ≤ 1048576) then (bif decide ((ndOf (gt a0 x13_8)).path.length ≤ 1048576) then (some (.nxt ((placeL (without x5_6 ((gt a0 x13_8).path) true) (ndOf (gt a0 x13_8))), IntKind.wrap .i64 (x13_8 + 1)))) else none) else none) else none) else none) else (some (.nxt ((without x5_6 ((gt a0 x13_8).path) true), IntKind.wrap .i64 (x13_8 + 1))))) else none) else none)) else none) else none) else (some (.brk x5_6))
def impl_apply.sh (k : Nat) (a0 : List Rec) (a1 : List Nd) : Option (List Nd) :=
  bif decide (a1.length ≤ 1048576) then ((loopF (impl_apply.b1 a0) k (a1, 0)).bind fun z => match z with | .inl t => some t | .inr x5_12 => some x5_12) else none
theorem impl_apply.eq (a0 : List Rec) (a1 : List Nd) (h0 : a0.length ≤ 16) (h1 : a1.length ≤ 1000) (h2 : okT a0 a1 = true) : ∃ k, impl_apply.sh k a0 a1 = some (applyL a0 a1) := by
  obtain ⟨hs, ht⟩ := okT_of h2
  refine ⟨a0.length + 1, ?_⟩
  unfold impl_apply.sh
  have key : ∀ (d i k : Nat), i + d = a0.length → d < k → loopF (impl_apply.b1 a0) k (applyL (a0.take i) a1, (i : Int)) = some (.inr (applyL a0 a1)) := by
    intro d
    induction d with
    | zero =>
      intro i k hi hk
      obtain ⟨k, rfl⟩ : ∃ m, k = m + 1 := ⟨k - 1, by omega⟩
      have d1 : decide ((i : Int) < (a0.length : Int)) = false := decide_eq_false (by omega)
      rw [loopF, List.take_of_length_le (by omega)]
      simp only [impl_apply.b1, d1, cond_false]; rfl
    | succ d ih =>
      intro i k hi hk
      obtain ⟨k, rfl⟩ : ∃ m, k = m + 1 := ⟨k - 1, by omega⟩
      have hlt : i < a0.length := by omega
      obtain ⟨w1, w2, _⟩ := apply_at hs ht (show i ≤ a0.length by omega)
      have hr0 : recFault (gt a0 (i : Int)) = 0 := by rw [getD_gt, getD_el hlt]; exact hs.ok _ (List.getElem_mem hlt)
      have hn := apply_next (t := a1) hlt
      rw [← doI_doS w1 hr0] at hn
      have hI := ih (i + 1) k (by omega) (by omega)
      rw [hn] at hI
      obtain ⟨x, hx⟩ : ∃ x, applyL (a0.take i) a1 = x := ⟨_, rfl⟩
      obtain ⟨r, hr⟩ : ∃ r, gt a0 (i : Int) = r := ⟨_, rfl⟩
      rw [hx] at w1 w2 hI ⊢
      rw [hr] at hr0 hI
      have hp := pathOK_small (recFault_path hr0)
      have d1 : decide ((i : Int) < (a0.length : Int)) = true := decide_eq_true (by omega)
      have d2 : decide (x.length ≤ 1048576) = true := decide_eq_true (by omega)
      have d3 : decide (r.path.length ≤ 1048576) = true := decide_eq_true hp
      have d4 : decide ((without x r.path true).length ≤ 1048575) = true := decide_eq_true (by have := without_len x r.path true; omega)
      have d5 : riseN (without x r.path true) = true := riseN_mk (without_rise w1.rise _ _)
      have d6 : ∀ y ∈ without x r.path true, y.path.length ≤ 1048576 := fun y hy => wood_paths w1 y (List.mem_filter.1 hy).1
      have d7 : decide ((ndOf r).path.length ≤ 1048576) = true := decide_eq_true hp
      have e1 : IntKind.wrap .i64 ((i : Int) + 1) = ((i + 1 : Nat) : Int) := by rw [wrap_small (by omega) (by omega)]; omega
      rw [loopF]
      simp only [impl_apply.b1, d1, d2, inR_nat hlt, cond_true, e1, hr, d3, d4, d5, d7, decide_eq_true d6, decide_true]
      unfold doI at hI
      by_cases c1 : r.kind = 3 ∧ r.opq = false
      · obtain ⟨c3, co⟩ := c1
        by_cases cf : 0 ≤ findN x r.path
        · have hin := findN_inR (t := x) (p := r.path) (by omega)
          by_cases ck : (gt x (findN x r.path)).kind = 3
          · rw [if_pos ⟨⟨c3, co⟩, cf, ck⟩] at hI
            simp only [c3, co, cf, ck, hin, decide_true, Bool.not_false, Bool.and_true, Bool.and_self, cond_true, Option.bind_some]
            rw [ck] at hI
            exact hI
          · rw [if_neg (fun h => ck h.2.2), if_neg (by omega)] at hI
            simp only [c3, co, cf, ck, hin, decide_true, decide_false, Bool.not_false, Bool.and_true, Bool.and_self, cond_true, cond_false, Option.bind_some, show ¬ (3 : Int) = 4 by decide]
            exact hI
        · rw [if_neg (fun h => cf h.2.1), if_neg (by omega)] at hI
          simp only [c3, co, cf, decide_true, decide_false, Bool.not_false, Bool.and_true, Bool.and_false, cond_true, cond_false, Option.bind_some, show ¬ (3 : Int) = 4 by decide]
          exact hI
      · rw [if_neg (fun h => c1 h.1)] at hI
        have c2 : (decide (r.kind = 3) && !r.opq) = false := by
          rcases bool_two r.opq with co | co
          · simp [co]
          · by_cases c3 : r.kind = 3
            · exact absurd ⟨c3, co⟩ c1
            · simp [c3]
        simp only [c2, Bool.false_and, cond_false, Option.bind_some]
        by_cases c4 : r.kind = 4
        · rw [if_pos c4] at hI
          simp only [c4, decide_true, Bool.not_true, cond_false]
          exact hI
        · rw [if_neg c4] at hI
          simp only [c4, decide_false, Bool.not_false, cond_true]
          exact hI
  have g1 : decide (a1.length ≤ 1048576) = true := decide_eq_true (by omega)
  have hk := key a0.length 0 (a0.length + 1) (by omega) (by omega)
  rw [List.take_zero] at hk
  have hk2 : loopF (impl_apply.b1 a0) (a0.length + 1) (a1, 0) = some (.inr (applyL a0 a1)) := hk
  rw [hk2]
  simp only [g1, cond_true, Option.bind_some]
def rtCode (l : List Rec) (t : List Nd) : Int := if decide (4096 < l.length) || decide (4096 < t.length) then 2 else if !decide ((layerFault l).2 = 0) || !treeOK t then 1 else 0
def fitT (t : List Nd) : List Nd × Int := if 24 < t.length then ([], 7) else (t, 0)
def applyOf (l : List Rec) (t : List Nd) : List Nd × Int := if rtCode l t = 0 then fitT (applyL l t) else ([], rtCode l t)
theorem rt_dec (a : List Rec) (b : List Nd) : (decide ((4096 : Int) < (a.length : Int)) || decide ((4096 : Int) < (b.length : Int))) = (decide (4096 < a.length) || decide (4096 < b.length)) := by
  have h : ∀ n : Nat, decide ((4096 : Int) < (n : Int)) = decide (4096 < n) := fun n => by rw [decide_eq_decide]; omega
  rw [h, h]
theorem n24_dec (n : Nat) : decide ((24 : Int) < (n : Int)) = decide (24 < n) := by rw [decide_eq_decide]; omega
def spec_Apply.sh (a0 : List Rec) (a1 : List Nd) : Option (List Nd × Int) :=
  bif ((decide (4096 < (a0.length : Int))) || (decide (4096 < (a1.length : Int)))) then (some (([] : List Nd), 2)) else (bif decide (a0.length ≤ 1048576) then (bif decide (∀ x ∈ a0, x.path.length ≤ 1048576) then (((bif (!(decide ((layerFault a0).2 = 0))) then some true else (bif decide (∀ x ∈ a1, x.path.length ≤ 1048576) then (some (!(treeOK a1))) else none))).bind fun z19 => bif z19 then (some (([] : List Nd), 1)) else (bif decide (a0.length ≤ 16) then (bif decide (a1.length ≤ 1000) then (bif decide (okT a0 a1 = true) then (bif (decide (24 < ((applyL a0 a1).length : Int))) then (some (([] : List Nd), 7)) else (some ((applyL a0 a1), 0))) else none) else none) else none)) else none) else none)
theorem spec_Apply.eq (a0 : List Rec) (a1 : List Nd) (h0 : a0.length ≤ 1048576) (h1 : a1.length ≤ 1048576) (h2 : ∀ x ∈ a0, x.path.length ≤ 1048576) (h3 : ∀ x ∈ a1, x.path.length ≤ 1048576) : spec_Apply.sh a0 a1 = some ((applyOf a0 a1).1, (applyOf a0 a1).2) := by
  unfold spec_Apply.sh applyOf
  rw [rt_dec]
  by_cases h : (decide (4096 < a0.length) || decide (4096 < a1.length)) = true
  · have : rtCode a0 a1 = 2 := by simp only [rtCode, h, if_true]
    simp only [h, cond_true, this]; rfl
  · have hf : (decide (4096 < a0.length) || decide (4096 < a1.length)) = false := by simpa using h
    simp only [hf, cond_false, decide_eq_true h0, decide_eq_true h2, decide_eq_true h3, cond_true]
    by_cases c1 : (layerFault a0).2 = 0
    · rcases bool_two (treeOK a1) with c2 | c2
      · have hc : rtCode a0 a1 = 0 := by simp only [rtCode, h, if_false, c1, c2]; rfl
        have l1 := layerOK_len c1
        have l2 := treeOK_len c2
        have b2 : a1.length ≤ 1000 := by omega
        simp only [c1, c2, hc, l1, b2, okT_mk c1 (treeOK_Wood c2), decide_true, Bool.not_true, cond_false, cond_true, Option.bind_some, if_true, n24_dec, fitT]
        by_cases h24 : 24 < (applyL a0 a1).length <;> simp [h24]
      · have hc : rtCode a0 a1 = 1 := by simp only [rtCode, h, if_false, c1, c2]; rfl
        simp only [c1, c2, hc, decide_true, Bool.not_true, Bool.not_false, cond_false, cond_true, Option.bind_some]; rfl
    · have hc : rtCode a0 a1 = 1 := by simp only [rtCode, h, if_false, c1]; simp
      simp only [c1, hc, decide_false, Bool.not_false, cond_true, Option.bind_some]; rfl
def impl_Apply.sh (a0 : List Rec) (a1 : List Nd) : Option (List Nd × Int) :=
  bif decide (a0.length ≤ 1048576) then (bif decide (∀ x ∈ a0, x.path.length ≤ 1048576) then (((bif (!(decide ((layerFaultL a0).2 = 0))) then some true else (bif decide (a1.length ≤ 1048576) then (bif decide (∀ x ∈ a1, x.path.length ≤ 1048576) then (some (!(treeOK a1))) else none) else none))).bind fun z14 => bif decide (([.inl ((decide (4096 < a0.length)) || (decide (4096 < a1.length))), .inr 2, .inl z14, .inr 1] : List (Bool ⊕ Int)).length ≤ 4611686018427387904) then ((some (firstOf ([.inl ((decide (4096 < a0.length)) || (decide (4096 < a1.length))), .inr 2, .inl z14, .inr 1] : List (Bool ⊕ Int)))).bind fun z31 => bif (!decide (z31 = 0)) then (some ([], z31)) else (bif decide (a0.length ≤ 16) then (bif decide (a1.length ≤ 1000) then (bif decide (okT a0 a1 = true) then (bif (decide (24 < ((applyL a0 a1).length : Int))) then (some ([], 7)) else (some ((applyL a0 a1), 0))) else none) else none) else none)) else none) else none) else none
theorem impl_Apply.eq (a0 : List Rec) (a1 : List Nd) (h0 : a0.length ≤ 1048576) (h1 : a1.length ≤ 1048576) (h2 : ∀ x ∈ a0, x.path.length ≤ 1048576) (h3 : ∀ x ∈ a1, x.path.length ≤ 1048576) : impl_Apply.sh a0 a1 = some ((applyOf a0 a1).1, (applyOf a0 a1).2) := by
  unfold impl_Apply.sh applyOf
  simp only [h0, h1, decide_true, cond_true, decide_eq_true h2, decide_eq_true h3, firstOf_c, List.length_cons, List.length_nil, firstOf, anyB, anyI]
  by_cases h : (decide (4096 < a0.length) || decide (4096 < a1.length)) = true
  · have hc : rtCode a0 a1 = 2 := by simp only [rtCode, h, if_true]
    cases hz : decide ((layerFaultL a0).2 = 0) <;> simp [h, hc]
  · have hf : (decide (4096 < a0.length) || decide (4096 < a1.length)) = false := by simpa using h
    rw [layerFaultL_zero, hf]
    by_cases c1 : (layerFault a0).2 = 0
    · rcases bool_two (treeOK a1) with c2 | c2
      · have hc : rtCode a0 a1 = 0 := by simp only [rtCode, h, if_false, c1, c2]; rfl
        have l1 := layerOK_len c1
        have l2 := treeOK_len c2
        have b2 : a1.length ≤ 1000 := by omega
        by_cases h24 : 24 < (applyL a0 a1).length <;> simp [c1, c2, hc, l1, b2, okT_mk c1 (treeOK_Wood c2), n24_dec, fitT, h24]
      · have hc : rtCode a0 a1 = 1 := by simp only [rtCode, h, if_false, c1, c2]; rfl
        simp [c1, c2, hc]
    · have hc : rtCode a0 a1 = 1 := by simp only [rtCode, h, if_false, c1]; simp
      simp [c1, hc]
theorem fitT_len (t : List Nd) : (fitT t).1.length ≤ 24 := by
  unfold fitT
  split
  · simp
  · simp only; omega
/-! ### a node added -/
/-! ### marks on stacks; stacks applied -/
/-! ### the paths of a stack; many layers as one, from below -/
theorem foldI_runK {α β ρ : Type} [Inhabited α] (l : List α) (f : β → α → β) (Inv : Nat → β → Prop) (b : β × Int → Option (Step ρ (β × Int) β)) (K : Nat) (hK : l.length < K)
    (h1 : ∀ (i : Nat) (s : β), i < l.length → Inv i s → b (s, (i : Int)) = some (.nxt (f s (gt l (i : Int)), ((i + 1 : Nat) : Int))) ∧ Inv (i + 1) (f s (gt l (i : Int))))
    (h2 : ∀ s : β, b (s, (l.length : Int)) = some (.brk s)) (s0 : β) (h0 : Inv 0 s0) : loopF b K (s0, 0) = some (.inr (l.foldl f s0)) ∧ Inv l.length (l.foldl f s0) := by
  have key : ∀ (d i k : Nat) (s : β), i + d = l.length → d < k → Inv i s → loopF b k (s, (i : Int)) = some (.inr ((l.drop i).foldl f s)) ∧ Inv l.length ((l.drop i).foldl f s) := by
    intro d
    induction d with
    | zero =>
      intro i k s hi hk hs
      obtain ⟨k, rfl⟩ : ∃ m, k = m + 1 := ⟨k - 1, by omega⟩
      have : i = l.length := by omega
      subst this
      rw [loopF, h2 s, List.drop_length]; exact ⟨rfl, hs⟩
    | succ d ih =>
      intro i k s hi hk hs
      obtain ⟨k, rfl⟩ : ∃ m, k = m + 1 := ⟨k - 1, by omega⟩
      have hlt : i < l.length := by omega
      obtain ⟨e1, e2⟩ := h1 i s hlt hs
      rw [loopF, e1, drop_gt hlt]
      exact ih (i + 1) k _ (by omega) (by omega) e2
  have := key l.length 0 K s0 (by omega) (by omega) h0
  simpa using this
theorem canonR_path {l : List Rec} {r x : Rec} (h : canonR l r = some x) : x.path = r.path := by
  unfold canonR at h
  split at h
  · split at h
    · cases h
    · rw [← Option.some.inj h]
  · rw [← Option.some.inj h]
theorem filterMap_rise {f : Rec → Option Rec} (hf : ∀ r x, f r = some x → x.path = r.path) : ∀ {l : List Rec}, Rise (l.map (·.path)) → Rise ((l.filterMap f).map (·.path)) ∧ ∀ q ∈ (l.filterMap f).map (·.path), q ∈ l.map (·.path) := by
  intro l
  induction l with
  | nil => intro _; exact ⟨List.Pairwise.nil, by simp⟩
  | cons r l ih =>
    intro h
    obtain ⟨i1, i2⟩ := ih (rise_tl h)
    have hlt := rise_lt h
    cases hr : f r with
    | none => rw [List.filterMap_cons_none hr]; exact ⟨i1, fun q hq => List.mem_cons_of_mem _ (i2 q hq)⟩
    | some x =>
      rw [List.filterMap_cons_some hr, List.map_cons, hf r x hr]
      exact ⟨List.pairwise_cons.2 ⟨fun q hq => hlt q (i2 q hq), i1⟩, fun q hq => by
        rcases List.mem_cons.1 hq with rfl | hq
        · exact List.mem_cons_self
        · exact List.mem_cons_of_mem _ (i2 q hq)⟩
/-! ### one pass over all layers -/
/-! ### marks on picks -/

/-! ### what a layer makes of each path: the canonical form is told by that alone -/
def viewR (l : List Rec) (p : List UInt8) : Option (Option Nd) := match lookR l p with
  | some r => some (showR r)
  | none => if cutsR l p then some none else none
theorem seen_view (l : List Rec) (t : List Nd) (p : List UInt8) : seenL l t p = (viewR l p).getD (lookT t p) := by
  unfold seenL viewR
  cases lookR l p with
  | some r => rfl
  | none => cases cutsR l p <;> rfl
theorem ancs_cons {p : List UInt8} (h : parentP p ≠ []) : ancs p = parentP p :: ancs (parentP p) := by rw [ancs_eq, if_neg h]
theorem ancs_none {p : List UInt8} (h : parentP p = []) : ancs p = [] := by rw [ancs_eq, if_pos h]
theorem ancs_trans {p x y : List UInt8} (hp : pathOK p = true) (hx : x ∈ ancs p) (hy : y ∈ ancs x) : y ∈ ancs p := below_ancs hp (below_trans (ancs_below hx) (ancs_below hy))
theorem ancs_ok {p x : List UInt8} (hp : pathOK p = true) (hx : x ∈ ancs p) : pathOK x = true := pathOK_below hp (ancs_below hx)
theorem ancs_depth {p x : List UInt8} (hp : pathOK p = true) (hx : x ∈ ancs p) : (cut 47 x).length < 4 := by
  have h1 := depth_below (ancs_below hx)
  have h2 := pathOK_depth hp
  omega
theorem Sheet.path {l : List Rec} (hs : Sheet l) {p : List UInt8} {r : Rec} (h : lookR l p = some r) : pathOK p = true := by
  obtain ⟨h1, h2⟩ := lookR_some h
  rw [← h2]; exact recFault_path (hs.ok r h1)
theorem Sheet.fault {l : List Rec} (hs : Sheet l) {p : List UInt8} {r : Rec} (h : lookR l p = some r) : recFault r = 0 := hs.ok r (lookR_some h).1
theorem Sheet.anc {l : List Rec} (hs : Sheet l) {p x : List UInt8} {r : Rec} (h : lookR l p = some r) (hx : x ∈ ancs p) : ∃ m, lookR l x = some m ∧ m.kind = 3 := by
  obtain ⟨h1, h2⟩ := lookR_some h
  obtain ⟨m, hm, e, hk⟩ := hs.above (n := r) h1 (p := x) (by rw [h2]; exact ancs_below hx)
  exact ⟨m, by rw [← e]; exact lookR_mem hs.rise hm, hk⟩
theorem Sheet.opqk {l : List Rec} (hs : Sheet l) {p : List UInt8} {r : Rec} (h : lookR l p = some r) (ho : r.opq = true) : r.kind = 3 := recFault_opq (hs.fault h) ho
theorem cut_under {l : List Rec} {p : List UInt8} (h : ∀ x ∈ ancs p, ∀ r, lookR l x = some r → r.kind = 3) : cutsR l p = underO l p := by
  rw [Bool.eq_iff_iff, cutsR_iff, underO_iff]
  constructor
  · rintro ⟨x, hx, r, hr, hs⟩
    refine ⟨x, hx, r, hr, ?_⟩
    simpa [stopsR, h x hx r hr] using hs
  · rintro ⟨x, hx, r, hr, hs⟩
    exact ⟨x, hx, r, hr, by simp [stopsR, hs]⟩
/-- Under what is opaque, or opaque. -/
def coverR (l : List Rec) (x : List UInt8) : Bool := underO l x || (match lookR l x with | some r => r.opq | none => false)
theorem under_parent {l : List Rec} {p : List UInt8} (h : parentP p ≠ []) : underO l p = coverR l (parentP p) := by
  rw [Bool.eq_iff_iff, underO_iff]
  unfold coverR
  rw [Bool.or_eq_true, underO_iff, ancs_cons h]
  constructor
  · rintro ⟨x, hx, r, hr, ho⟩
    rcases List.mem_cons.1 hx with rfl | hx
    · right; rw [hr]; exact ho
    · exact .inl ⟨x, hx, r, hr, ho⟩
  · rintro (⟨x, hx, r, hr, ho⟩ | ho)
    · exact ⟨x, List.mem_cons_of_mem _ hx, r, hr, ho⟩
    · cases hl : lookR l (parentP p) with
      | none => rw [hl] at ho; cases ho
      | some r => rw [hl] at ho; exact ⟨_, List.mem_cons_self, r, hl, ho⟩
theorem cover_view {l : List Rec} (hs : Sheet l) {q : List UInt8} (hq : pathOK q = true) (hp : parentP q ≠ []) {m : Rec} (hm : lookR l (parentP q) = some m) (hk : m.kind = 3) (hn : lookR l q = none) : viewR l q = if coverR l (parentP q) then some none else none := by
  unfold viewR
  rw [hn]
  show (if cutsR l q = true then some none else none) = _
  rw [cut_under, under_parent hp]
  intro x hx r hr
  rw [ancs_cons hp] at hx
  rcases List.mem_cons.1 hx with rfl | hx
  · rw [hm] at hr; rw [← Option.some.inj hr]; exact hk
  · obtain ⟨m2, h1, h2⟩ := hs.anc hm hx
    rw [h1] at hr; rw [← Option.some.inj hr]; exact h2
/-! a name that is free -/
theorem pigeon {α : Type} [DecidableEq α] : ∀ (l m : List α), l.Nodup → (∀ x ∈ l, x ∈ m) → l.length ≤ m.length := by
  intro l
  induction l with
  | nil => intro m _ _; simp
  | cons x l ih =>
    intro m hd hs
    have hx := hs x (by simp)
    have h1 := List.nodup_cons.1 hd
    have h2 := ih (m.erase x) h1.2 fun y hy => (List.mem_erase_of_ne (fun e => h1.1 (by rw [← e]; exact hy))).2 (hs y (by simp [hy]))
    rw [List.length_erase_of_mem hx] at h2
    have : 0 < m.length := List.length_pos_of_mem hx
    simp only [List.length_cons]; omega
def freeN (i : Nat) : List UInt8 := [122, UInt8.ofNat (97 + i / 16), UInt8.ofNat (97 + i % 16)]
theorem freeN_ok : ∀ i, i < 256 → partOK (freeN i) = true := by
  have h : (List.range 256).all (fun i => partOK (freeN i)) = true := by decide +kernel
  intro i hi
  exact (List.all_eq_true.1 h) i (List.mem_range.2 hi)
theorem freeN_noslash : ∀ i, i < 256 → cut 47 (freeN i) = [freeN i] := by
  have h : (List.range 256).all (fun i => decide (cut 47 (freeN i) = [freeN i])) = true := by decide +kernel
  intro i hi
  exact of_decide_eq_true ((List.all_eq_true.1 h) i (List.mem_range.2 hi))
theorem freeN_inj {i j : Nat} (hi : i < 256) (hj : j < 256) (h : freeN i = freeN j) : i = j := by
  unfold freeN at h
  injection h with _ h
  injection h with h1 h
  injection h with h2 _
  have e1 := congrArg UInt8.toNat h1
  have e2 := congrArg UInt8.toNat h2
  simp only [UInt8.toNat_ofNat'] at e1 e2
  omega
theorem joinL_le : ∀ (l : List (List UInt8)), (∀ x ∈ l, x.length ≤ 8) → (joinL l).length ≤ 9 * l.length - 1 := by
  intro l
  induction l with
  | nil => intro _; simp [joinL]
  | cons x l ih =>
    intro h
    have h1 := h x (by simp)
    have h2 := ih fun y hy => h y (by simp [hy])
    by_cases e : l = []
    · subst e; simp [joinL]; omega
    · rw [joinL_cons x e]
      have := List.length_pos_iff.2 e
      simp only [List.length_append, List.length_cons]; omega
theorem pathOK_allparts {p : List UInt8} (h : pathOK p = true) : (cut 47 p).length ≤ 4 ∧ ∀ x ∈ cut 47 p, partOK x = true := by
  simp only [pathOK, Bool.and_eq_true, decide_eq_true_eq, List.all_eq_true] at h
  exact ⟨h.2.1, h.2.2⟩
theorem child_ok {x part : List UInt8} (hx : pathOK x = true) (hd : (cut 47 x).length < 4) (hp : partOK part = true) (hc : cut 47 part = [part]) : pathOK (x ++ 47 :: part) = true ∧ parentP (x ++ 47 :: part) = x := by
  have hcut : cut 47 (x ++ 47 :: part) = cut 47 x ++ [part] := by rw [cut_app2, hc]
  obtain ⟨h1, h2⟩ := pathOK_allparts hx
  have h3 := joinL_le (cut 47 x) fun y hy => partOK_len (h2 y hy)
  rw [joinL_cut] at h3
  have h4 := partOK_len hp
  have hok : pathOK (x ++ 47 :: part) = true := by
    simp only [pathOK, Bool.and_eq_true, decide_eq_true_eq, List.all_eq_true, hcut]
    refine ⟨by simp; omega, by simp; omega, fun y hy => ?_⟩
    rcases List.mem_append.1 hy with hy | hy
    · exact h2 y hy
    · rw [List.mem_singleton.1 hy]; exact hp
  refine ⟨hok, ?_⟩
  have hb : belowP (x ++ 47 :: part) x = true := (below_iff _ _).2 ⟨[part], by simp, hcut⟩
  obtain ⟨g1, g2 | g2⟩ := parent_of_below hok hb
  · exact g2
  · have g3 := depth_below g2
    rw [cut_parent g1, hcut] at g3
    simp at g3
theorem fresh {a b : List Rec} (hlen : a.length + b.length < 256) {x : List UInt8} (hx : pathOK x = true) (hd : (cut 47 x).length < 4) :
    ∃ q, pathOK q = true ∧ parentP q = x ∧ lookR a q = none ∧ lookR b q = none := by
  have key : ∃ i, i < 256 ∧ (x ++ 47 :: freeN i) ∉ a.map (·.path) ++ b.map (·.path) := by
    refine Classical.byContradiction fun hno => ?_
    have hall : ∀ i, i < 256 → (x ++ 47 :: freeN i) ∈ a.map (·.path) ++ b.map (·.path) := fun i hi => Classical.byContradiction fun h => hno ⟨i, hi, h⟩
    have hnd : ((List.range 256).map fun i => x ++ 47 :: freeN i).Nodup := by
      refine List.pairwise_map.2 (List.Pairwise.imp_of_mem (R := fun i j => i < j) (fun {i j} hi hj hlt e => ?_) List.pairwise_lt_range)
      have h1 := List.append_cancel_left e
      injection h1 with _ h1
      have := freeN_inj (List.mem_range.1 hi) (List.mem_range.1 hj) h1
      omega
    have hle := pigeon _ _ hnd fun y hy => by
      obtain ⟨i, hi, rfl⟩ := List.mem_map.1 hy
      exact hall i (List.mem_range.1 hi)
    simp at hle
    omega
  obtain ⟨i, hi, hni⟩ := key
  obtain ⟨h1, h2⟩ := child_ok hx hd (freeN_ok i hi) (freeN_noslash i hi)
  rw [List.mem_append, not_or] at hni
  refine ⟨_, h1, h2, ?_, ?_⟩
  · cases h : lookR a (x ++ 47 :: freeN i) with
    | none => rfl
    | some r => exact absurd (lookR_paths.1 (by rw [h]; simp)) hni.1
  · cases h : lookR b (x ++ 47 :: freeN i) with
    | none => rfl
    | some r => exact absurd (lookR_paths.1 (by rw [h]; simp)) hni.2
theorem look_fm {f : Rec → Option Rec} (hf : ∀ r x, f r = some x → x.path = r.path) {l : List Rec} (h : Rise (l.map (·.path))) (p : List UInt8) : lookR (l.filterMap f) p = (lookR l p).bind f := by
  have h2 := (mrgF_spec (fun r : Rec => r.path) f some (fun _ _ => none) hf (fun y z e => by rw [Option.some.inj e]) (fun x y z _ e => by cases e) _ l [] (Nat.le_refl _) h List.Pairwise.nil).2 p
  rw [mrgF_nil] at h2
  refine h2.trans ?_
  show mrgO f some (fun _ _ => none) (lookR l p) none = _
  cases lookR l p <;> rfl
theorem look_canon {l : List Rec} (hs : Sheet l) (p : List UInt8) : lookR (canonL l) p = (lookR l p).bind (canonR l) := look_fm (fun _ _ => canonR_path) hs.rise p
theorem canonR_under {l : List Rec} {r : Rec} (h : underO l r.path = true) : canonR l r = if r.kind = 4 then none else some ⟨r.kind, r.path, r.body, r.mode, false⟩ := by unfold canonR; rw [if_pos h]
theorem canonR_not {l : List Rec} {r : Rec} (h : underO l r.path = false) : canonR l r = some ⟨r.kind, r.path, r.body, r.mode, r.opq && decide ((cut 47 r.path).length < 4)⟩ := by unfold canonR; rw [if_neg (by rw [h]; simp)]
theorem white_parts {r : Rec} (h : recFault r = 0) (hk : r.kind = 4) : r.body = [] ∧ r.mode = 0 ∧ r.opq = false := by
  obtain ⟨_, _, _, h4, h5⟩ := (recFault_parts r).1 h
  rw [Bool.or_eq_false_iff] at h4 h5
  simp [hk] at h4 h5
  exact ⟨h4.1, h5.2, h4.2⟩
theorem view_show {l : List Rec} {p : List UInt8} {n : Nd} (h : viewR l p = some (some n)) : ∃ r, lookR l p = some r ∧ r.kind ≠ 4 ∧ ndOf r = n := by
  unfold viewR at h
  cases hl : lookR l p with
  | none =>
    rw [hl] at h
    rcases bool_two (cutsR l p) with hc | hc
    · simp [hc] at h
    · simp [hc] at h
  | some r =>
    rw [hl] at h
    have h : showR r = some n := Option.some.inj h
    unfold showR at h
    by_cases hk : r.kind = 4
    · rw [if_pos hk] at h; cases h
    · rw [if_neg hk] at h; exact ⟨r, rfl, hk, Option.some.inj h⟩
theorem view_rec {l : List Rec} {p : List UInt8} {r : Rec} (h : lookR l p = some r) : viewR l p = some (showR r) := by unfold viewR; rw [h]
set_option linter.unusedSectionVars false
section
variable {a b : List Rec} (ha : Sheet a) (hb : Sheet b) (hlen : a.length + b.length < 256) (hv : ∀ p, pathOK p = true → viewR a p = viewR b p)
include ha hb hlen hv
theorem dir_both {x : List UInt8} {m : Rec} (h : lookR a x = some m) (hk : m.kind ≠ 4) : ∃ m', lookR b x = some m' ∧ m'.kind ≠ 4 ∧ ndOf m' = ndOf m := by
  have h1 := hv x (ha.path h)
  rw [view_rec h] at h1
  unfold showR at h1
  rw [if_neg hk] at h1
  exact view_show h1.symm
theorem cover_eq {x : List UInt8} {m m' : Rec} (hx : pathOK x = true) (hd : (cut 47 x).length < 4) (h : lookR a x = some m) (hk : m.kind = 3) (h' : lookR b x = some m') (hk' : m'.kind = 3) : coverR a x = coverR b x := by
  obtain ⟨q, h1, h2, h3, h4⟩ := fresh hlen hx hd
  have hne : parentP q ≠ [] := by rw [h2]; exact pathOK_ne hx
  have e1 := cover_view ha h1 hne (by rw [h2]; exact h) hk h3
  have e2 := cover_view hb h1 hne (by rw [h2]; exact h') hk' h4
  rw [h2] at e1 e2
  have e3 := hv q h1
  rw [e1, e2] at e3
  cases h5 : coverR a x <;> cases h6 : coverR b x <;> simp [h5, h6] at e3 ⊢
theorem under_eq {p : List UInt8} {r : Rec} (h : lookR a p = some r) : underO a p = underO b p ∧ ∀ x ∈ ancs p, ∃ m, lookR b x = some m ∧ m.kind = 3 := by
  have hp := ha.path h
  have hall : ∀ x ∈ ancs p, ∃ m, lookR b x = some m ∧ m.kind = 3 := fun x hx => by
    obtain ⟨m, h1, h2⟩ := ha.anc h hx
    obtain ⟨m', h3, _, h5⟩ := dir_both ha hb hlen hv h1 (by omega)
    exact ⟨m', h3, by have := congrArg Nd.kind h5; simp only [ndOf] at this; omega⟩
  refine ⟨?_, hall⟩
  by_cases hpp : parentP p = []
  · have : ∀ l, underO l p = false := fun l => by unfold underO; rw [ancs_none hpp]; rfl
    rw [this, this]
  · have hx : parentP p ∈ ancs p := by rw [ancs_cons hpp]; exact List.mem_cons_self
    obtain ⟨m, h1, h2⟩ := ha.anc h hx
    obtain ⟨m', h3, h4⟩ := hall _ hx
    rw [under_parent hpp, under_parent hpp]
    exact cover_eq ha hb hlen hv (ancs_ok hp hx) (ancs_depth hp hx) h1 h2 h3 h4
theorem canon_half {p : List UInt8} {r : Rec} (h : lookR (canonL a) p = some r) : lookR (canonL b) p = some r := by
  rw [look_canon ha] at h
  rw [look_canon hb]
  cases h0 : lookR a p with
  | none => rw [h0] at h; cases h
  | some r0 =>
    rw [h0] at h
    have h : canonR a r0 = some r := h
    have hp := ha.path h0
    have e0 := (lookR_some h0).2
    obtain ⟨hu, hall⟩ := under_eq ha hb hlen hv h0
    by_cases hk : r0.kind = 4
    · obtain ⟨w1, w2, w3⟩ := white_parts (ha.fault h0) hk
      have hun : underO a p = false := by
        rcases bool_two (underO a p) with hh | hh
        · rw [canonR_under (by rw [e0]; exact hh), if_pos hk] at h; cases h
        · exact hh
      rw [canonR_not (by rw [e0]; exact hun)] at h
      have hv1 := hv p hp
      rw [view_rec h0] at hv1
      unfold showR at hv1
      rw [if_pos hk] at hv1
      cases h1 : lookR b p with
      | none =>
        unfold viewR at hv1
        rw [h1] at hv1
        have hc : cutsR b p = underO b p := cut_under fun x hx m hm => by
          obtain ⟨m', g1, g2⟩ := hall x hx
          rw [g1] at hm; rw [← Option.some.inj hm]; exact g2
        rw [hc, ← hu, hun] at hv1
        cases hv1
      | some rb =>
        have e1 := (lookR_some h1).2
        rw [view_rec h1] at hv1
        have hk2 : rb.kind = 4 := by
          have := Option.some.inj hv1
          unfold showR at this
          split at this
          · assumption
          · cases this
        obtain ⟨y1, y2, y3⟩ := white_parts (hb.fault h1) hk2
        show canonR b rb = some r
        rw [canonR_not (by rw [e1, ← hu]; exact hun), ← h, hk, hk2, e0, e1, w1, w2, w3, y1, y2, y3]
    · obtain ⟨rb, h1, hk2, hnd⟩ := dir_both ha hb hlen hv h0 hk
      have e1 := (lookR_some h1).2
      simp only [ndOf, Nd.mk.injEq] at hnd
      obtain ⟨n1, n2, n3, n4⟩ := hnd
      refine (congrArg (fun o : Option Rec => o.bind (canonR b)) h1).trans ?_
      show canonR b rb = some r
      rcases bool_two (underO a p) with hun | hun
      · rw [canonR_under (by rw [e0]; exact hun), if_neg hk] at h
        rw [canonR_under (by rw [e1, ← hu]; exact hun), if_neg hk2, ← h, n1, n2, n3, n4]
      · rw [canonR_not (by rw [e0]; exact hun)] at h
        rw [canonR_not (by rw [e1, ← hu]; exact hun), ← h, n1, n2, n3, n4]
        congr 2
        by_cases hd : (cut 47 r0.path).length < 4
        · have hoo : rb.opq = r0.opq := by
            by_cases h3 : r0.kind = 3
            · have hc := cover_eq ha hb hlen hv hp (by rw [← e0]; exact hd) h0 h3 h1 (by omega)
              unfold coverR at hc
              rw [h0, h1, ← hu, hun] at hc
              simpa using hc.symm
            · have g1 : r0.opq = false := by
                rcases bool_two r0.opq with g | g
                · exact absurd (ha.opqk h0 g) h3
                · exact g
              have g2 : rb.opq = false := by
                rcases bool_two rb.opq with g | g
                · exact absurd (hb.opqk h1 g) (by omega)
                · exact g
              rw [g1, g2]
          rw [hoo]
        · simp [hd]
end
/-- THE CANONICAL FORM: layers that make the same of every path have the same. -/
theorem canon_of_view {a b : List Rec} (ha : Sheet a) (hb : Sheet b) (hlen : a.length + b.length < 256) (hv : ∀ p, pathOK p = true → viewR a p = viewR b p) : canonL a = canonL b := by
  refine riseF_uniq (fun r : Rec => r.path) (filterMap_rise (fun _ _ => canonR_path) ha.rise).1 (filterMap_rise (fun _ _ => canonR_path) hb.rise).1 fun p => ?_
  cases h : lookR (canonL a) p with
  | some r => exact h.trans (canon_half ha hb hlen hv h).symm
  | none =>
    cases h' : lookR (canonL b) p with
    | none => exact h.trans h'.symm
    | some r =>
      have := canon_half hb ha (by omega) (fun q hq => (hv q hq).symm) h'
      rw [h] at this; cases this

end Go.UL
