/- Plain Lean: what the functions compute. -/
import Derived.Test.YthpjkenkbfkdhaaGreatDoorYP25
set_option linter.unusedVariables false
set_option linter.unusedSimpArgs false
namespace Go.UL
open Go.RowKit
/-! ### the walks of applying -/
theorem Sheet.take {l : List Rec} (h : Sheet l) (i : Nat) : Sheet (l.take i) := by
  refine ⟨rise_take (fun r : Rec => r.path) h.rise i, fun r hr => h.ok r (List.mem_of_mem_take hr), fun r hr hp => ?_⟩
  obtain ⟨q, hq, e, hk⟩ := h.par r (List.mem_of_mem_take hr) hp
  obtain ⟨j, hj, rfl⟩ := List.mem_take_iff_getElem.1 hr
  have hjl : j < l.length := by omega
  have hlt : ltP q.path (l.getD j default).path = true := by rw [e, getD_el hjl]; exact ltP_parent hp
  have hq2 := idx_lt (fun r : Rec => r.path) h.rise hjl hq hlt
  refine ⟨q, ?_, e, hk⟩
  have : l.take j = (l.take i).take j := by rw [List.take_take, Nat.min_eq_left (by omega)]
  rw [this] at hq2
  exact List.mem_of_mem_take hq2
/-- A layer and a tree without a bound. -/
def okT (l : List Rec) (t : List Nd) : Bool := decide ((layerFault l).2 = 0) && woodOK t
theorem okT_of {l : List Rec} {t : List Nd} (h : okT l t = true) : Sheet l ∧ Wood t := by
  rw [okT, Bool.and_eq_true, decide_eq_true_eq] at h
  exact ⟨layer_sheet h.1, wood_of h.2⟩
theorem okT_mk {l : List Rec} {t : List Nd} (h : (layerFault l).2 = 0) (k : Wood t) : okT l t = true := by rw [okT, decide_eq_true h, wood_ok k]; rfl
theorem wood_paths {t : List Nd} (h : Wood t) : ∀ x ∈ t, x.path.length ≤ 1048576 := fun x hx => pathOK_small (nodeOK_path (h.ok x hx))
def spec_l04Put.b1 (a0 : List Nd) (a1 : Nd) : Int → Option (Step (List Nd) (Int) (Int)) :=
  fun x5_7 => bif (!(decide (x5_7 < (a0.length : Int))) || (inR x5_7 a0.length)) then (bif (!(decide (x5_7 < (a0.length : Int))) || (decide (((gt a0 x5_7).path).length ≤ 1048576))) then (bif (!(decide (x5_7 < (a0.length : Int))) || (decide (a1.path.length ≤ 1048576))) then (bif ((decide (x5_7 < (a0.length : Int))) && (lessL (cut 47 ((gt a0 x5_7).path)) (cut 47 a1.path))) then (some (.nxt (IntKind.wrap .i64 (x5_7 + 1)))) else (some (.brk x5_7))) else none) else none) else none
def spec_l04Put.sh (k : Nat) (a0 : List Nd) (a1 : Nd) : Option (List Nd) :=
  (loopF (spec_l04Put.b1 a0 a1) k 0).bind fun z => match z with | .inl t => some t | .inr x5_11 => bif inS x5_11 (a0.length : Int) (a0.length : Int) then (bif (!(decide (x5_11 < (a0.length : Int))) || (inR x5_11 a0.length)) then (bif ((decide (x5_11 < (a0.length : Int))) && (decide (((gt a0 x5_11).path) = a1.path))) then (bif inS (IntKind.wrap .i64 (x5_11 + 1)) (a0.length : Int) (a0.length : Int) then (bif inS 0 x5_11 (a0.length : Int) then (bif decide ((([] : List Nd).length + (sub a0 0 x5_11).length) * 48 ≤ 140737488355328) then (bif decide (((([] : List Nd) ++ (sub a0 0 x5_11)).length + ([a1] : List Nd).length) * 48 ≤ 140737488355328) then (bif decide ((((([] : List Nd) ++ (sub a0 0 x5_11)) ++ ([a1] : List Nd)).length + (sub a0 (IntKind.wrap .i64 (x5_11 + 1)) (a0.length : Int)).length) * 48 ≤ 140737488355328) then (some (((([] : List Nd) ++ (sub a0 0 x5_11)) ++ ([a1] : List Nd)) ++ (sub a0 (IntKind.wrap .i64 (x5_11 + 1)) (a0.length : Int)))) else none) else none) else none) else none) else none) else (bif inS 0 x5_11 (a0.length : Int) then (bif decide ((([] : List Nd).length + (sub a0 0 x5_11).length) * 48 ≤ 140737488355328) then (bif decide (((([] : List Nd) ++ (sub a0 0 x5_11)).length + ([a1] : List Nd).length) * 48 ≤ 140737488355328) then (bif decide ((((([] : List Nd) ++ (sub a0 0 x5_11)) ++ ([a1] : List Nd)).length + (sub a0 x5_11 (a0.length : Int)).length) * 48 ≤ 140737488355328) then (some (((([] : List Nd) ++ (sub a0 0 x5_11)) ++ ([a1] : List Nd)) ++ (sub a0 x5_11 (a0.length : Int)))) else none) else none) else none) else none)) else none) else none
theorem while_run {t : List Nd} {n : Nd} (h0 : t.length ≤ 1000000) (h1 : ∀ x ∈ t, x.path.length ≤ 1048576) (h2 : n.path.length ≤ 1048576) :
    loopF (spec_l04Put.b1 t n) (t.length + 1) 0 = some (.inr ((t.takeWhile fun x => ltP x.path n.path).length : Int)) := by
  have key : ∀ (d i k : Nat), i + d = t.length → d < k → loopF (spec_l04Put.b1 t n) k (i : Int) = some (.inr ((i + ((t.drop i).takeWhile fun x => ltP x.path n.path).length : Nat) : Int)) := by
    intro d
    induction d with
    | zero =>
      intro i k hi hk
      obtain ⟨k, rfl⟩ : ∃ m, k = m + 1 := ⟨k - 1, by omega⟩
      have d1 : decide ((i : Int) < (t.length : Int)) = false := decide_eq_false (by omega)
      have hd : t.drop i = [] := List.drop_eq_nil_of_le (by omega)
      rw [loopF, hd]
      simp only [spec_l04Put.b1, d1, Bool.not_false, Bool.true_or, Bool.false_and, cond_true, cond_false, List.takeWhile_nil, List.length_nil, Nat.add_zero]; rfl
    | succ d ih =>
      intro i k hi hk
      obtain ⟨k, rfl⟩ : ∃ m, k = m + 1 := ⟨k - 1, by omega⟩
      have hlt : i < t.length := by omega
      have d1 : decide ((i : Int) < (t.length : Int)) = true := decide_eq_true (by omega)
      have p1 : decide ((gt t (i : Int)).path.length ≤ 1048576) = true := decide_eq_true (by rw [getD_gt, getD_el hlt]; exact h1 _ (List.getElem_mem hlt))
      have w1 : IntKind.wrap .i64 ((i : Int) + 1) = ((i + 1 : Nat) : Int) := by rw [wrap_small (by omega) (by omega)]; omega
      rw [loopF, drop_gt hlt]
      simp only [spec_l04Put.b1, d1, inR_nat hlt, p1, decide_eq_true h2, Bool.not_true, Bool.false_or, Bool.true_and, cond_true, w1]
      rcases bool_two (lessL (cut 47 (gt t (i : Int)).path) (cut 47 n.path)) with hl | hl
      · have hl' : ltP (gt t (i : Int)).path n.path = true := hl
        rw [hl]
        simp only [cond_true, List.takeWhile_cons, hl', if_true, List.length_cons]
        refine (ih (i + 1) k (by omega) (by omega)).trans ?_
        congr 2; omega
      · have hl' : ltP (gt t (i : Int)).path n.path = false := hl
        rw [hl]
        simp only [cond_false, List.takeWhile_cons, hl', Bool.false_eq_true, if_false, List.length_nil, Nat.add_zero]; rfl
  have := key t.length 0 (t.length + 1) (by omega) (by omega)
  rw [List.drop_zero, Nat.zero_add] at this
  exact this
theorem take_while_len {α : Type} (q : α → Bool) (t : List α) : t.take (t.takeWhile q).length = t.takeWhile q ∧ t.drop (t.takeWhile q).length = t.dropWhile q := by
  have h : t = t.takeWhile q ++ t.dropWhile q := List.takeWhile_append_dropWhile.symm
  constructor
  · conv => lhs; rw [h]
    rw [List.take_append_of_le_length (by simp)]; simp
  · conv => lhs; rw [h]
    have : (t.takeWhile q ++ t.dropWhile q).takeWhile q = t.takeWhile q := by rw [← h]
    rw [this, List.drop_left]
theorem spec_l04Put.eq (a0 : List Nd) (a1 : Nd) (h0 : a0.length ≤ 1000000) (h1 : ∀ x ∈ a0, x.path.length ≤ 1048576) (h2 : a1.path.length ≤ 1048576) : ∃ k, spec_l04Put.sh k a0 a1 = some (putN a0 a1) := by
  refine ⟨a0.length + 1, ?_⟩
  unfold spec_l04Put.sh
  rw [while_run h0 h1 h2]
  obtain ⟨c, hc⟩ : ∃ c, c = (a0.takeWhile fun x => ltP x.path a1.path).length := ⟨_, rfl⟩
  obtain ⟨t1, t2⟩ := take_while_len (fun x : Nd => ltP x.path a1.path) a0
  rw [← hc] at t1 t2 ⊢
  have hle : c ≤ a0.length := by rw [hc]; exact (List.takeWhile_prefix _).length_le
  have s1 : inS (c : Int) (a0.length : Int) (a0.length : Int) = true := inS_mk (by omega) (by omega) (by omega)
  have s2 : inS 0 (c : Int) (a0.length : Int) = true := inS_mk (by omega) (by omega) (by omega)
  have e1 : sub a0 0 (c : Int) = a0.take c := by show sub a0 ((0 : Nat) : Int) (c : Int) = _; rw [sub_nat]; rfl
  have e2 : sub a0 (c : Int) (a0.length : Int) = a0.drop c := by rw [sub_nat, List.take_length]
  have l1 : (a0.take c).length ≤ 1000000 := by simp; omega
  have l2 : (a0.drop c).length ≤ 1000000 := by simp; omega
  have g1 : decide ((([] : List Nd).length + (a0.take c).length) * 48 ≤ 140737488355328) = true := decide_eq_true (by simp only [List.length_nil]; omega)
  have g2 : decide (((([] : List Nd) ++ a0.take c).length + ([a1] : List Nd).length) * 48 ≤ 140737488355328) = true := decide_eq_true (by simp only [List.nil_append, List.length_cons, List.length_nil]; omega)
  have g3 : decide ((((([] : List Nd) ++ a0.take c) ++ ([a1] : List Nd)).length + (a0.drop c).length) * 48 ≤ 140737488355328) = true := decide_eq_true (by simp only [List.nil_append, List.length_append, List.length_cons, List.length_nil]; omega)
  simp only [Option.bind_some, s1, s2, e1, e2, g1, g2, g3, cond_true]
  by_cases hlt : c < a0.length
  · have d1 : decide ((c : Int) < (a0.length : Int)) = true := decide_eq_true (by omega)
    have w1 : IntKind.wrap .i64 ((c : Int) + 1) = ((c + 1 : Nat) : Int) := by rw [wrap_small (by omega) (by omega)]; omega
    have s3 : inS ((c + 1 : Nat) : Int) (a0.length : Int) (a0.length : Int) = true := inS_mk (by omega) (by omega) (by omega)
    have e3 : sub a0 ((c + 1 : Nat) : Int) (a0.length : Int) = a0.drop (c + 1) := by rw [sub_nat, List.take_length]
    have l3 : (a0.drop (c + 1)).length ≤ 1000000 := by simp; omega
    have g4 : decide ((((([] : List Nd) ++ a0.take c) ++ ([a1] : List Nd)).length + (a0.drop (c + 1)).length) * 48 ≤ 140737488355328) = true := decide_eq_true (by simp only [List.nil_append, List.length_append, List.length_cons, List.length_nil]; omega)
    rw [drop_gt hlt] at t2
    simp only [d1, inR_nat hlt, w1, s3, e3, g4, Bool.not_true, Bool.false_or, Bool.true_and, cond_true]
    unfold putN
    rw [← t1, ← t2]
    by_cases he : (gt a0 (c : Int)).path = a1.path
    · simp [he]
    · simp [he, drop_gt hlt]
  · have d1 : decide ((c : Int) < (a0.length : Int)) = false := decide_eq_false (by omega)
    have hn : a0.drop c = [] := List.drop_eq_nil_of_le (by omega)
    simp only [d1, Bool.not_false, Bool.true_or, Bool.false_and, cond_true, cond_false]
    unfold putN
    rw [← t1, ← t2, hn]; simp
def spec_l04Node.sh (a0 : Rec) : Option (Nd) :=
  some (⟨a0.kind, a0.path, a0.body, a0.mode⟩ : Nd)
theorem spec_l04Node.eq (a0 : Rec) : spec_l04Node.sh a0 = some (ndOf a0) := rfl
def impl_Record_node.sh (a0 : Rec) : Option (Nd) :=
  some (⟨a0.kind, a0.path, a0.body, a0.mode⟩ : Nd)
theorem impl_Record_node.eq (a0 : Rec) : impl_Record_node.sh a0 = some (ndOf a0) := rfl
def spec_l05Do.sh (a0 : List Nd) (a1 : Rec) : Option (List Nd) :=
  bif decide (a0.length ≤ 1048576) then (bif (decide (a1.kind = 4)) then (bif decide (a0.length ≤ 1048576) then (some (without a0 a1.path true)) else none) else (((bif ((!decide (a1.kind = 3)) || a1.opq) then some true else (((bif (decide (0 ≤ (findN a0 a1.path))) then (bif inR (findN a0 a1.path) a0.length then (some (!decide (((gt a0 (findN a0 a1.path)).kind) = 3))) else none) else some false)).bind fun z24 => some z24))).bind fun z23 => bif z23 then (bif decide (a0.length ≤ 1048576) then (bif decide ((without a0 a1.path false).length ≤ 1000000) then (bif decide (∀ x ∈ (without a0 a1.path false), x.path.length ≤ 1048576) then (bif decide ((ndOf a1).path.length ≤ 1048576) then (some (putN (without a0 a1.path false) (ndOf a1))) else none) else none) else none) else none) else (bif decide (a0.length ≤ 1000000) then (bif decide (∀ x ∈ a0, x.path.length ≤ 1048576) then (bif decide ((ndOf a1).path.length ≤ 1048576) then (some (putN a0 (ndOf a1))) else none) else none) else none))) else none
theorem spec_l05Do.eq (a0 : List Nd) (a1 : Rec) (h0 : a0.length ≤ 1000000) (h1 : ∀ x ∈ a0, x.path.length ≤ 1048576) (h2 : a1.path.length ≤ 1048576) : spec_l05Do.sh a0 a1 = some (doS a0 a1) := by
  unfold spec_l05Do.sh doS
  have b1 : decide (a0.length ≤ 1048576) = true := decide_eq_true (by omega)
  have b2 : decide (a0.length ≤ 1000000) = true := decide_eq_true h0
  have b3 : decide ((without a0 a1.path false).length ≤ 1000000) = true := decide_eq_true (Nat.le_trans (without_len _ _ _) h0)
  have b4 : ∀ x ∈ without a0 a1.path false, x.path.length ≤ 1048576 := fun x hx => h1 x (List.mem_filter.1 hx).1
  have b5 : decide ((ndOf a1).path.length ≤ 1048576) = true := decide_eq_true h2
  simp only [b1, b2, b3, b5, decide_eq_true h1, decide_eq_true b4, cond_true]
  by_cases h4 : a1.kind = 4
  · simp [h4]
  · simp only [h4, decide_false, cond_false, if_false]
    by_cases h3 : a1.kind = 3
    · rcases bool_two a1.opq with ho | ho
      · simp [h3, ho]
      · by_cases hf : 0 ≤ findN a0 a1.path
        · by_cases hk : (gt a0 (findN a0 a1.path)).kind = 3 <;> simp [h3, ho, hf, findN_inR (t := a0) (p := a1.path) (by omega), hk]
        · simp [h3, ho, hf]
    · simp [h3]
theorem apply_at {l : List Rec} {t : List Nd} (hs : Sheet l) (ht : Wood t) {i : Nat} (hi : i ≤ l.length) : Wood (applyL (l.take i) t) ∧ (applyL (l.take i) t).length ≤ t.length + i ∧ (l.take i).foldl doI t = applyL (l.take i) t := by
  obtain ⟨h1, _, h3, h4⟩ := applyL_spec t ht i (l.take i) (by simp; omega) (hs.take i)
  exact ⟨h1, h3, h4⟩
theorem apply_next {l : List Rec} {t : List Nd} {i : Nat} (hi : i < l.length) : applyL (l.take (i + 1)) t = doS (applyL (l.take i) t) (gt l (i : Int)) := by
  rw [List.take_succ_eq_append_getElem hi, applyL_snoc, getD_gt, getD_el hi]
def spec_l05Apply.b1 (a0 : List Rec) : List Nd × Int → Option (Step (List Nd) (List Nd × Int) (List Nd)) :=
  fun q => match q with
  | (x1_13, x5_15) => bif (decide (x5_15 < (a0.length : Int))) then (bif inR x5_15 a0.length then (bif decide (x1_13.length ≤ 1000000) then (bif decide (∀ x ∈ x1_13, x.path.length ≤ 1048576) then (bif decide ((gt a0 x5_15).path.length ≤ 1048576) then (some (.nxt ((doS x1_13 (gt a0 x5_15)), IntKind.wrap .i64 (x5_15 + 1)))) else none) else none) else none) else none) else (some (.brk x1_13))
def spec_l05Apply.sh (k : Nat) (a0 : List Rec) (a1 : List Nd) : Option (List Nd) :=
  bif decide ((([] : List Nd).length + a1.length) * 48 ≤ 140737488355328) then ((loopF (spec_l05Apply.b1 a0) k (([] : List Nd) ++ a1, 0)).bind fun z => match z with | .inl t => some t | .inr x1_19 => some x1_19) else none
theorem spec_l05Apply.eq (a0 : List Rec) (a1 : List Nd) (h0 : a0.length ≤ 16) (h1 : a1.length ≤ 1000) (h2 : okT a0 a1 = true) : ∃ k, spec_l05Apply.sh k a0 a1 = some (applyL a0 a1) := by
  obtain ⟨hs, ht⟩ := okT_of h2
  refine ⟨a0.length + 1, ?_⟩
  unfold spec_l05Apply.sh
  have key : ∀ (d i k : Nat), i + d = a0.length → d < k → loopF (spec_l05Apply.b1 a0) k (applyL (a0.take i) a1, (i : Int)) = some (.inr (applyL a0 a1)) := by
    intro d
    induction d with
    | zero =>
      intro i k hi hk
      obtain ⟨k, rfl⟩ : ∃ m, k = m + 1 := ⟨k - 1, by omega⟩
      have d1 : decide ((i : Int) < (a0.length : Int)) = false := decide_eq_false (by omega)
      rw [loopF, List.take_of_length_le (by omega)]
      simp only [spec_l05Apply.b1, d1, cond_false]; rfl
    | succ d ih =>
      intro i k hi hk
      obtain ⟨k, rfl⟩ : ∃ m, k = m + 1 := ⟨k - 1, by omega⟩
      have hlt : i < a0.length := by omega
      obtain ⟨w1, w2, _⟩ := apply_at hs ht (show i ≤ a0.length by omega)
      have d1 : decide ((i : Int) < (a0.length : Int)) = true := decide_eq_true (by omega)
      have d2 : decide ((applyL (a0.take i) a1).length ≤ 1000000) = true := decide_eq_true (by omega)
      have d3 : decide ((gt a0 (i : Int)).path.length ≤ 1048576) = true := decide_eq_true (by
        rw [getD_gt, getD_el hlt]; exact pathOK_small (recFault_path (hs.ok _ (List.getElem_mem hlt))))
      have e1 : IntKind.wrap .i64 ((i : Int) + 1) = ((i + 1 : Nat) : Int) := by rw [wrap_small (by omega) (by omega)]; omega
      rw [loopF]
      simp only [spec_l05Apply.b1, d1, d2, d3, decide_eq_true (wood_paths w1), inR_nat hlt, cond_true, e1]
      rw [← apply_next hlt]
      exact ih (i + 1) k (by omega) (by omega)
  have g1 : decide ((([] : List Nd).length + a1.length) * 48 ≤ 140737488355328) = true := decide_eq_true (by simp only [List.length_nil]; omega)
  have hk := key a0.length 0 (a0.length + 1) (by omega) (by omega)
  rw [List.take_zero] at hk
  have hk2 : loopF (spec_l05Apply.b1 a0) (a0.length + 1) (([] : List Nd) ++ a1, 0) = some (.inr (applyL a0 a1)) := hk
  rw [hk2]
  simp only [g1, cond_true, Option.bind_some]
def impl_apply.b1 (a0 : List Rec) : List Nd × Int → Option (Step (List Nd) (List Nd × Int) (List Nd)) :=
  fun q => match q with
  | (x5_6, x13_8) => bif (decide (x13_8 < (a0.length : Int))) then (bif inR x13_8 a0.length then (bif decide (x5_6.length ≤ 1048576) then (((bif (((decide (((gt a0 x13_8).kind) = 3)) && (!((gt a0 x13_8).opq))) && (decide (0 ≤ (findN x5_6 ((gt a0 x13_8).path))))) then (bif inR (findN x5_6 ((gt a0 x13_8).path)) x5_6.length then (some (decide (((gt x5_6 (findN x5_6 ((gt a0 x13_8).path))).kind) = 3))) else none) else some false)).bind fun z58 => bif z58 then (bif inR (findN x5_6 ((gt a0 x13_8).path)) x5_6.length then (some (.nxt (setI x5_6 (findN x5_6 ((gt a0 x13_8).path)) (⟨(gt x5_6 (findN x5_6 ((gt a0 x13_8).path))).kind, (gt x5_6 (findN x5_6 ((gt a0 x13_8).path))).path, (gt x5_6 (findN x5_6 ((gt a0 x13_8).path))).body, (gt a0 x13_8).mode⟩ : Nd), IntKind.wrap .i64 (x13_8 + 1)))) else none) else (bif decide (x5_6.length ≤ 1048576) then (bif decide (((gt a0 x13_8).path).length ≤ 1048576) then (bif (!decide (((gt a0 x13_8).kind) = 4)) then (bif decide ((without x5_6 ((gt a0 x13_8).path) true).length ≤ 1048575) then (bif decide (riseN (without x5_6 ((gt a0 x13_8).path) true) = true) then (bif decide (∀ x ∈ (without x5_6 ((gt a0 x13_8).path) true), x.path.length ≤ 1048576) then (bif decide ((ndOf (gt a0 x13_8)).path.length ≤ 1048576) then (some (.nxt ((placeL (without x5_6 ((gt a0 x13_8).path) true) (ndOf (gt a0 x13_8))), IntKind.wrap .i64 (x13_8 + 1)))) else none) else none) else none) else none) else (some (.nxt ((without x5_6 ((gt a0 x13_8).path) true), IntKind.wrap .i64 (x13_8 + 1))))) else none) else none)) else none) else none) else (some (.brk x5_6))
def impl_apply.sh (k : Nat) (a0 : List Rec) (a1 : List Nd) : Option (List Nd) :=
  bif decide (a1.length ≤ 1048576) then ((loopF (impl_apply.b1 a0) k (a1, 0)).bind fun z => match z with | .inl t => some t | .inr x5_12 => some x5_12) else none
theorem impl_apply.eq (a0 : List Rec) (a1 : List Nd) (h0 : a0.length ≤ 16) (h1 : a1.length ≤ 1000) (h2 : okT a0 a1 = true) : ∃ k, impl_apply.sh k a0 a1 = some (applyL a0 a1) := by
  obtain ⟨hs, ht⟩ := okT_of h2
  refine ⟨a0.length + 1, ?_⟩
  unfold impl_apply.sh
  have key : ∀ (d i k : Nat), i + d = a0.length → d < k → loopF (impl_apply.b1 a0) k (applyL (a0.take i) a1, (i : Int)) = some (.inr (applyL a0 a1)) := by
    intro d
    induction d with
    | zero =>
      intro i k hi hk
      obtain ⟨k, rfl⟩ : ∃ m, k = m + 1 := ⟨k - 1, by omega⟩
      have d1 : decide ((i : Int) < (a0.length : Int)) = false := decide_eq_false (by omega)
      rw [loopF, List.take_of_length_le (by omega)]
      simp only [impl_apply.b1, d1, cond_false]; rfl
    | succ d ih =>
      intro i k hi hk
      obtain ⟨k, rfl⟩ : ∃ m, k = m + 1 := ⟨k - 1, by omega⟩
      have hlt : i < a0.length := by omega
      obtain ⟨w1, w2, _⟩ := apply_at hs ht (show i ≤ a0.length by omega)
      have hr0 : recFault (gt a0 (i : Int)) = 0 := by rw [getD_gt, getD_el hlt]; exact hs.ok _ (List.getElem_mem hlt)
      have hn := apply_next (t := a1) hlt
      rw [← doI_doS w1 hr0] at hn
      have hI := ih (i + 1) k (by omega) (by omega)
      rw [hn] at hI
      obtain ⟨x, hx⟩ : ∃ x, applyL (a0.take i) a1 = x := ⟨_, rfl⟩
      obtain ⟨r, hr⟩ : ∃ r, gt a0 (i : Int) = r := ⟨_, rfl⟩
      rw [hx] at w1 w2 hI ⊢
      rw [hr] at hr0 hI
      have hp := pathOK_small (recFault_path hr0)
      have d1 : decide ((i : Int) < (a0.length : Int)) = true := decide_eq_true (by omega)
      have d2 : decide (x.length ≤ 1048576) = true := decide_eq_true (by omega)
      have d3 : decide (r.path.length ≤ 1048576) = true := decide_eq_true hp
      have d4 : decide ((without x r.path true).length ≤ 1048575) = true := decide_eq_true (by have := without_len x r.path true; omega)
      have d5 : riseN (without x r.path true) = true := riseN_mk (without_rise w1.rise _ _)
      have d6 : ∀ y ∈ without x r.path true, y.path.length ≤ 1048576 := fun y hy => wood_paths w1 y (List.mem_filter.1 hy).1
      have d7 : decide ((ndOf r).path.length ≤ 1048576) = true := decide_eq_true hp
      have e1 : IntKind.wrap .i64 ((i : Int) + 1) = ((i + 1 : Nat) : Int) := by rw [wrap_small (by omega) (by omega)]; omega
      rw [loopF]
      simp only [impl_apply.b1, d1, d2, inR_nat hlt, cond_true, e1, hr, d3, d4, d5, d7, decide_eq_true d6, decide_true]
      unfold doI at hI
      by_cases c1 : r.kind = 3 ∧ r.opq = false
      · obtain ⟨c3, co⟩ := c1
        by_cases cf : 0 ≤ findN x r.path
        · have hin := findN_inR (t := x) (p := r.path) (by omega)
          by_cases ck : (gt x (findN x r.path)).kind = 3
          · rw [if_pos ⟨⟨c3, co⟩, cf, ck⟩] at hI
            simp only [c3, co, cf, ck, hin, decide_true, Bool.not_false, Bool.and_true, Bool.and_self, cond_true, Option.bind_some]
            rw [ck] at hI
            exact hI
          · rw [if_neg (fun h => ck h.2.2), if_neg (by omega)] at hI
            simp only [c3, co, cf, ck, hin, decide_true, decide_false, Bool.not_false, Bool.and_true, Bool.and_self, cond_true, cond_false, Option.bind_some, show ¬ (3 : Int) = 4 by decide]
            exact hI
        · rw [if_neg (fun h => cf h.2.1), if_neg (by omega)] at hI
          simp only [c3, co, cf, decide_true, decide_false, Bool.not_false, Bool.and_true, Bool.and_false, cond_true, cond_false, Option.bind_some, show ¬ (3 : Int) = 4 by decide]
          exact hI
      · rw [if_neg (fun h => c1 h.1)] at hI
        have c2 : (decide (r.kind = 3) && !r.opq) = false := by
          rcases bool_two r.opq with co | co
          · simp [co]
          · by_cases c3 : r.kind = 3
            · exact absurd ⟨c3, co⟩ c1
            · simp [c3]
        simp only [c2, Bool.false_and, cond_false, Option.bind_some]
        by_cases c4 : r.kind = 4
        · rw [if_pos c4] at hI
          simp only [c4, decide_true, Bool.not_true, cond_false]
          exact hI
        · rw [if_neg c4] at hI
          simp only [c4, decide_false, Bool.not_false, cond_true]
          exact hI
  have g1 : decide (a1.length ≤ 1048576) = true := decide_eq_true (by omega)
  have hk := key a0.length 0 (a0.length + 1) (by omega) (by omega)
  rw [List.take_zero] at hk
  have hk2 : loopF (impl_apply.b1 a0) (a0.length + 1) (a1, 0) = some (.inr (applyL a0 a1)) := hk
  rw [hk2]
  simp only [g1, cond_true, Option.bind_some]
def fitT (t : List Nd) : List Nd × Int := if 24 < t.length then ([], 7) else (t, 0)
theorem n24_dec (n : Nat) : decide ((24 : Int) < (n : Int)) = decide (24 < n) := by rw [decide_eq_decide]; omega
theorem fitT_len (t : List Nd) : (fitT t).1.length ≤ 24 := by
  unfold fitT
  split
  · simp
  · simp only; omega
end Go.UL
