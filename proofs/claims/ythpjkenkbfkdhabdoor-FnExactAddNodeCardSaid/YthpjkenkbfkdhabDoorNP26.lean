/- Plain Lean: what the functions compute. -/
import Derived.Test.YthpjkenkbfkdhabDoorNP25
set_option linter.unusedVariables false
set_option linter.unusedSimpArgs false
namespace Go.UL
open Go.RowKit
/-! ### the walks of applying -/
theorem Sheet.take {l : List Rec} (h : Sheet l) (i : Nat) : Sheet (l.take i) := by
  refine ⟨rise_take (fun r : Rec => r.path) h.rise i, fun r hr => h.ok r (List.mem_of_mem_take hr), fun r hr hp => ?_⟩
  obtain ⟨q, hq, e, hk⟩ := h.par r (List.mem_of_mem_take hr) hp
  obtain ⟨j, hj, rfl⟩ := List.mem_take_iff_getElem.1 hr
  have hjl : j < l.length := by omega
  have hlt : ltP q.path (l.getD j default).path = true := by rw [e, getD_el hjl]; exact ltP_parent hp
  have hq2 := idx_lt (fun r : Rec => r.path) h.rise hjl hq hlt
  refine ⟨q, ?_, e, hk⟩
  have : l.take j = (l.take i).take j := by rw [List.take_take, Nat.min_eq_left (by omega)]
  rw [this] at hq2
  exact List.mem_of_mem_take hq2
/-- A layer and a tree without a bound. -/
def okT (l : List Rec) (t : List Nd) : Bool := decide ((layerFault l).2 = 0) && woodOK t
theorem okT_of {l : List Rec} {t : List Nd} (h : okT l t = true) : Sheet l ∧ Wood t := by
  rw [okT, Bool.and_eq_true, decide_eq_true_eq] at h
  exact ⟨layer_sheet h.1, wood_of h.2⟩
theorem okT_mk {l : List Rec} {t : List Nd} (h : (layerFault l).2 = 0) (k : Wood t) : okT l t = true := by rw [okT, decide_eq_true h, wood_ok k]; rfl
theorem wood_paths {t : List Nd} (h : Wood t) : ∀ x ∈ t, x.path.length ≤ 1048576 := fun x hx => pathOK_small (nodeOK_path (h.ok x hx))
def spec_l04Put.b1 (a0 : List Nd) (a1 : Nd) : Int → Option (Step (List Nd) (Int) (Int)) :=
  fun x5_7 => bif (!(decide (x5_7 < (a0.length : Int))) || (inR x5_7 a0.length)) then (bif (!(decide (x5_7 < (a0.length : Int))) || (decide (((gt a0 x5_7).path).length ≤ 1048576))) then (bif (!(decide (x5_7 < (a0.length : Int))) || (decide (a1.path.length ≤ 1048576))) then (bif ((decide (x5_7 < (a0.length : Int))) && (lessL (cut 47 ((gt a0 x5_7).path)) (cut 47 a1.path))) then (some (.nxt (IntKind.wrap .i64 (x5_7 + 1)))) else (some (.brk x5_7))) else none) else none) else none
def spec_l04Put.sh (k : Nat) (a0 : List Nd) (a1 : Nd) : Option (List Nd) :=
  (loopF (spec_l04Put.b1 a0 a1) k 0).bind fun z => match z with | .inl t => some t | .inr x5_11 => bif inS x5_11 (a0.length : Int) (a0.length : Int) then (bif (!(decide (x5_11 < (a0.length : Int))) || (inR x5_11 a0.length)) then (bif ((decide (x5_11 < (a0.length : Int))) && (decide (((gt a0 x5_11).path) = a1.path))) then (bif inS (IntKind.wrap .i64 (x5_11 + 1)) (a0.length : Int) (a0.length : Int) then (bif inS 0 x5_11 (a0.length : Int) then (bif decide ((([] : List Nd).length + (sub a0 0 x5_11).length) * 48 ≤ 140737488355328) then (bif decide (((([] : List Nd) ++ (sub a0 0 x5_11)).length + ([a1] : List Nd).length) * 48 ≤ 140737488355328) then (bif decide ((((([] : List Nd) ++ (sub a0 0 x5_11)) ++ ([a1] : List Nd)).length + (sub a0 (IntKind.wrap .i64 (x5_11 + 1)) (a0.length : Int)).length) * 48 ≤ 140737488355328) then (some (((([] : List Nd) ++ (sub a0 0 x5_11)) ++ ([a1] : List Nd)) ++ (sub a0 (IntKind.wrap .i64 (x5_11 + 1)) (a0.length : Int)))) else none) else none) else none) else none) else none) else (bif inS 0 x5_11 (a0.length : Int) then (bif decide ((([] : List Nd).length + (sub a0 0 x5_11).length) * 48 ≤ 140737488355328) then (bif decide (((([] : List Nd) ++ (sub a0 0 x5_11)).length + ([a1] : List Nd).length) * 48 ≤ 140737488355328) then (bif decide ((((([] : List Nd) ++ (sub a0 0 x5_11)) ++ ([a1] : List Nd)).length + (sub a0 x5_11 (a0.length : Int)).length) * 48 ≤ 140737488355328) then (some (((([] : List Nd) ++ (sub a0 0 x5_11)) ++ ([a1] : List Nd)) ++ (sub a0 x5_11 (a0.length : Int)))) else none) else none) else none) else none)) else none) else none
theorem while_run {t : List Nd} {n : Nd} (h0 : t.length ≤ 1000000) (h1 : ∀ x ∈ t, x.path.length ≤ 1048576) (h2 : n.path.length ≤ 1048576) :
    loopF (spec_l04Put.b1 t n) (t.length + 1) 0 = some (.inr ((t.takeWhile fun x => ltP x.path n.path).length : Int)) := by
  have key : ∀ (d i k : Nat), i + d = t.length → d < k → loopF (spec_l04Put.b1 t n) k (i : Int) = some (.inr ((i + ((t.drop i).takeWhile fun x => ltP x.path n.path).length : Nat) : Int)) := by
    intro d
    induction d with
    | zero =>
      intro i k hi hk
      obtain ⟨k, rfl⟩ : ∃ m, k = m + 1 := ⟨k - 1, by omega⟩
      have d1 : decide ((i : Int) < (t.length : Int)) = false := decide_eq_false (by omega)
      have hd : t.drop i = [] := List.drop_eq_nil_of_le (by omega)
      rw [loopF, hd]
      simp only [spec_l04Put.b1, d1, Bool.not_false, Bool.true_or, Bool.false_and, cond_true, cond_false, List.takeWhile_nil, List.length_nil, Nat.add_zero]; rfl
    | succ d ih =>
      intro i k hi hk
      obtain ⟨k, rfl⟩ : ∃ m, k = m + 1 := ⟨k - 1, by omega⟩
      have hlt : i < t.length := by omega
      have d1 : decide ((i : Int) < (t.length : Int)) = true := decide_eq_true (by omega)
      have p1 : decide ((gt t (i : Int)).path.length ≤ 1048576) = true := decide_eq_true (by rw [getD_gt, getD_el hlt]; exact h1 _ (List.getElem_mem hlt))
      have w1 : IntKind.wrap .i64 ((i : Int) + 1) = ((i + 1 : Nat) : Int) := by rw [wrap_small (by omega) (by omega)]; omega
      rw [loopF, drop_gt hlt]
      simp only [spec_l04Put.b1, d1, inR_nat hlt, p1, decide_eq_true h2, Bool.not_true, Bool.false_or, Bool.true_and, cond_true, w1]
      rcases bool_two (lessL (cut 47 (gt t (i : Int)).path) (cut 47 n.path)) with hl | hl
      · have hl' : ltP (gt t (i : Int)).path n.path = true := hl
        rw [hl]
        simp only [cond_true, List.takeWhile_cons, hl', if_true, List.length_cons]
        refine (ih (i + 1) k (by omega) (by omega)).trans ?_
        congr 2; omega
      · have hl' : ltP (gt t (i : Int)).path n.path = false := hl
        rw [hl]
        simp only [cond_false, List.takeWhile_cons, hl', Bool.false_eq_true, if_false, List.length_nil, Nat.add_zero]; rfl
  have := key t.length 0 (t.length + 1) (by omega) (by omega)
  rw [List.drop_zero, Nat.zero_add] at this
  exact this
theorem take_while_len {α : Type} (q : α → Bool) (t : List α) : t.take (t.takeWhile q).length = t.takeWhile q ∧ t.drop (t.takeWhile q).length = t.dropWhile q := by
  have h : t = t.takeWhile q ++ t.dropWhile q := List.takeWhile_append_dropWhile.symm
  constructor
  · conv => lhs; rw [h]
    rw [List.take_append_of_le_length (by simp)]; simp
  · conv => lhs; rw [h]
    have : (t.takeWhile q ++ t.dropWhile q).takeWhile q = t.takeWhile q := by rw [← h]
    rw [this, List.drop_left]
theorem spec_l04Put.eq (a0 : List Nd) (a1 : Nd) (h0 : a0.length ≤ 1000000) (h1 : ∀ x ∈ a0, x.path.length ≤ 1048576) (h2 : a1.path.length ≤ 1048576) : ∃ k, spec_l04Put.sh k a0 a1 = some (putN a0 a1) := by
  refine ⟨a0.length + 1, ?_⟩
  unfold spec_l04Put.sh
  rw [while_run h0 h1 h2]
  obtain ⟨c, hc⟩ : ∃ c, c = (a0.takeWhile fun x => ltP x.path a1.path).length := ⟨_, rfl⟩
  obtain ⟨t1, t2⟩ := take_while_len (fun x : Nd => ltP x.path a1.path) a0
  rw [← hc] at t1 t2 ⊢
  have hle : c ≤ a0.length := by rw [hc]; exact (List.takeWhile_prefix _).length_le
  have s1 : inS (c : Int) (a0.length : Int) (a0.length : Int) = true := inS_mk (by omega) (by omega) (by omega)
  have s2 : inS 0 (c : Int) (a0.length : Int) = true := inS_mk (by omega) (by omega) (by omega)
  have e1 : sub a0 0 (c : Int) = a0.take c := by show sub a0 ((0 : Nat) : Int) (c : Int) = _; rw [sub_nat]; rfl
  have e2 : sub a0 (c : Int) (a0.length : Int) = a0.drop c := by rw [sub_nat, List.take_length]
  have l1 : (a0.take c).length ≤ 1000000 := by simp; omega
  have l2 : (a0.drop c).length ≤ 1000000 := by simp; omega
  have g1 : decide ((([] : List Nd).length + (a0.take c).length) * 48 ≤ 140737488355328) = true := decide_eq_true (by simp only [List.length_nil]; omega)
  have g2 : decide (((([] : List Nd) ++ a0.take c).length + ([a1] : List Nd).length) * 48 ≤ 140737488355328) = true := decide_eq_true (by simp only [List.nil_append, List.length_cons, List.length_nil]; omega)
  have g3 : decide ((((([] : List Nd) ++ a0.take c) ++ ([a1] : List Nd)).length + (a0.drop c).length) * 48 ≤ 140737488355328) = true := decide_eq_true (by simp only [List.nil_append, List.length_append, List.length_cons, List.length_nil]; omega)
  simp only [Option.bind_some, s1, s2, e1, e2, g1, g2, g3, cond_true]
  by_cases hlt : c < a0.length
  · have d1 : decide ((c : Int) < (a0.length : Int)) = true := decide_eq_true (by omega)
    have w1 : IntKind.wrap .i64 ((c : Int) + 1) = ((c + 1 : Nat) : Int) := by rw [wrap_small (by omega) (by omega)]; omega
    have s3 : inS ((c + 1 : Nat) : Int) (a0.length : Int) (a0.length : Int) = true := inS_mk (by omega) (by omega) (by omega)
    have e3 : sub a0 ((c + 1 : Nat) : Int) (a0.length : Int) = a0.drop (c + 1) := by rw [sub_nat, List.take_length]
    have l3 : (a0.drop (c + 1)).length ≤ 1000000 := by simp; omega
    have g4 : decide ((((([] : List Nd) ++ a0.take c) ++ ([a1] : List Nd)).length + (a0.drop (c + 1)).length) * 48 ≤ 140737488355328) = true := decide_eq_true (by simp only [List.nil_append, List.length_append, List.length_cons, List.length_nil]; omega)
    rw [drop_gt hlt] at t2
    simp only [d1, inR_nat hlt, w1, s3, e3, g4, Bool.not_true, Bool.false_or, Bool.true_and, cond_true]
    unfold putN
    rw [← t1, ← t2]
    by_cases he : (gt a0 (c : Int)).path = a1.path
    · simp [he]
    · simp [he, drop_gt hlt]
  · have d1 : decide ((c : Int) < (a0.length : Int)) = false := decide_eq_false (by omega)
    have hn : a0.drop c = [] := List.drop_eq_nil_of_le (by omega)
    simp only [d1, Bool.not_false, Bool.true_or, Bool.false_and, cond_true, cond_false]
    unfold putN
    rw [← t1, ← t2, hn]; simp
theorem apply_at {l : List Rec} {t : List Nd} (hs : Sheet l) (ht : Wood t) {i : Nat} (hi : i ≤ l.length) : Wood (applyL (l.take i) t) ∧ (applyL (l.take i) t).length ≤ t.length + i ∧ (l.take i).foldl doI t = applyL (l.take i) t := by
  obtain ⟨h1, _, h3, h4⟩ := applyL_spec t ht i (l.take i) (by simp; omega) (hs.take i)
  exact ⟨h1, h3, h4⟩
theorem apply_next {l : List Rec} {t : List Nd} {i : Nat} (hi : i < l.length) : applyL (l.take (i + 1)) t = doS (applyL (l.take i) t) (gt l (i : Int)) := by
  rw [List.take_succ_eq_append_getElem hi, applyL_snoc, getD_gt, getD_el hi]
def rtCode (l : List Rec) (t : List Nd) : Int := if decide (4096 < l.length) || decide (4096 < t.length) then 2 else if !decide ((layerFault l).2 = 0) || !treeOK t then 1 else 0
def fitT (t : List Nd) : List Nd × Int := if 24 < t.length then ([], 7) else (t, 0)
def applyOf (l : List Rec) (t : List Nd) : List Nd × Int := if rtCode l t = 0 then fitT (applyL l t) else ([], rtCode l t)
def changesOf (l : List Rec) (t : List Nd) : Bool × Int := if rtCode l t = 0 then (!decide (applyL l t = t), 0) else (false, rtCode l t)
theorem rtCode_zero {l : List Rec} {t : List Nd} (h : rtCode l t = 0) : (layerFault l).2 = 0 ∧ treeOK t = true := by
  unfold rtCode at h
  split at h
  · omega
  · split at h
    · omega
    · rename_i h2
      simp only [Bool.or_eq_true, Bool.not_eq_true', decide_eq_false_iff_not, not_or, Decidable.not_not, Bool.not_eq_false] at h2
      exact h2
theorem rt_dec (a : List Rec) (b : List Nd) : (decide ((4096 : Int) < (a.length : Int)) || decide ((4096 : Int) < (b.length : Int))) = (decide (4096 < a.length) || decide (4096 < b.length)) := by
  have h : ∀ n : Nat, decide ((4096 : Int) < (n : Int)) = decide (4096 < n) := fun n => by rw [decide_eq_decide]; omega
  rw [h, h]
theorem n24_dec (n : Nat) : decide ((24 : Int) < (n : Int)) = decide (24 < n) := by rw [decide_eq_decide]; omega
theorem fitT_len (t : List Nd) : (fitT t).1.length ≤ 24 := by
  unfold fitT
  split
  · simp
  · simp only; omega
theorem applyOf_len (l : List Rec) (t : List Nd) : (applyOf l t).1.length ≤ 24 := by
  unfold applyOf
  split
  · exact fitT_len _
  · simp

end Go.UL
