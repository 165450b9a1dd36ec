/- Plain Lean: what the functions compute. -/
import Derived.Test.YthpjkenkbfkdhaaGreatDoorQP21
set_option linter.unusedVariables false
set_option linter.unusedSimpArgs false
namespace Go.UL
open Go.RowKit
/-! ### two layers as one: the program's way and the reference's -/
/-- Right paths, strictly rising. -/
def sheetB (l : List Rec) : Bool := l.all (fun r => pathOK r.path) && decide (l.Pairwise fun a b => ltP a.path b.path = true)
theorem sheetB_path {l : List Rec} (h : sheetB l = true) : ∀ x ∈ l, pathOK x.path = true := by
  simp only [sheetB, Bool.and_eq_true] at h
  exact fun x hx => List.all_eq_true.1 h.1 x hx
theorem sheetB_rise {l : List Rec} (h : sheetB l = true) : Rise (l.map (·.path)) := by
  simp only [sheetB, Bool.and_eq_true] at h
  exact List.pairwise_map.2 (of_decide_eq_true h.2)
theorem sheetB_mk {l : List Rec} (h1 : ∀ x ∈ l, pathOK x.path = true) (h2 : Rise (l.map (·.path))) : sheetB l = true := by
  simp only [sheetB, Bool.and_eq_true]
  exact ⟨List.all_eq_true.2 h1, decide_eq_true (List.pairwise_map.1 h2)⟩
theorem codeAt_less {l : List Rec} {i : Nat} (h : codeAt l i = 0) (h0 : 0 < i) : ltP (l.getD (i - 1) default).path (l.getD i default).path = true := by
  unfold codeAt at h
  split at h
  · omega
  · split at h
    · exact absurd h ‹_›
    · split at h
      · omega
      · split at h
        · omega
        · rename_i h3
          rcases bool_two (lessL (cut 47 (l.getD (i - 1) default).path) (cut 47 (l.getD i default).path)) with h4 | h4
          · exact h4
          · exact absurd ⟨h0, h4⟩ h3
theorem layerOK_rise {l : List Rec} (h : (layerFault l).2 = 0) : Rise (l.map (·.path)) :=
  rise_of_near _ fun i h0 hi => codeAt_less (layerFault_zero h i hi) h0
theorem layerOK_sheet {l : List Rec} (h : (layerFault l).2 = 0) : sheetB l = true := sheetB_mk (layerOK_path h) (layerOK_rise h)
theorem mrgF_nil {α : Type} (f : α → List UInt8) (hl hu : α → Option α) (hb : α → α → Option α) (a : List α) : mrgF f hl hu hb a [] = a.filterMap hl := by
  cases a with
  | nil => rw [mrgF]; rfl
  | cons x a => rw [mrgF]
theorem mrgF_len {α : Type} (f : α → List UInt8) (hl hu : α → Option α) (hb : α → α → Option α) : ∀ (n : Nat) (a b : List α), a.length + b.length ≤ n → (mrgF f hl hu hb a b).length ≤ a.length + b.length := by
  intro n
  induction n with
  | zero =>
    intro a b hn
    have e1 : a = [] := List.eq_nil_of_length_eq_zero (by omega)
    have e2 : b = [] := List.eq_nil_of_length_eq_zero (by omega)
    subst e1; subst e2; rw [mrgF]; simp
  | succ n ih =>
    intro a b hn
    cases a with
    | nil => rw [mrgF]; simpa using List.length_filterMap_le _ _
    | cons x a =>
      cases b with
      | nil => rw [mrgF]; simpa using List.length_filterMap_le hl (x :: a)
      | cons y b =>
        have ho : ∀ z : Option α, z.toList.length ≤ 1 := fun z => by cases z <;> simp
        simp only [List.length_cons] at hn
        rw [mrgF]
        split
        · have := ih a (y :: b) (by simp only [List.length_cons]; omega)
          have h1 := ho (hl x)
          simp only [List.length_append, List.length_cons] at this ⊢; omega
        · split
          · have := ih (x :: a) b (by simp only [List.length_cons]; omega)
            have h1 := ho (hu y)
            simp only [List.length_append, List.length_cons] at this ⊢; omega
          · have := ih a b (by omega)
            have h1 := ho (hb x y)
            simp only [List.length_append, List.length_cons] at this ⊢; omega
theorem twoR_len (a b : List Rec) : (twoR a b).length ≤ a.length + b.length := mrgF_len _ _ _ _ _ a b (Nat.le_refl _)
theorem twoR_spec {a b : List Rec} (ha : Rise (a.map (·.path))) (hb : Rise (b.map (·.path))) :
    Rise ((twoR a b).map (·.path)) ∧ ∀ p, lookF (·.path) (twoR a b) p = mrgO (fun r : Rec => if cutsR b r.path then none else some r) some (fun x y => some (overR x y)) (lookF (·.path) a p) (lookF (·.path) b p) :=
  mrgF_spec (·.path) (fun r => if cutsR b r.path then none else some r) some (fun x y => some (overR x y))
    (fun x z h => by
      by_cases hc : cutsR b x.path = true
      · simp [hc] at h
      · simp [hc] at h; rw [h]) (fun y z h => by rw [Option.some.inj h]) (fun x y z he h => by
      have : overR x y = z := Option.some.inj h
      rw [← this, overR_path]; exact he.symm) _ a b (Nat.le_refl _) ha hb
theorem twoR_sheet {a b : List Rec} (ha : sheetB a = true) (hb : sheetB b = true) : sheetB (twoR a b) = true := by
  obtain ⟨h1, h2⟩ := twoR_spec (sheetB_rise ha) (sheetB_rise hb)
  refine sheetB_mk (fun x hx => ?_) h1
  have hx2 : lookF (fun r : Rec => r.path) (twoR a b) x.path ≠ none := (mem_look _).1 (List.mem_map_of_mem hx)
  have hx3 := h2 x.path
  rw [hx3] at hx2
  cases hla : lookF (fun r : Rec => r.path) a x.path with
  | some y => obtain ⟨m, e⟩ := lookF_some _ hla; rw [← e]; exact sheetB_path ha y m
  | none =>
    cases hlb : lookF (fun r : Rec => r.path) b x.path with
    | some y => obtain ⟨m, e⟩ := lookF_some _ hlb; rw [← e]; exact sheetB_path hb y m
    | none => rw [hla, hlb] at hx2; exact absurd rfl hx2
def squashL (a b : List Rec) : List Rec := canonL (twoR a b)
theorem squashL_len (a b : List Rec) : (squashL a b).length ≤ a.length + b.length := Nat.le_trans (canonL_len _) (twoR_len a b)
def fitL (l : List Rec) : List Rec := if 16 < l.length then [] else l
def fitC (l : List Rec) : Int := if 16 < l.length then 7 else 0
def spec_l06Over.sh (a0 : Rec) (a1 : Rec) : Option (Rec) :=
  bif ((decide (a1.kind = 3)) && (stopsR a0)) then (some (⟨a1.kind, a1.path, a1.body, a1.mode, true⟩ : Rec)) else (some a1)
theorem spec_l06Over.eq (a0 a1 : Rec) : spec_l06Over.sh a0 a1 = some (overR a0 a1) := by
  unfold spec_l06Over.sh overR
  by_cases h1 : a1.kind = 3 <;> cases h2 : stopsR a0 <;> simp [h1, h2]
def spec_l06Two.b1 (a0 : List Rec) (a1 : List Rec) : List Rec × Int × Int → Option (Step (List Rec) (List Rec × Int × Int) (List Rec)) :=
  fun q => match q with
  | (x5_7, x6_9, x7_10) => bif ((decide (x6_9 < (a0.length : Int))) || (decide (x7_10 < (a1.length : Int)))) then (bif (!((!(decide (x7_10 = (a1.length : Int)))) && (decide (x6_9 < (a0.length : Int)))) || (inR x6_9 a0.length)) then (bif (!((!(decide (x7_10 = (a1.length : Int)))) && (decide (x6_9 < (a0.length : Int)))) || (inR x7_10 a1.length)) then (bif (!((!(decide (x7_10 = (a1.length : Int)))) && (decide (x6_9 < (a0.length : Int)))) || (decide (((gt a0 x6_9).path).length ≤ 1048576))) then (bif (!((!(decide (x7_10 = (a1.length : Int)))) && (decide (x6_9 < (a0.length : Int)))) || (decide (((gt a1 x7_10).path).length ≤ 1048576))) then (bif ((decide (x7_10 = (a1.length : Int))) || ((decide (x6_9 < (a0.length : Int))) && (lessL (cut 47 ((gt a0 x6_9).path)) (cut 47 ((gt a1 x7_10).path))))) then (bif inR x6_9 a0.length then (bif decide (a1.length ≤ 1048576) then (bif decide (((gt a0 x6_9).path).length ≤ 1048576) then (bif (!(cutsR a1 ((gt a0 x6_9).path))) then (bif inR x6_9 a0.length then (bif decide ((x5_7.length + ([gt a0 x6_9] : List Rec).length) * 56 ≤ 140737488355328) then (some (.nxt (x5_7 ++ ([gt a0 x6_9] : List Rec), IntKind.wrap .i64 (x6_9 + 1), x7_10))) else none) else none) else (some (.nxt (x5_7, IntKind.wrap .i64 (x6_9 + 1), x7_10)))) else none) else none) else none) else (bif (!(!(decide (x6_9 = (a0.length : Int)))) || (inR x7_10 a1.length)) then (bif (!(!(decide (x6_9 = (a0.length : Int)))) || (inR x6_9 a0.length)) then (bif (!(!(decide (x6_9 = (a0.length : Int)))) || (decide (((gt a1 x7_10).path).length ≤ 1048576))) then (bif (!(!(decide (x6_9 = (a0.length : Int)))) || (decide (((gt a0 x6_9).path).length ≤ 1048576))) then (bif ((decide (x6_9 = (a0.length : Int))) || (lessL (cut 47 ((gt a1 x7_10).path)) (cut 47 ((gt a0 x6_9).path)))) then (bif inR x7_10 a1.length then (bif decide ((x5_7.length + ([gt a1 x7_10] : List Rec).length) * 56 ≤ 140737488355328) then (some (.nxt (x5_7 ++ ([gt a1 x7_10] : List Rec), x6_9, IntKind.wrap .i64 (x7_10 + 1)))) else none) else none) else (bif inR x6_9 a0.length then (bif inR x7_10 a1.length then (bif decide ((x5_7.length + ([(overR (gt a0 x6_9) (gt a1 x7_10))] : List Rec).length) * 56 ≤ 140737488355328) then (some (.nxt (x5_7 ++ ([(overR (gt a0 x6_9) (gt a1 x7_10))] : List Rec), IntKind.wrap .i64 (x6_9 + 1), IntKind.wrap .i64 (x7_10 + 1)))) else none) else none) else none)) else none) else none) else none) else none)) else none) else none) else none) else none) else (some (.brk x5_7))
def spec_l06Two.sh (k : Nat) (a0 : List Rec) (a1 : List Rec) : Option (List Rec) :=
  (loopF (spec_l06Two.b1 a0 a1) k (([] : List Rec), 0, 0)).bind fun z => match z with | .inl t => some t | .inr x5_14 => bif decide (x5_14.length ≤ 1048576) then (bif decide (∀ x ∈ x5_14, pathOK x.path = true) then (some (canonL x5_14)) else none) else none
theorem spec_l06Two.eq (a0 a1 : List Rec) (h0 : a0.length ≤ 500000) (h1 : a1.length ≤ 500000) (h2 : sheetB a0 = true) (h3 : sheetB a1 = true) : ∃ k, spec_l06Two.sh k a0 a1 = some (squashL a0 a1) := by
  refine ⟨a0.length + a1.length + 1, ?_⟩
  unfold spec_l06Two.sh squashL
  have hp0 := fun x hx => pathOK_small (sheetB_path h2 x hx)
  have hp1 := fun x hx => pathOK_small (sheetB_path h3 x hx)
  obtain ⟨M, hM⟩ : ∃ M, M = mrgF (fun r : Rec => r.path) (fun r => if cutsR a1 r.path then none else some r) some (fun a b => some (overR a b)) := ⟨_, rfl⟩
  have key : ∀ (n : Nat) (i k K : Nat) (out : List Rec), (a0.length - i) + (a1.length - k) = n → n < K → i ≤ a0.length → k ≤ a1.length → out.length ≤ i + k → loopF (spec_l06Two.b1 a0 a1) K (out, (i : Int), (k : Int)) = some (.inr (out ++ M (a0.drop i) (a1.drop k))) := by
    intro n
    induction n using Nat.strongRecOn with
    | _ n ih =>
      intro i k K out hn hK hi hk ho
      obtain ⟨K, rfl⟩ : ∃ j, K = j + 1 := ⟨K - 1, by omega⟩
      have e1 : ∀ z : Rec, decide ((out.length + ([z] : List Rec).length) * 56 ≤ 140737488355328) = true := fun z => decide_eq_true (by simp; omega)
      have b1 : decide (a1.length ≤ 1048576) = true := decide_eq_true (by omega)
      rw [loopF]
      by_cases hia : i < a0.length
      · have d1 : decide ((i : Int) < (a0.length : Int)) = true := decide_eq_true (by omega)
        have d4 : decide ((i : Int) = (a0.length : Int)) = false := decide_eq_false (by omega)
        have i1 := inR_nat hia
        have p1 : decide ((gt a0 (i : Int)).path.length ≤ 1048576) = true := decide_eq_true (by rw [getD_gt, getD_el hia]; exact hp0 _ (List.getElem_mem hia))
        have w1 : IntKind.wrap .i64 ((i : Int) + 1) = ((i + 1 : Nat) : Int) := by rw [wrap_succ hia (by omega)]; omega
        by_cases hkb : k < a1.length
        · have d2 : decide ((k : Int) < (a1.length : Int)) = true := decide_eq_true (by omega)
          have d3 : decide ((k : Int) = (a1.length : Int)) = false := decide_eq_false (by omega)
          have i2 := inR_nat hkb
          have p2 : decide ((gt a1 (k : Int)).path.length ≤ 1048576) = true := decide_eq_true (by rw [getD_gt, getD_el hkb]; exact hp1 _ (List.getElem_mem hkb))
          have w2 : IntKind.wrap .i64 ((k : Int) + 1) = ((k + 1 : Nat) : Int) := by rw [wrap_succ hkb (by omega)]; omega
          simp only [spec_l06Two.b1, d1, d2, d3, d4, i1, i2, p1, p2, w1, w2, e1, b1, Bool.not_true, Bool.not_false, Bool.true_and, Bool.and_true, Bool.or_true, Bool.true_or, Bool.false_or, cond_true, Bool.or_false]
          rw [drop_gt hia, drop_gt hkb, hM, mrgF, ← hM]
          rcases bool_two (lessL (cut 47 (gt a0 (i : Int)).path) (cut 47 (gt a1 (k : Int)).path)) with hl | hl
          · have hl' : ltP (gt a0 (i : Int)).path (gt a1 (k : Int)).path = true := hl
            rw [if_pos hl', ← drop_gt hkb]
            simp only [hl, cond_true]
            rcases bool_two (cutsR a1 (gt a0 (i : Int)).path) with hc | hc
            · have hI := ih ((a0.length - (i + 1)) + (a1.length - k)) (by omega) (i + 1) k K out rfl (by omega) (by omega) hk (by omega)
              simp only [hc, Bool.not_true, cond_false, if_true, Option.toList_none, List.nil_append]
              exact hI
            · have hI := ih ((a0.length - (i + 1)) + (a1.length - k)) (by omega) (i + 1) k K (out ++ [gt a0 (i : Int)]) rfl (by omega) (by omega) hk (by simp; omega)
              simp only [hc, Bool.not_false, cond_true, Bool.false_eq_true, if_false, Option.toList_some]
              refine hI.trans ?_
              simp
          · have hl' : ¬ ltP (gt a0 (i : Int)).path (gt a1 (k : Int)).path = true := by show ¬ lessL _ _ = true; rw [hl]; simp
            rw [if_neg hl']
            simp only [hl, cond_false]
            rcases bool_two (lessL (cut 47 (gt a1 (k : Int)).path) (cut 47 (gt a0 (i : Int)).path)) with hr | hr
            · have hr' : ltP (gt a1 (k : Int)).path (gt a0 (i : Int)).path = true := hr
              have hI := ih ((a0.length - i) + (a1.length - (k + 1))) (by omega) i (k + 1) K (out ++ [gt a1 (k : Int)]) rfl (by omega) hi (by omega) (by simp; omega)
              rw [if_pos hr', ← drop_gt hia]
              simp only [hr, cond_true]
              refine hI.trans ?_
              simp
            · have hr' : ¬ ltP (gt a1 (k : Int)).path (gt a0 (i : Int)).path = true := by show ¬ lessL _ _ = true; rw [hr]; simp
              rw [if_neg hr']
              simp only [hr, cond_false]
              have hI := ih ((a0.length - (i + 1)) + (a1.length - (k + 1))) (by omega) (i + 1) (k + 1) K (out ++ [overR (gt a0 (i : Int)) (gt a1 (k : Int))]) rfl (by omega) (by omega) (by omega) (by simp; omega)
              refine hI.trans ?_
              simp
        · have hke : k = a1.length := by omega
          have d2 : decide ((k : Int) < (a1.length : Int)) = false := decide_eq_false (by omega)
          have d3 : decide ((k : Int) = (a1.length : Int)) = true := decide_eq_true (by omega)
          have hd : a1.drop k = [] := List.drop_eq_nil_of_le (by omega)
          simp only [spec_l06Two.b1, d1, d2, d3, d4, i1, p1, w1, e1, b1, Bool.not_true, Bool.not_false, Bool.true_and, Bool.false_and, Bool.and_true, Bool.or_true, Bool.true_or, Bool.false_or, cond_true, Bool.or_false]
          rcases bool_two (cutsR a1 (gt a0 (i : Int)).path) with hc | hc
          · have hI := ih ((a0.length - (i + 1)) + (a1.length - k)) (by omega) (i + 1) k K out rfl (by omega) (by omega) hk (by omega)
            simp only [hc, Bool.not_true, cond_false]
            refine hI.trans ?_
            rw [hd, hM, mrgF_nil, mrgF_nil, drop_gt hia]
            simp [hc]
          · have hI := ih ((a0.length - (i + 1)) + (a1.length - k)) (by omega) (i + 1) k K (out ++ [gt a0 (i : Int)]) rfl (by omega) (by omega) hk (by simp; omega)
            simp only [hc, Bool.not_false, cond_true]
            refine hI.trans ?_
            rw [hd, hM, mrgF_nil, mrgF_nil, drop_gt hia]
            simp [hc]
      · have hie : i = a0.length := by omega
        have d1 : decide ((i : Int) < (a0.length : Int)) = false := decide_eq_false (by omega)
        have d4 : decide ((i : Int) = (a0.length : Int)) = true := decide_eq_true (by omega)
        have hd0 : a0.drop i = [] := List.drop_eq_nil_of_le (by omega)
        by_cases hkb : k < a1.length
        · have d2 : decide ((k : Int) < (a1.length : Int)) = true := decide_eq_true (by omega)
          have d3 : decide ((k : Int) = (a1.length : Int)) = false := decide_eq_false (by omega)
          have i2 := inR_nat hkb
          have w2 : IntKind.wrap .i64 ((k : Int) + 1) = ((k + 1 : Nat) : Int) := by rw [wrap_succ hkb (by omega)]; omega
          have hI := ih ((a0.length - i) + (a1.length - (k + 1))) (by omega) i (k + 1) K (out ++ [gt a1 (k : Int)]) rfl (by omega) hi (by omega) (by simp; omega)
          simp only [spec_l06Two.b1, d1, d2, d3, d4, i2, w2, e1, b1, Bool.not_true, Bool.not_false, Bool.true_and, Bool.false_and, Bool.and_false, Bool.and_true, Bool.or_true, Bool.true_or, Bool.false_or, cond_true, cond_false, Bool.or_false]
          refine hI.trans ?_
          rw [hd0, hM, mrgF, mrgF, drop_gt hkb]
          simp
        · have d2 : decide ((k : Int) < (a1.length : Int)) = false := decide_eq_false (by omega)
          have hd1 : a1.drop k = [] := List.drop_eq_nil_of_le (by omega)
          simp only [spec_l06Two.b1, d1, d2, Bool.or_false, cond_false]
          rw [hd0, hd1, hM, mrgF]
          simp
  have hk := key (a0.length + a1.length) 0 0 (a0.length + a1.length + 1) [] (by simp) (by omega) (by omega) (by omega) (by simp)
  have hk2 : loopF (spec_l06Two.b1 a0 a1) (a0.length + a1.length + 1) ([], 0, 0) = some (.inr (twoR a0 a1)) := by
    refine hk.trans ?_
    rw [List.drop_zero, List.drop_zero, List.nil_append, hM]; rfl
  have hl := twoR_len a0 a1
  have b2 : (twoR a0 a1).length ≤ 1048576 := by omega
  rw [hk2]
  simp only [Option.bind_some, decide_eq_true b2, decide_eq_true (sheetB_path (twoR_sheet h2 h3)), cond_true]
theorem fit_dec (n : Nat) : decide ((16 : Int) < (n : Int)) = decide (16 < n) := by rw [decide_eq_decide]; omega
def impl_squash.b1 (a0 : List Rec) (a1 : List Rec) : List Rec × Int → Option (Step (List Rec) (List Rec × Int) (List Rec)) :=
  fun q => match q with
  | (x5_20, x17_22) => bif (decide (x17_22 < ((pathsL ([a0, a1] : List (List Rec))).length : Int))) then (bif inR x17_22 (pathsL ([a0, a1] : List (List Rec))).length then (bif decide (a0.length ≤ 1048576) then (bif decide (a1.length ≤ 1048576) then (bif (decide (0 ≤ (findR a1 (gt (pathsL ([a0, a1] : List (List Rec))) x17_22)))) then (bif inR (findR a1 (gt (pathsL ([a0, a1] : List (List Rec))) x17_22)) a1.length then (((bif ((decide (0 ≤ (findR a0 (gt (pathsL ([a0, a1] : List (List Rec))) x17_22)))) && (decide (((gt a1 (findR a1 (gt (pathsL ([a0, a1] : List (List Rec))) x17_22))).kind) = 3))) then (bif inR (findR a0 (gt (pathsL ([a0, a1] : List (List Rec))) x17_22)) a0.length then (some (stopsR (gt a0 (findR a0 (gt (pathsL ([a0, a1] : List (List Rec))) x17_22))))) else none) else some false)).bind fun z73 => bif z73 then (bif decide ((x5_20.length + ([(⟨(gt a1 (findR a1 (gt (pathsL ([a0, a1] : List (List Rec))) x17_22))).kind, (gt a1 (findR a1 (gt (pathsL ([a0, a1] : List (List Rec))) x17_22))).path, (gt a1 (findR a1 (gt (pathsL ([a0, a1] : List (List Rec))) x17_22))).body, (gt a1 (findR a1 (gt (pathsL ([a0, a1] : List (List Rec))) x17_22))).mode, true⟩ : Rec)] : List Rec).length) * 56 ≤ 140737488355328) then (some (.nxt (x5_20 ++ ([(⟨(gt a1 (findR a1 (gt (pathsL ([a0, a1] : List (List Rec))) x17_22))).kind, (gt a1 (findR a1 (gt (pathsL ([a0, a1] : List (List Rec))) x17_22))).path, (gt a1 (findR a1 (gt (pathsL ([a0, a1] : List (List Rec))) x17_22))).body, (gt a1 (findR a1 (gt (pathsL ([a0, a1] : List (List Rec))) x17_22))).mode, true⟩ : Rec)] : List Rec), IntKind.wrap .i64 (x17_22 + 1)))) else none) else (bif decide ((x5_20.length + ([(gt a1 (findR a1 (gt (pathsL ([a0, a1] : List (List Rec))) x17_22)))] : List Rec).length) * 56 ≤ 140737488355328) then (some (.nxt (x5_20 ++ ([(gt a1 (findR a1 (gt (pathsL ([a0, a1] : List (List Rec))) x17_22)))] : List Rec), IntKind.wrap .i64 (x17_22 + 1)))) else none)) else none) else (bif decide (a1.length ≤ 1048576) then (bif decide ((gt (pathsL ([a0, a1] : List (List Rec))) x17_22).length ≤ 1048576) then (bif (!(cutsR a1 (gt (pathsL ([a0, a1] : List (List Rec))) x17_22))) then (bif inR (findR a0 (gt (pathsL ([a0, a1] : List (List Rec))) x17_22)) a0.length then (bif decide ((x5_20.length + ([gt a0 (findR a0 (gt (pathsL ([a0, a1] : List (List Rec))) x17_22))] : List Rec).length) * 56 ≤ 140737488355328) then (some (.nxt (x5_20 ++ ([gt a0 (findR a0 (gt (pathsL ([a0, a1] : List (List Rec))) x17_22))] : List Rec), IntKind.wrap .i64 (x17_22 + 1)))) else none) else none) else (some (.nxt (x5_20, IntKind.wrap .i64 (x17_22 + 1))))) else none) else none)) else none) else none) else none) else (some (.brk x5_20))
def impl_squash.sh (k : Nat) (a0 : List Rec) (a1 : List Rec) : Option (List Rec) :=
  bif decide (([a0, a1] : List (List Rec)).length ≤ 5) then (bif decide (∀ l ∈ ([a0, a1] : List (List Rec)), l.length ≤ 1048576) then (bif decide (∀ l ∈ ([a0, a1] : List (List Rec)), ∀ x ∈ l, x.path.length ≤ 1048576) then ((loopF (impl_squash.b1 a0 a1) k (([] : List Rec), 0)).bind fun z => match z with | .inl t => some t | .inr x5_26 => bif decide (x5_26.length ≤ 1048576) then (bif decide (∀ x ∈ x5_26, pathOK x.path = true) then (some (canonL x5_26)) else none) else none) else none) else none) else none
theorem impl_squash.eq (a0 a1 : List Rec) (h0 : a0.length ≤ 500000) (h1 : a1.length ≤ 500000) (h2 : sheetB a0 = true) (h3 : sheetB a1 = true) : ∃ k, impl_squash.sh k a0 a1 = some (squashL a0 a1) := by
  refine ⟨(pathsL [a0, a1]).length + 1, ?_⟩
  unfold impl_squash.sh squashL
  have hp0 := fun x hx => pathOK_small (sheetB_path h2 x hx)
  have hp1 := fun x hx => pathOK_small (sheetB_path h3 x hx)
  have g1 : ([a0, a1] : List (List Rec)).length ≤ 5 := by simp
  have g2 : ∀ l ∈ ([a0, a1] : List (List Rec)), l.length ≤ 1048576 := by
    intro l hl
    simp only [List.mem_cons, List.not_mem_nil, or_false] at hl
    rcases hl with rfl | rfl <;> omega
  have g3 : ∀ l ∈ ([a0, a1] : List (List Rec)), ∀ x ∈ l, x.path.length ≤ 1048576 := by
    intro l hl
    simp only [List.mem_cons, List.not_mem_nil, or_false] at hl
    rcases hl with rfl | rfl
    · exact hp0
    · exact hp1
  have hpl : (pathsL [a0, a1]).length ≤ 1000000 := by
    refine Nat.le_trans (riseOf_len _) ?_
    simp; omega
  have hmem : ∀ p ∈ pathsL [a0, a1], p.length ≤ 1048576 ∧ (p ∈ a0.map (·.path) ∨ p ∈ a1.map (·.path)) := by
    intro p hp
    rw [pathsL, riseOf_mem] at hp
    simp only [List.flatten_cons, List.flatten_nil, List.append_nil, List.map_append, List.mem_append] at hp
    refine ⟨?_, hp⟩
    rcases hp with hp | hp <;> obtain ⟨x, hx, rfl⟩ := List.mem_map.1 hp
    · exact hp0 x hx
    · exact hp1 x hx
  rw [collect_run (pathsL [a0, a1]) (pickR a0 a1) (impl_squash.b1 a0 a1) (fun i hi acc ha => by
    have b0 : decide (a0.length ≤ 1048576) = true := decide_eq_true (by omega)
    have b1 : decide (a1.length ≤ 1048576) = true := decide_eq_true (by omega)
    have e1 : ∀ z : Rec, decide ((acc.length + ([z] : List Rec).length) * 56 ≤ 140737488355328) = true := fun z => decide_eq_true (by simp; omega)
    obtain ⟨m1, m2⟩ := hmem _ (List.getElem_mem hi)
    simp only [impl_squash.b1, lt_nat, hi, decide_true, cond_true, inR_nat hi, getD_gt, getD_el hi, b0, b1, e1, wrap_succ hi (by omega), decide_eq_true m1]
    obtain ⟨p, hp⟩ : ∃ p, (pathsL [a0, a1])[i] = p := ⟨_, rfl⟩
    rw [hp] at m1 m2 ⊢
    unfold pickR
    by_cases hu : 0 ≤ findR a1 p
    · simp only [hu, decide_true, cond_true, findR_inR hu, if_true]
      by_cases hl : 0 ≤ findR a0 p
      · simp only [hl, decide_true, Bool.true_and, findR_inR hl, cond_true, if_true, overR]
        by_cases hk : (gt a1 (findR a1 p)).kind = 3
        · rcases bool_two (stopsR (gt a0 (findR a0 p))) with hs | hs <;> simp [hk, hs]
        · simp [hk]
      · simp [hl]
    · simp only [hu, decide_false, cond_false, if_false]
      rcases bool_two (cutsR a1 p) with hc | hc
      · simp [hc]
      · have hl : 0 ≤ findR a0 p := by
          have h4 := (findI_look (fun r : Rec => r.path) a0 p).1
          refine h4.2 ((mem_look _).1 (m2.resolve_right fun h5 => hu ?_))
          exact ((findI_look (fun r : Rec => r.path) a1 p).1).2 ((mem_look _).1 h5)
        simp [hc, findR_inR hl]) (fun acc => by simp [impl_squash.b1])]
  rw [two_pick (sheetB_rise h2) (sheetB_rise h3)]
  have hl := twoR_len a0 a1
  have b2 : (twoR a0 a1).length ≤ 1048576 := by omega
  simp only [decide_eq_true g1, decide_eq_true g2, decide_eq_true g3, Option.bind_some, decide_eq_true b2, decide_eq_true (sheetB_path (twoR_sheet h2 h3)), cond_true]
theorem fitL_len (l : List Rec) : (fitL l).length ≤ 16 := by
  unfold fitL
  by_cases h : 16 < l.length
  · simp [h]
  · simp only [h, if_false]; omega
def fitV (v : Value) (l : List Rec) : Value := if 16 < l.length then .slice none 0 0 else v
theorem Ow.fit {e : TypeId} {B : Nat} {w : World} {v : Value} {xs : List Rec} (h : Ow e 5 encRec B w v xs) : Ow e 5 encRec B w (fitV v xs) (fitL xs) := by
  unfold fitV fitL
  split
  · exact Ow.zero
  · exact h

end Go.UL
