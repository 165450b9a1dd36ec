/- Plain Lean: what the functions compute. -/
import Derived.Test.YtfefjaohlhkmaaaGreatDooroP21
set_option linter.unusedVariables false
set_option linter.unusedSimpArgs false
namespace Go.UL
open Go.RowKit
/-! ### two layers as one: the program's way and the reference's -/
/-- Right paths, strictly rising. -/
def sheetB (l : List Rec) : Bool := l.all (fun r => pathOK r.path) && decide (l.Pairwise fun a b => ltP a.path b.path = true)
theorem sheetB_path {l : List Rec} (h : sheetB l = true) : ∀ x ∈ l, pathOK x.path = true := by
  simp only [sheetB, Bool.and_eq_true] at h
  exact fun x hx => List.all_eq_true.1 h.1 x hx
theorem sheetB_rise {l : List Rec} (h : sheetB l = true) : Rise (l.map (·.path)) := by
  simp only [sheetB, Bool.and_eq_true] at h
  exact List.pairwise_map.2 (of_decide_eq_true h.2)
theorem sheetB_mk {l : List Rec} (h1 : ∀ x ∈ l, pathOK x.path = true) (h2 : Rise (l.map (·.path))) : sheetB l = true := by
  simp only [sheetB, Bool.and_eq_true]
  exact ⟨List.all_eq_true.2 h1, decide_eq_true (List.pairwise_map.1 h2)⟩
theorem codeAt_less {l : List Rec} {i : Nat} (h : codeAt l i = 0) (h0 : 0 < i) : ltP (l.getD (i - 1) default).path (l.getD i default).path = true := by
  unfold codeAt at h
  split at h
  · omega
  · split at h
    · exact absurd h ‹_›
    · split at h
      · omega
      · split at h
        · omega
        · rename_i h3
          rcases bool_two (lessL (cut 47 (l.getD (i - 1) default).path) (cut 47 (l.getD i default).path)) with h4 | h4
          · exact h4
          · exact absurd ⟨h0, h4⟩ h3
theorem layerOK_rise {l : List Rec} (h : (layerFault l).2 = 0) : Rise (l.map (·.path)) :=
  rise_of_near _ fun i h0 hi => codeAt_less (layerFault_zero h i hi) h0
theorem layerOK_sheet {l : List Rec} (h : (layerFault l).2 = 0) : sheetB l = true := sheetB_mk (layerOK_path h) (layerOK_rise h)
theorem mrgF_nil {α : Type} (f : α → List UInt8) (hl hu : α → Option α) (hb : α → α → Option α) (a : List α) : mrgF f hl hu hb a [] = a.filterMap hl := by
  cases a with
  | nil => rw [mrgF]; rfl
  | cons x a => rw [mrgF]
theorem mrgF_len {α : Type} (f : α → List UInt8) (hl hu : α → Option α) (hb : α → α → Option α) : ∀ (n : Nat) (a b : List α), a.length + b.length ≤ n → (mrgF f hl hu hb a b).length ≤ a.length + b.length := by
  intro n
  induction n with
  | zero =>
    intro a b hn
    have e1 : a = [] := List.eq_nil_of_length_eq_zero (by omega)
    have e2 : b = [] := List.eq_nil_of_length_eq_zero (by omega)
    subst e1; subst e2; rw [mrgF]; simp
  | succ n ih =>
    intro a b hn
    cases a with
    | nil => rw [mrgF]; simpa using List.length_filterMap_le _ _
    | cons x a =>
      cases b with
      | nil => rw [mrgF]; simpa using List.length_filterMap_le hl (x :: a)
      | cons y b =>
        have ho : ∀ z : Option α, z.toList.length ≤ 1 := fun z => by cases z <;> simp
        simp only [List.length_cons] at hn
        rw [mrgF]
        split
        · have := ih a (y :: b) (by simp only [List.length_cons]; omega)
          have h1 := ho (hl x)
          simp only [List.length_append, List.length_cons] at this ⊢; omega
        · split
          · have := ih (x :: a) b (by simp only [List.length_cons]; omega)
            have h1 := ho (hu y)
            simp only [List.length_append, List.length_cons] at this ⊢; omega
          · have := ih a b (by omega)
            have h1 := ho (hb x y)
            simp only [List.length_append, List.length_cons] at this ⊢; omega
theorem twoR_len (a b : List Rec) : (twoR a b).length ≤ a.length + b.length := mrgF_len _ _ _ _ _ a b (Nat.le_refl _)
theorem twoR_spec {a b : List Rec} (ha : Rise (a.map (·.path))) (hb : Rise (b.map (·.path))) :
    Rise ((twoR a b).map (·.path)) ∧ ∀ p, lookF (·.path) (twoR a b) p = mrgO (fun r : Rec => if cutsR b r.path then none else some r) some (fun x y => some (overR x y)) (lookF (·.path) a p) (lookF (·.path) b p) :=
  mrgF_spec (·.path) (fun r => if cutsR b r.path then none else some r) some (fun x y => some (overR x y))
    (fun x z h => by
      by_cases hc : cutsR b x.path = true
      · simp [hc] at h
      · simp [hc] at h; rw [h]) (fun y z h => by rw [Option.some.inj h]) (fun x y z he h => by
      have : overR x y = z := Option.some.inj h
      rw [← this, overR_path]; exact he.symm) _ a b (Nat.le_refl _) ha hb
theorem twoR_sheet {a b : List Rec} (ha : sheetB a = true) (hb : sheetB b = true) : sheetB (twoR a b) = true := by
  obtain ⟨h1, h2⟩ := twoR_spec (sheetB_rise ha) (sheetB_rise hb)
  refine sheetB_mk (fun x hx => ?_) h1
  have hx2 : lookF (fun r : Rec => r.path) (twoR a b) x.path ≠ none := (mem_look _).1 (List.mem_map_of_mem hx)
  have hx3 := h2 x.path
  rw [hx3] at hx2
  cases hla : lookF (fun r : Rec => r.path) a x.path with
  | some y => obtain ⟨m, e⟩ := lookF_some _ hla; rw [← e]; exact sheetB_path ha y m
  | none =>
    cases hlb : lookF (fun r : Rec => r.path) b x.path with
    | some y => obtain ⟨m, e⟩ := lookF_some _ hlb; rw [← e]; exact sheetB_path hb y m
    | none => rw [hla, hlb] at hx2; exact absurd rfl hx2
def squashL (a b : List Rec) : List Rec := canonL (twoR a b)
theorem squashL_len (a b : List Rec) : (squashL a b).length ≤ a.length + b.length := Nat.le_trans (canonL_len _) (twoR_len a b)
def fitL (l : List Rec) : List Rec := if 16 < l.length then [] else l
def fitC (l : List Rec) : Int := if 16 < l.length then 7 else 0
def squashOf (a b : List Rec) : List Rec × Int := if pairCode a b = 0 then (fitL (squashL a b), fitC (squashL a b)) else ([], pairCode a b)
def spec_l06Over.sh (a0 : Rec) (a1 : Rec) : Option (Rec) :=
  bif ((decide (a1.kind = 3)) && (stopsR a0)) then (some (⟨a1.kind, a1.path, a1.body, a1.mode, true⟩ : Rec)) else (some a1)
theorem spec_l06Over.eq (a0 a1 : Rec) : spec_l06Over.sh a0 a1 = some (overR a0 a1) := by
  unfold spec_l06Over.sh overR
  by_cases h1 : a1.kind = 3 <;> cases h2 : stopsR a0 <;> simp [h1, h2]
def spec_l06Two.b1 (a0 : List Rec) (a1 : List Rec) : List Rec × Int × Int → Option (Step (List Rec) (List Rec × Int × Int) (List Rec)) :=
  fun q => match q with
  | (x5_7, x6_9, x7_10) => bif ((decide (x6_9 < (a0.length : Int))) || (decide (x7_10 < (a1.length : Int)))) then (bif (!((!(decide (x7_10 = (a1.length : Int)))) && (decide (x6_9 < (a0.length : Int)))) || (inR x6_9 a0.length)) then (bif (!((!(decide (x7_10 = (a1.length : Int)))) && (decide (x6_9 < (a0.length : Int)))) || (inR x7_10 a1.length)) then (bif (!((!(decide (x7_10 = (a1.length : Int)))) && (decide (x6_9 < (a0.length : Int)))) || (decide (((gt a0 x6_9).path).length ≤ 1048576))) then (bif (!((!(decide (x7_10 = (a1.length : Int)))) && (decide (x6_9 < (a0.length : Int)))) || (decide (((gt a1 x7_10).path).length ≤ 1048576))) then (bif ((decide (x7_10 = (a1.length : Int))) || ((decide (x6_9 < (a0.length : Int))) && (lessL (cut 47 ((gt a0 x6_9).path)) (cut 47 ((gt a1 x7_10).path))))) then (bif inR x6_9 a0.length then (bif decide (a1.length ≤ 1048576) then (bif decide (((gt a0 x6_9).path).length ≤ 1048576) then (bif (!(cutsR a1 ((gt a0 x6_9).path))) then (bif inR x6_9 a0.length then (bif decide ((x5_7.length + ([gt a0 x6_9] : List Rec).length) * 56 ≤ 140737488355328) then (some (.nxt (x5_7 ++ ([gt a0 x6_9] : List Rec), IntKind.wrap .i64 (x6_9 + 1), x7_10))) else none) else none) else (some (.nxt (x5_7, IntKind.wrap .i64 (x6_9 + 1), x7_10)))) else none) else none) else none) else (bif (!(!(decide (x6_9 = (a0.length : Int)))) || (inR x7_10 a1.length)) then (bif (!(!(decide (x6_9 = (a0.length : Int)))) || (inR x6_9 a0.length)) then (bif (!(!(decide (x6_9 = (a0.length : Int)))) || (decide (((gt a1 x7_10).path).length ≤ 1048576))) then (bif (!(!(decide (x6_9 = (a0.length : Int)))) || (decide (((gt a0 x6_9).path).length ≤ 1048576))) then (bif ((decide (x6_9 = (a0.length : Int))) || (lessL (cut 47 ((gt a1 x7_10).path)) (cut 47 ((gt a0 x6_9).path)))) then (bif inR x7_10 a1.length then (bif decide ((x5_7.length + ([gt a1 x7_10] : List Rec).length) * 56 ≤ 140737488355328) then (some (.nxt (x5_7 ++ ([gt a1 x7_10] : List Rec), x6_9, IntKind.wrap .i64 (x7_10 + 1)))) else none) else none) else (bif inR x6_9 a0.length then (bif inR x7_10 a1.length then (bif decide ((x5_7.length + ([(overR (gt a0 x6_9) (gt a1 x7_10))] : List Rec).length) * 56 ≤ 140737488355328) then (some (.nxt (x5_7 ++ ([(overR (gt a0 x6_9) (gt a1 x7_10))] : List Rec), IntKind.wrap .i64 (x6_9 + 1), IntKind.wrap .i64 (x7_10 + 1)))) else none) else none) else none)) else none) else none) else none) else none)) else none) else none) else none) else none) else (some (.brk x5_7))
def spec_l06Two.sh (k : Nat) (a0 : List Rec) (a1 : List Rec) : Option (List Rec) :=
  (loopF (spec_l06Two.b1 a0 a1) k (([] : List Rec), 0, 0)).bind fun z => match z with | .inl t => some t | .inr x5_14 => bif decide (x5_14.length ≤ 1048576) then (bif decide (∀ x ∈ x5_14, pathOK x.path = true) then (some (canonL x5_14)) else none) else none
theorem spec_l06Two.eq (a0 a1 : List Rec) (h0 : a0.length ≤ 500000) (h1 : a1.length ≤ 500000) (h2 : sheetB a0 = true) (h3 : sheetB a1 = true) : ∃ k, spec_l06Two.sh k a0 a1 = some (squashL a0 a1) := by
  refine ⟨a0.length + a1.length + 1, ?_⟩
  unfold spec_l06Two.sh squashL
  have hp0 := fun x hx => pathOK_small (sheetB_path h2 x hx)
  have hp1 := fun x hx => pathOK_small (sheetB_path h3 x hx)
  obtain ⟨M, hM⟩ : ∃ M, M = mrgF (fun r : Rec => r.path) (fun r => if cutsR a1 r.path then none else some r) some (fun a b => some (overR a b)) := ⟨_, rfl⟩
  have key : ∀ (n : Nat) (i k K : Nat) (out : List Rec), (a0.length - i) + (a1.length - k) = n → n < K → i ≤ a0.length → k ≤ a1.length → out.length ≤ i + k → loopF (spec_l06Two.b1 a0 a1) K (out, (i : Int), (k : Int)) = some (.inr (out ++ M (a0.drop i) (a1.drop k))) := by
    intro n
    induction n using Nat.strongRecOn with
    | _ n ih =>
      intro i k K out hn hK hi hk ho
      obtain ⟨K, rfl⟩ : ∃ j, K = j + 1 := ⟨K - 1, by omega⟩
      have e1 : ∀ z : Rec, decide ((out.length + ([z] : List Rec).length) * 56 ≤ 140737488355328) = true := fun z => decide_eq_true (by simp; omega)
      have b1 : decide (a1.length ≤ 1048576) = true := decide_eq_true (by omega)
      rw [loopF]
      by_cases hia : i < a0.length
      · have d1 : decide ((i : Int) < (a0.length : Int)) = true := decide_eq_true (by omega)
        have d4 : decide ((i : Int) = (a0.length : Int)) = false := decide_eq_false (by omega)
        have i1 := inR_nat hia
        have p1 : decide ((gt a0 (i : Int)).path.length ≤ 1048576) = true := decide_eq_true (by rw [getD_gt, getD_el hia]; exact hp0 _ (List.getElem_mem hia))
        have w1 : IntKind.wrap .i64 ((i : Int) + 1) = ((i + 1 : Nat) : Int) := by rw [wrap_succ hia (by omega)]; omega
        by_cases hkb : k < a1.length
        · have d2 : decide ((k : Int) < (a1.length : Int)) = true := decide_eq_true (by omega)
          have d3 : decide ((k : Int) = (a1.length : Int)) = false := decide_eq_false (by omega)
          have i2 := inR_nat hkb
          have p2 : decide ((gt a1 (k : Int)).path.length ≤ 1048576) = true := decide_eq_true (by rw [getD_gt, getD_el hkb]; exact hp1 _ (List.getElem_mem hkb))
          have w2 : IntKind.wrap .i64 ((k : Int) + 1) = ((k + 1 : Nat) : Int) := by rw [wrap_succ hkb (by omega)]; omega
          simp only [spec_l06Two.b1, d1, d2, d3, d4, i1, i2, p1, p2, w1, w2, e1, b1, Bool.not_true, Bool.not_false, Bool.true_and, Bool.and_true, Bool.or_true, Bool.true_or, Bool.false_or, cond_true, Bool.or_false]
          rw [drop_gt hia, drop_gt hkb, hM, mrgF, ← hM]
          rcases bool_two (lessL (cut 47 (gt a0 (i : Int)).path) (cut 47 (gt a1 (k : Int)).path)) with hl | hl
          · have hl' : ltP (gt a0 (i : Int)).path (gt a1 (k : Int)).path = true := hl
            rw [if_pos hl', ← drop_gt hkb]
            simp only [hl, cond_true]
            rcases bool_two (cutsR a1 (gt a0 (i : Int)).path) with hc | hc
            · have hI := ih ((a0.length - (i + 1)) + (a1.length - k)) (by omega) (i + 1) k K out rfl (by omega) (by omega) hk (by omega)
              simp only [hc, Bool.not_true, cond_false, if_true, Option.toList_none, List.nil_append]
              exact hI
            · have hI := ih ((a0.length - (i + 1)) + (a1.length - k)) (by omega) (i + 1) k K (out ++ [gt a0 (i : Int)]) rfl (by omega) (by omega) hk (by simp; omega)
              simp only [hc, Bool.not_false, cond_true, Bool.false_eq_true, if_false, Option.toList_some]
              refine hI.trans ?_
              simp
          · have hl' : ¬ ltP (gt a0 (i : Int)).path (gt a1 (k : Int)).path = true := by show ¬ lessL _ _ = true; rw [hl]; simp
            rw [if_neg hl']
            simp only [hl, cond_false]
            rcases bool_two (lessL (cut 47 (gt a1 (k : Int)).path) (cut 47 (gt a0 (i : Int)).path)) with hr | hr
            · have hr' : ltP (gt a1 (k : Int)).path (gt a0 (i : Int)).path = true := hr
              have hI := ih ((a0.length - i) + (a1.length - (k + 1))) (by omega) i (k + 1) K (out ++ [gt a1 (k : Int)]) rfl (by omega) hi (by omega) (by simp; omega)
              rw [if_pos hr', ← drop_gt hia]
              simp only [hr, cond_true]
              refine hI.trans ?_
              simp
            · have hr' : ¬ ltP (gt a1 (k : Int)).path (gt a0 (i : Int)).path = true := by show ¬ lessL _ _ = true; rw [hr]; simp
              rw [if_neg hr']
              simp only [hr, cond_false]
              have hI := ih ((a0.length - (i + 1)) + (a1.length - (k + 1))) (by omega) (i + 1) (k + 1) K (out ++ [overR (gt a0 (i : Int)) (gt a1 (k : Int))]) rfl (by omega) (by omega) (by omega) (by simp; omega)
              refine hI.trans ?_
              simp
        · have hke : k = a1.length := by omega
          have d2 : decide ((k : Int) < (a1.length : Int)) = false := decide_eq_false (by omega)
          have d3 : decide ((k : Int) = (a1.length : Int)) = true := decide_eq_true (by omega)
          have hd : a1.drop k = [] := List.drop_eq_nil_of_le (by omega)
          simp only [spec_l06Two.b1, d1, d2, d3, d4, i1, p1, w1, e1, b1, Bool.not_true, Bool.not_false, Bool.true_and, Bool.false_and, Bool.and_true, Bool.or_true, Bool.true_or, Bool.false_or, cond_true, Bool.or_false]
          rcases bool_two (cutsR a1 (gt a0 (i : Int)).path) with hc | hc
          · have hI := ih ((a0.length - (i + 1)) + (a1.length - k)) (by omega) (i + 1) k K out rfl (by omega) (by omega) hk (by omega)
            simp only [hc, Bool.not_true, cond_false]
            refine hI.trans ?_
            rw [hd, hM, mrgF_nil, mrgF_nil, drop_gt hia]
            simp [hc]
          · have hI := ih ((a0.length - (i + 1)) + (a1.length - k)) (by omega) (i + 1) k K (out ++ [gt a0 (i : Int)]) rfl (by omega) (by omega) hk (by simp; omega)
            simp only [hc, Bool.not_false, cond_true]
            refine hI.trans ?_
            rw [hd, hM, mrgF_nil, mrgF_nil, drop_gt hia]
            simp [hc]
      · have hie : i = a0.length := by omega
        have d1 : decide ((i : Int) < (a0.length : Int)) = false := decide_eq_false (by omega)
        have d4 : decide ((i : Int) = (a0.length : Int)) = true := decide_eq_true (by omega)
        have hd0 : a0.drop i = [] := List.drop_eq_nil_of_le (by omega)
        by_cases hkb : k < a1.length
        · have d2 : decide ((k : Int) < (a1.length : Int)) = true := decide_eq_true (by omega)
          have d3 : decide ((k : Int) = (a1.length : Int)) = false := decide_eq_false (by omega)
          have i2 := inR_nat hkb
          have w2 : IntKind.wrap .i64 ((k : Int) + 1) = ((k + 1 : Nat) : Int) := by rw [wrap_succ hkb (by omega)]; omega
          have hI := ih ((a0.length - i) + (a1.length - (k + 1))) (by omega) i (k + 1) K (out ++ [gt a1 (k : Int)]) rfl (by omega) hi (by omega) (by simp; omega)
          simp only [spec_l06Two.b1, d1, d2, d3, d4, i2, w2, e1, b1, Bool.not_true, Bool.not_false, Bool.true_and, Bool.false_and, Bool.and_false, Bool.and_true, Bool.or_true, Bool.true_or, Bool.false_or, cond_true, cond_false, Bool.or_false]
          refine hI.trans ?_
          rw [hd0, hM, mrgF, mrgF, drop_gt hkb]
          simp
        · have d2 : decide ((k : Int) < (a1.length : Int)) = false := decide_eq_false (by omega)
          have hd1 : a1.drop k = [] := List.drop_eq_nil_of_le (by omega)
          simp only [spec_l06Two.b1, d1, d2, Bool.or_false, cond_false]
          rw [hd0, hd1, hM, mrgF]
          simp
  have hk := key (a0.length + a1.length) 0 0 (a0.length + a1.length + 1) [] (by simp) (by omega) (by omega) (by omega) (by simp)
  have hk2 : loopF (spec_l06Two.b1 a0 a1) (a0.length + a1.length + 1) ([], 0, 0) = some (.inr (twoR a0 a1)) := by
    refine hk.trans ?_
    rw [List.drop_zero, List.drop_zero, List.nil_append, hM]; rfl
  have hl := twoR_len a0 a1
  have b2 : (twoR a0 a1).length ≤ 1048576 := by omega
  rw [hk2]
  simp only [Option.bind_some, decide_eq_true b2, decide_eq_true (sheetB_path (twoR_sheet h2 h3)), cond_true]
theorem fit_dec (n : Nat) : decide ((16 : Int) < (n : Int)) = decide (16 < n) := by rw [decide_eq_decide]; omega
def impl_squash.b1 (a0 : List Rec) (a1 : List Rec) : List Rec × Int → Option (Step (List Rec) (List Rec × Int) (List Rec)) :=
  fun q => match q with
  | (x5_20, x17_22) => bif (decide (x17_22 < ((pathsL ([a0, a1] : List (List Rec))).length : Int))) then (bif inR x17_22 (pathsL ([a0, a1] : List (List Rec))).length then (bif decide (a0.length ≤ 1048576) then (bif decide (a1.length ≤ 1048576) then (bif (decide (0 ≤ (findR a1 (gt (pathsL ([a0, a1] : List (List Rec))) x17_22)))) then (bif inR (findR a1 (gt (pathsL ([a0, a1] : List (List Rec))) x17_22)) a1.length then (((bif ((decide (0 ≤ (findR a0 (gt (pathsL ([a0, a1] : List (List Rec))) x17_22)))) && (decide (((gt a1 (findR a1 (gt (pathsL ([a0, a1] : List (List Rec))) x17_22))).kind) = 3))) then (bif inR (findR a0 (gt (pathsL ([a0, a1] : List (List Rec))) x17_22)) a0.length then (some (stopsR (gt a0 (findR a0 (gt (pathsL ([a0, a1] : List (List Rec))) x17_22))))) else none) else some false)).bind fun z73 => bif z73 then (bif decide ((x5_20.length + ([(⟨(gt a1 (findR a1 (gt (pathsL ([a0, a1] : List (List Rec))) x17_22))).kind, (gt a1 (findR a1 (gt (pathsL ([a0, a1] : List (List Rec))) x17_22))).path, (gt a1 (findR a1 (gt (pathsL ([a0, a1] : List (List Rec))) x17_22))).body, (gt a1 (findR a1 (gt (pathsL ([a0, a1] : List (List Rec))) x17_22))).mode, true⟩ : Rec)] : List Rec).length) * 56 ≤ 140737488355328) then (some (.nxt (x5_20 ++ ([(⟨(gt a1 (findR a1 (gt (pathsL ([a0, a1] : List (List Rec))) x17_22))).kind, (gt a1 (findR a1 (gt (pathsL ([a0, a1] : List (List Rec))) x17_22))).path, (gt a1 (findR a1 (gt (pathsL ([a0, a1] : List (List Rec))) x17_22))).body, (gt a1 (findR a1 (gt (pathsL ([a0, a1] : List (List Rec))) x17_22))).mode, true⟩ : Rec)] : List Rec), IntKind.wrap .i64 (x17_22 + 1)))) else none) else (bif decide ((x5_20.length + ([(gt a1 (findR a1 (gt (pathsL ([a0, a1] : List (List Rec))) x17_22)))] : List Rec).length) * 56 ≤ 140737488355328) then (some (.nxt (x5_20 ++ ([(gt a1 (findR a1 (gt (pathsL ([a0, a1] : List (List Rec))) x17_22)))] : List Rec), IntKind.wrap .i64 (x17_22 + 1)))) else none)) else none) else (bif decide (a1.length ≤ 1048576) then (bif decide ((gt (pathsL ([a0, a1] : List (List Rec))) x17_22).length ≤ 1048576) then (bif (!(cutsR a1 (gt (pathsL ([a0, a1] : List (List Rec))) x17_22))) then (bif inR (findR a0 (gt (pathsL ([a0, a1] : List (List Rec))) x17_22)) a0.length then (bif decide ((x5_20.length + ([gt a0 (findR a0 (gt (pathsL ([a0, a1] : List (List Rec))) x17_22))] : List Rec).length) * 56 ≤ 140737488355328) then (some (.nxt (x5_20 ++ ([gt a0 (findR a0 (gt (pathsL ([a0, a1] : List (List Rec))) x17_22))] : List Rec), IntKind.wrap .i64 (x17_22 + 1)))) else none) else none) else (some (.nxt (x5_20, IntKind.wrap .i64 (x17_22 + 1))))) else none) else none)) else none) else none) else none) else (some (.brk x5_20))
def impl_squash.sh (k : Nat) (a0 : List Rec) (a1 : List Rec) : Option (List Rec) :=
  bif decide (([a0, a1] : List (List Rec)).length ≤ 5) then (bif decide (∀ l ∈ ([a0, a1] : List (List Rec)), l.length ≤ 1048576) then (bif decide (∀ l ∈ ([a0, a1] : List (List Rec)), ∀ x ∈ l, x.path.length ≤ 1048576) then ((loopF (impl_squash.b1 a0 a1) k (([] : List Rec), 0)).bind fun z => match z with | .inl t => some t | .inr x5_26 => bif decide (x5_26.length ≤ 1048576) then (bif decide (∀ x ∈ x5_26, pathOK x.path = true) then (some (canonL x5_26)) else none) else none) else none) else none) else none
theorem impl_squash.eq (a0 a1 : List Rec) (h0 : a0.length ≤ 500000) (h1 : a1.length ≤ 500000) (h2 : sheetB a0 = true) (h3 : sheetB a1 = true) : ∃ k, impl_squash.sh k a0 a1 = some (squashL a0 a1) := by
  refine ⟨(pathsL [a0, a1]).length + 1, ?_⟩
  unfold impl_squash.sh squashL
  have hp0 := fun x hx => pathOK_small (sheetB_path h2 x hx)
  have hp1 := fun x hx => pathOK_small (sheetB_path h3 x hx)
  have g1 : ([a0, a1] : List (List Rec)).length ≤ 5 := by simp
  have g2 : ∀ l ∈ ([a0, a1] : List (List Rec)), l.length ≤ 1048576 := by
    intro l hl
    simp only [List.mem_cons, List.not_mem_nil, or_false] at hl
    rcases hl with rfl | rfl <;> omega
  have g3 : ∀ l ∈ ([a0, a1] : List (List Rec)), ∀ x ∈ l, x.path.length ≤ 1048576 := by
    intro l hl
    simp only [List.mem_cons, List.not_mem_nil, or_false] at hl
    rcases hl with rfl | rfl
    · exact hp0
    · exact hp1
  have hpl : (pathsL [a0, a1]).length ≤ 1000000 := by
    refine Nat.le_trans (riseOf_len _) ?_
    simp; omega
  have hmem : ∀ p ∈ pathsL [a0, a1], p.length ≤ 1048576 ∧ (p ∈ a0.map (·.path) ∨ p ∈ a1.map (·.path)) := by
    intro p hp
    rw [pathsL, riseOf_mem] at hp
    simp only [List.flatten_cons, List.flatten_nil, List.append_nil, List.map_append, List.mem_append] at hp
    refine ⟨?_, hp⟩
    rcases hp with hp | hp <;> obtain ⟨x, hx, rfl⟩ := List.mem_map.1 hp
    · exact hp0 x hx
    · exact hp1 x hx
  rw [collect_run (pathsL [a0, a1]) (pickR a0 a1) (impl_squash.b1 a0 a1) (fun i hi acc ha => by
    have b0 : decide (a0.length ≤ 1048576) = true := decide_eq_true (by omega)
    have b1 : decide (a1.length ≤ 1048576) = true := decide_eq_true (by omega)
    have e1 : ∀ z : Rec, decide ((acc.length + ([z] : List Rec).length) * 56 ≤ 140737488355328) = true := fun z => decide_eq_true (by simp; omega)
    obtain ⟨m1, m2⟩ := hmem _ (List.getElem_mem hi)
    simp only [impl_squash.b1, lt_nat, hi, decide_true, cond_true, inR_nat hi, getD_gt, getD_el hi, b0, b1, e1, wrap_succ hi (by omega), decide_eq_true m1]
    obtain ⟨p, hp⟩ : ∃ p, (pathsL [a0, a1])[i] = p := ⟨_, rfl⟩
    rw [hp] at m1 m2 ⊢
    unfold pickR
    by_cases hu : 0 ≤ findR a1 p
    · simp only [hu, decide_true, cond_true, findR_inR hu, if_true]
      by_cases hl : 0 ≤ findR a0 p
      · simp only [hl, decide_true, Bool.true_and, findR_inR hl, cond_true, if_true, overR]
        by_cases hk : (gt a1 (findR a1 p)).kind = 3
        · rcases bool_two (stopsR (gt a0 (findR a0 p))) with hs | hs <;> simp [hk, hs]
        · simp [hk]
      · simp [hl]
    · simp only [hu, decide_false, cond_false, if_false]
      rcases bool_two (cutsR a1 p) with hc | hc
      · simp [hc]
      · have hl : 0 ≤ findR a0 p := by
          have h4 := (findI_look (fun r : Rec => r.path) a0 p).1
          refine h4.2 ((mem_look _).1 (m2.resolve_right fun h5 => hu ?_))
          exact ((findI_look (fun r : Rec => r.path) a1 p).1).2 ((mem_look _).1 h5)
        simp [hc, findR_inR hl]) (fun acc => by simp [impl_squash.b1])]
  rw [two_pick (sheetB_rise h2) (sheetB_rise h3)]
  have hl := twoR_len a0 a1
  have b2 : (twoR a0 a1).length ≤ 1048576 := by omega
  simp only [decide_eq_true g1, decide_eq_true g2, decide_eq_true g3, Option.bind_some, decide_eq_true b2, decide_eq_true (sheetB_path (twoR_sheet h2 h3)), cond_true]
def impl_Squash.sh (a0 : List Rec) (a1 : List Rec) : Option (List Rec × Int) :=
  bif decide (a0.length ≤ 1048576) then (bif decide (a1.length ≤ 1048576) then (bif decide (∀ x ∈ a0, x.path.length ≤ 1048576) then (bif decide (∀ x ∈ a1, x.path.length ≤ 1048576) then (bif (!decide ((pairCode a0 a1) = 0)) then (some ([], (pairCode a0 a1))) else (bif decide (a0.length ≤ 500000) then (bif decide (a1.length ≤ 500000) then (bif decide (sheetB a0 = true) then (bif decide (sheetB a1 = true) then (some ((fitL (squashL a0 a1)), (fitC (squashL a0 a1)))) else none) else none) else none) else none)) else none) else none) else none) else none
theorem impl_Squash.eq (a0 a1 : List Rec) (h0 : a0.length ≤ 1048576) (h1 : a1.length ≤ 1048576) (h2 : ∀ x ∈ a0, x.path.length ≤ 1048576) (h3 : ∀ x ∈ a1, x.path.length ≤ 1048576) : impl_Squash.sh a0 a1 = some ((squashOf a0 a1).1, (squashOf a0 a1).2) := by
  unfold impl_Squash.sh squashOf
  by_cases hc : pairCode a0 a1 = 0
  · obtain ⟨c1, c2⟩ := pairCode_zero hc
    have l1 := layerOK_len c1
    have l2 := layerOK_len c2
    have b1 : a0.length ≤ 500000 := by omega
    have b2 : a1.length ≤ 500000 := by omega
    simp [h0, h1, decide_eq_true h2, decide_eq_true h3, hc, b1, b2, layerOK_sheet c1, layerOK_sheet c2]
  · simp [h0, h1, decide_eq_true h2, decide_eq_true h3, hc]
def fitV (v : Value) (l : List Rec) : Value := if 16 < l.length then .slice none 0 0 else v
theorem Ow.fit {e : TypeId} {B : Nat} {w : World} {v : Value} {xs : List Rec} (h : Ow e 5 encRec B w v xs) : Ow e 5 encRec B w (fitV v xs) (fitL xs) := by
  unfold fitV fitL
  split
  · exact Ow.zero
  · exact h

/-! ### a node's place among nodes in order -/
/-! ### what is above and below, by parts -/
theorem cut_app2 : ∀ (p t : List UInt8), cut 47 (p ++ 47 :: t) = cut 47 p ++ cut 47 t := by
  intro p t
  induction p with
  | nil => rw [List.nil_append, cut_cons_eq slash_bn]; rfl
  | cons b p ih =>
    rw [List.cons_append]
    by_cases h : bn b = 47
    · rw [cut_cons_eq h, cut_cons_eq h, ih]; rfl
    · rw [cut_cons_ne h, cut_cons_ne h, ih]
      cases hc : cut 47 p with
      | nil => exact absurd hc (cut_ne _ _)
      | cons x l => rfl
theorem below_iff (q p : List UInt8) : belowP q p = true ↔ ∃ r, r ≠ [] ∧ cut 47 q = cut 47 p ++ r := by
  unfold belowP
  rw [List.isPrefixOf_iff_prefix]
  constructor
  · rintro ⟨t, rfl⟩
    refine ⟨cut 47 t, cut_ne _ _, ?_⟩
    rw [List.append_assoc, List.singleton_append, cut_app2]
  · rintro ⟨r, hr, h⟩
    refine ⟨joinL r, ?_⟩
    have hf : ∀ x ∈ cut 47 p ++ r, ∀ b ∈ x, bn b ≠ 47 := by rw [← h]; exact cut_parts q
    apply cut_inj
    rw [List.append_assoc, List.singleton_append, cut_app2, h, cut_joinL hr fun x hx => hf x (List.mem_append_right _ hx)]
theorem lessL_app : ∀ (a r : List (List UInt8)), r ≠ [] → lessL a (a ++ r) = true := by
  intro a r hr
  induction a with
  | nil => cases r with
    | nil => exact absurd rfl hr
    | cons x r => rfl
  | cons x a ih => simp [lessL, ih]
theorem ltP_below {q p : List UInt8} (h : belowP q p = true) : ltP p q = true := by
  obtain ⟨r, hr, e⟩ := (below_iff q p).1 h
  unfold ltP; rw [e]; exact lessL_app _ _ hr
theorem below_ne {q p : List UInt8} (h : belowP q p = true) : q ≠ p := fun e => ltP_ne (ltP_below h) e.symm
theorem below_irrefl (p : List UInt8) : belowP p p = false := by
  rcases bool_two (belowP p p) with h | h
  · exact absurd rfl (below_ne h)
  · exact h
theorem below_trans {a b c : List UInt8} (h1 : belowP a b = true) (h2 : belowP b c = true) : belowP a c = true := by
  obtain ⟨r, hr, e⟩ := (below_iff a b).1 h1
  obtain ⟨s, hs, f⟩ := (below_iff b c).1 h2
  refine (below_iff a c).2 ⟨s ++ r, by simp [hr], ?_⟩
  rw [e, f, List.append_assoc]
theorem below_asymm {a b : List UInt8} (h : belowP a b = true) : belowP b a = false := by
  rcases bool_two (belowP b a) with h1 | h1
  · exact absurd (below_trans h h1) (by rw [below_irrefl]; simp)
  · exact h1
theorem cut_parent {t : List UInt8} (h : parentP t ≠ []) : cut 47 (parentP t) = (cut 47 t).dropLast := by
  rw [parentP_cut] at h ⊢
  refine cut_joinL (fun e => h (by rw [e]; rfl)) fun x hx => cut_parts t x (List.dropLast_subset _ hx)
theorem below_parent {t : List UInt8} (h : parentP t ≠ []) : belowP t (parentP t) = true := by
  refine (below_iff _ _).2 ⟨[(cut 47 t).getLast (cut_ne _ _)], by simp, ?_⟩
  rw [cut_parent h, List.dropLast_concat_getLast]
theorem ltP_parent {t : List UInt8} (h : parentP t ≠ []) : ltP (parentP t) t = true := ltP_below (below_parent h)
/-- What is above is what has it below. -/
theorem mem_ancs : ∀ (n : Nat) (t x : List UInt8), t.length ≤ n → (x ∈ ancs t → x ≠ [] ∧ belowP t x = true) := by
  intro n
  induction n with
  | zero =>
    intro t x hn hx
    have : t = [] := List.eq_nil_of_length_eq_zero (by omega)
    subst this
    rw [ancs_eq, if_pos parentP_nil] at hx; cases hx
  | succ n ih =>
    intro t x hn hx
    rw [ancs_eq] at hx
    by_cases hp : parentP t = []
    · rw [if_pos hp] at hx; cases hx
    · rw [if_neg hp] at hx
      have ht : t ≠ [] := fun e => by subst e; exact hp parentP_nil
      rcases List.mem_cons.1 hx with rfl | hx
      · exact ⟨hp, below_parent hp⟩
      · obtain ⟨h1, h2⟩ := ih (parentP t) x (by have := parentP_lt ht; omega) hx
        exact ⟨h1, below_trans (below_parent hp) h2⟩
theorem ancs_below {t x : List UInt8} (h : x ∈ ancs t) : belowP t x = true := (mem_ancs _ t x (Nat.le_refl _) h).2
theorem below_ancs {t x : List UInt8} (ht : pathOK t = true) (h : belowP t x = true) : x ∈ ancs t := by
  obtain ⟨r, hr, e⟩ := (below_iff t x).1 h
  rw [ancs_cut ht, List.mem_reverse, List.mem_map]
  have hl : 0 < (cut 47 x).length := List.length_pos_iff.2 (cut_ne _ _)
  have hrl : 0 < r.length := List.length_pos_iff.2 hr
  refine ⟨(cut 47 x).length - 1, List.mem_range.2 ?_, ?_⟩
  · rw [e, List.length_append]; omega
  · rw [e, show (cut 47 x).length - 1 + 1 = (cut 47 x).length by omega, List.take_left, joinL_cut]
theorem pathOK_below {t x : List UInt8} (ht : pathOK t = true) (h : belowP t x = true) : pathOK x = true := by
  obtain ⟨r, hr, e⟩ := (below_iff t x).1 h
  have hrl : 0 < r.length := List.length_pos_iff.2 hr
  simp only [pathOK, Bool.and_eq_true, decide_eq_true_eq, e, List.all_append, List.length_append] at ht ⊢
  refine ⟨?_, by omega, ht.2.2.1⟩
  unfold belowP at h
  rw [List.isPrefixOf_iff_prefix] at h
  have := h.length_le
  simp at this; omega
theorem pathOK_parent {t : List UInt8} (ht : pathOK t = true) (h : parentP t ≠ []) : pathOK (parentP t) = true := pathOK_below ht (below_parent h)
theorem parent_of_below {t x : List UInt8} (ht : pathOK t = true) (h : belowP t x = true) : parentP t ≠ [] ∧ (parentP t = x ∨ belowP (parentP t) x = true) := by
  have hm := below_ancs ht h
  rw [ancs_eq] at hm
  by_cases hp : parentP t = []
  · rw [if_pos hp] at hm; cases hm
  · rw [if_neg hp] at hm
    refine ⟨hp, ?_⟩
    rcases List.mem_cons.1 hm with e | hm
    · exact .inl e.symm
    · exact .inr (ancs_below hm)
theorem depth_below {t x : List UInt8} (h : belowP t x = true) : (cut 47 x).length < (cut 47 t).length := by
  obtain ⟨r, hr, e⟩ := (below_iff t x).1 h
  have hrl : 0 < r.length := List.length_pos_iff.2 hr
  rw [e, List.length_append]; omega

/-! ### trees however great, and layers on them -/
/-- A tree without a bound. -/
structure Wood (t : List Nd) : Prop where
  rise : Rise (t.map (·.path))
  ok : ∀ n ∈ t, nodeOK n = true
  par : ∀ n ∈ t, parentP n.path ≠ [] → ∃ m ∈ t, m.path = parentP n.path ∧ m.kind = 3
/-- Records in order, each below directories. -/
structure Sheet (l : List Rec) : Prop where
  rise : Rise (l.map (·.path))
  ok : ∀ r ∈ l, recFault r = 0
  par : ∀ r ∈ l, parentP r.path ≠ [] → ∃ q ∈ l, q.path = parentP r.path ∧ q.kind = 3
abbrev lookT (t : List Nd) (p : List UInt8) : Option Nd := lookF (fun n : Nd => n.path) t p
abbrev lookR (l : List Rec) (p : List UInt8) : Option Rec := lookF (fun r : Rec => r.path) l p
theorem lookR_mem {l : List Rec} (h : Rise (l.map (·.path))) {r : Rec} (hr : r ∈ l) : lookR l r.path = some r := lookF_of_mem (fun r : Rec => r.path) h r hr
theorem lookR_some {l : List Rec} {p : List UInt8} {r : Rec} (h : lookR l p = some r) : r ∈ l ∧ r.path = p := lookF_some _ h
theorem findR_look (l : List Rec) (p : List UInt8) : (0 ≤ findR l p ↔ lookR l p ≠ none) ∧ ∀ x, lookR l p = some x → gt l (findR l p) = x := findI_look (fun r : Rec => r.path) l p
theorem rise_getD {α : Type} [Inhabited α] (f : α → List UInt8) {l : List α} (h : Rise (l.map f)) {i j : Nat} (hij : i < j) (hj : j < l.length) : ltP (f (l.getD i default)) (f (l.getD j default)) = true := by
  rw [getD_el (by omega), getD_el hj]
  have := List.pairwise_iff_getElem.1 (List.pairwise_map.1 h) i j (by omega) hj hij
  exact this
theorem idx_lt {α : Type} [Inhabited α] (f : α → List UInt8) {l : List α} (h : Rise (l.map f)) {i : Nat} (hi : i < l.length) {m : α} (hm : m ∈ l) (hlt : ltP (f m) (f (l.getD i default)) = true) : m ∈ l.take i := by
  obtain ⟨j, hj, rfl⟩ := List.getElem_of_mem hm
  by_cases hji : j < i
  · rw [List.mem_take_iff_getElem]
    exact ⟨j, by omega, rfl⟩
  · exfalso
    have e : l[j] = l.getD j default := (getD_el hj).symm
    rw [e] at hlt
    by_cases he : i = j
    · subst he; rw [ltP_irrefl] at hlt; cases hlt
    · have := rise_getD f h (show i < j by omega) hj
      rw [ltP_asymm this] at hlt; cases hlt
theorem rise_take {α : Type} (f : α → List UInt8) {l : List α} (h : Rise (l.map f)) (i : Nat) : Rise ((l.take i).map f) := by
  rw [List.map_take]; exact List.Pairwise.sublist (List.take_sublist _ _) h
theorem codeAt_par {l : List Rec} {i : Nat} (h : codeAt l i = 0) (hp : parentP (l.getD i default).path ≠ []) : 0 ≤ findR (l.take i) (parentP (l.getD i default).path) ∧ (gt l (findR (l.take i) (parentP (l.getD i default).path))).kind = 3 := by
  unfold codeAt at h
  split at h
  · omega
  · split at h
    · exact absurd h ‹_›
    · split at h
      · omega
      · split at h
        · omega
        · split at h
          · omega
          · split at h
            · omega
            · rename_i h1 h2
              exact ⟨by omega, by
                by_cases e : (gt l (findR (l.take i) (parentP (l.getD i default).path))).kind = 3
                · exact e
                · exact absurd e h2⟩
theorem layer_sheet {l : List Rec} (h : (layerFault l).2 = 0) : Sheet l := by
  refine ⟨layerOK_rise h, layerOK_rec h, fun r hr hp => ?_⟩
  obtain ⟨i, hi, rfl⟩ := List.getElem_of_mem hr
  have e : l[i] = l.getD i default := (getD_el hi).symm
  rw [e] at hp ⊢
  obtain ⟨h1, h2⟩ := codeAt_par (layerFault_zero h i hi) hp
  cases hl : lookR (l.take i) (parentP (l.getD i default).path) with
  | none => exact absurd hl ((findR_look _ _).1.1 h1)
  | some m =>
    obtain ⟨hm, he⟩ := lookR_some hl
    refine ⟨m, List.mem_of_mem_take hm, he, ?_⟩
    have h3 := (findR_look (l.take i) (parentP (l.getD i default).path)).2 m hl
    rw [gtake l i _ h1 (findI_lt _ _)] at h3
    rw [← h3]; exact h2
theorem sheet_layer {l : List Rec} (h : Sheet l) (hn : l.length ≤ 16) : (layerFault l).2 = 0 := by
  rw [layerFault_of fun i hi => ?_]
  have hm : l.getD i default ∈ l := by rw [getD_el hi]; exact List.getElem_mem hi
  unfold codeAt
  rw [if_neg (by omega), if_neg (by rw [h.ok _ hm]; simp)]
  have hlt : 0 < i → ltP (l.getD (i - 1) default).path (l.getD i default).path = true := fun h0 => rise_getD (fun r : Rec => r.path) h.rise (show i - 1 < i by omega) hi
  rw [if_neg (fun ⟨h0, e⟩ => ltP_ne (hlt h0) e.symm), if_neg (fun ⟨h0, e⟩ => by have := hlt h0; unfold ltP at this; rw [e] at this; cases this)]
  by_cases hp : parentP (l.getD i default).path = []
  · rw [if_pos hp]
  · obtain ⟨m, hmt, he, hk⟩ := h.par _ hm hp
    have hmi : m ∈ l.take i := idx_lt (fun r : Rec => r.path) h.rise hi hmt (by
      show ltP m.path (l.getD i default).path = true
      rw [he]; exact ltP_parent hp)
    have hl := lookR_mem (rise_take (fun r : Rec => r.path) h.rise i) hmi
    rw [he] at hl
    have h1 := (findR_look (l.take i) (parentP (l.getD i default).path)).1.2 (by rw [hl]; simp)
    have h2 := (findR_look (l.take i) (parentP (l.getD i default).path)).2 m hl
    rw [gtake l i _ h1 (findI_lt _ _)] at h2
    rw [if_neg hp, if_neg (by omega), if_neg (by rw [h2]; simp [hk])]
/-- Above a node are directories. -/
theorem Wood.up {t : List Nd} (h : Wood t) : ∀ (k : Nat) (n : Nd), n ∈ t → n.path.length ≤ k → ∀ p ∈ ancs n.path, ∃ m ∈ t, m.path = p ∧ m.kind = 3 := by
  intro k
  induction k with
  | zero =>
    intro n hn hk p hp
    have : n.path = [] := List.eq_nil_of_length_eq_zero (by omega)
    rw [this, ancs_eq, if_pos parentP_nil] at hp; cases hp
  | succ k ih =>
    intro n hn hk p hp
    rw [ancs_eq] at hp
    by_cases hpp : parentP n.path = []
    · rw [if_pos hpp] at hp; cases hp
    · rw [if_neg hpp] at hp
      obtain ⟨m, hm, he, hk3⟩ := h.par n hn hpp
      have hne : n.path ≠ [] := fun e => by rw [e] at hpp; exact hpp parentP_nil
      rcases List.mem_cons.1 hp with rfl | hp
      · exact ⟨m, hm, he, hk3⟩
      · exact ih m hm (by rw [he]; have := parentP_lt hne; omega) p (by rw [he]; exact hp)
theorem Wood.above {t : List Nd} (h : Wood t) {n : Nd} (hn : n ∈ t) {p : List UInt8} (hb : belowP n.path p = true) : ∃ m ∈ t, m.path = p ∧ m.kind = 3 :=
  h.up _ n hn (Nat.le_refl _) p (below_ancs (nodeOK_path (h.ok n hn)) hb)
theorem Sheet.up {t : List Rec} (h : Sheet t) : ∀ (k : Nat) (n : Rec), n ∈ t → n.path.length ≤ k → ∀ p ∈ ancs n.path, ∃ m ∈ t, m.path = p ∧ m.kind = 3 := by
  intro k
  induction k with
  | zero =>
    intro n hn hk p hp
    have : n.path = [] := List.eq_nil_of_length_eq_zero (by omega)
    rw [this, ancs_eq, if_pos parentP_nil] at hp; cases hp
  | succ k ih =>
    intro n hn hk p hp
    rw [ancs_eq] at hp
    by_cases hpp : parentP n.path = []
    · rw [if_pos hpp] at hp; cases hp
    · rw [if_neg hpp] at hp
      obtain ⟨m, hm, he, hk3⟩ := h.par n hn hpp
      have hne : n.path ≠ [] := fun e => by rw [e] at hpp; exact hpp parentP_nil
      rcases List.mem_cons.1 hp with rfl | hp
      · exact ⟨m, hm, he, hk3⟩
      · exact ih m hm (by rw [he]; have := parentP_lt hne; omega) p (by rw [he]; exact hp)
theorem Sheet.above {t : List Rec} (h : Sheet t) {n : Rec} (hn : n ∈ t) {p : List UInt8} (hb : belowP n.path p = true) : ∃ m ∈ t, m.path = p ∧ m.kind = 3 :=
  h.up _ n hn (Nat.le_refl _) p (below_ancs (recFault_path (h.ok n hn)) hb)
theorem rise_filter {α : Type} (f : α → List UInt8) (q : α → Bool) {l : List α} (h : Rise (l.map f)) : Rise ((l.filter q).map f) :=
  List.Pairwise.sublist (List.Sublist.map f List.filter_sublist) h
def showR (r : Rec) : Option Nd := if r.kind = 4 then none else some (ndOf r)
theorem recFault_parts (r : Rec) : recFault r = 0 ↔ within r.kind 1 4 = true ∧ pathOK r.path = true ∧ (decide (20 < r.body.length) || (decide (r.kind = 2) && decide (r.body = []))) = false ∧
    (((decide (r.kind = 3) || decide (r.kind = 4)) && !decide (r.body = [])) || (!decide (r.kind = 3) && r.opq)) = false ∧ (!within r.mode 0 511 || ((decide (r.kind = 2) || decide (r.kind = 4)) && !decide (r.mode = 0))) = false := by
  unfold recFault
  generalize (!within r.mode 0 511 || ((decide (r.kind = 2) || decide (r.kind = 4)) && !decide (r.mode = 0))) = c5
  generalize (((decide (r.kind = 3) || decide (r.kind = 4)) && !decide (r.body = [])) || (!decide (r.kind = 3) && r.opq)) = c4
  generalize (decide (20 < r.body.length) || (decide (r.kind = 2) && decide (r.body = []))) = c3
  cases within r.kind 1 4 <;> cases pathOK r.path <;> cases c3 <;> cases c4 <;> cases c5 <;> simp
theorem recFault_flag {r : Rec} (h : recFault r = 0) (b : Bool) (hb : b = true → r.kind = 3) : recFault ⟨r.kind, r.path, r.body, r.mode, b⟩ = 0 := by
  obtain ⟨h1, h2, h3, h4, h5⟩ := (recFault_parts r).1 h
  refine (recFault_parts _).2 ⟨h1, h2, h3, ?_, h5⟩
  rw [Bool.or_eq_false_iff] at h4 ⊢
  refine ⟨h4.1, ?_⟩
  cases b with
  | false => simp
  | true => simp [hb rfl]
theorem cutsR_iff (l : List Rec) (p : List UInt8) : cutsR l p = true ↔ ∃ x ∈ ancs p, ∃ r, lookR l x = some r ∧ stopsR r = true := by
  unfold cutsR
  rw [List.any_eq_true]
  constructor
  · rintro ⟨x, hx, h⟩
    rw [Bool.and_eq_true, decide_eq_true_eq] at h
    cases hl : lookR l x with
    | none => exact absurd hl ((findR_look l x).1.1 h.1)
    | some r =>
      rw [(findR_look l x).2 r hl] at h
      exact ⟨x, hx, r, hl, h.2⟩
  · rintro ⟨x, hx, r, hl, h⟩
    refine ⟨x, hx, ?_⟩
    rw [Bool.and_eq_true, decide_eq_true_eq, (findR_look l x).2 r hl]
    exact ⟨(findR_look l x).1.2 (by rw [hl]; simp), h⟩
theorem underO_iff (l : List Rec) (p : List UInt8) : underO l p = true ↔ ∃ x ∈ ancs p, ∃ r, lookR l x = some r ∧ r.opq = true := by
  unfold underO
  rw [List.any_eq_true]
  constructor
  · rintro ⟨x, hx, h⟩
    rw [Bool.and_eq_true, decide_eq_true_eq] at h
    cases hl : lookR l x with
    | none => exact absurd hl ((findR_look l x).1.1 h.1)
    | some r =>
      rw [(findR_look l x).2 r hl] at h
      exact ⟨x, hx, r, hl, h.2⟩
  · rintro ⟨x, hx, r, hl, h⟩
    refine ⟨x, hx, ?_⟩
    rw [Bool.and_eq_true, decide_eq_true_eq, (findR_look l x).2 r hl]
    exact ⟨(findR_look l x).1.2 (by rw [hl]; simp), h⟩
theorem lookR_paths {l : List Rec} {p : List UInt8} : lookR l p ≠ none ↔ p ∈ l.map (·.path) := (mem_look (fun r : Rec => r.path)).symm
theorem list_snoc {α : Type} : ∀ (n : Nat) (l : List α), l.length = n + 1 → ∃ m x, l = m ++ [x] ∧ m.length = n := by
  intro n l h
  have hne : l ≠ [] := fun e => by rw [e] at h; cases h
  exact ⟨l.dropLast, l.getLast hne, (List.dropLast_concat_getLast hne).symm, by simp; omega⟩
/-! ### the walks of applying -/
theorem Sheet.take {l : List Rec} (h : Sheet l) (i : Nat) : Sheet (l.take i) := by
  refine ⟨rise_take (fun r : Rec => r.path) h.rise i, fun r hr => h.ok r (List.mem_of_mem_take hr), fun r hr hp => ?_⟩
  obtain ⟨q, hq, e, hk⟩ := h.par r (List.mem_of_mem_take hr) hp
  obtain ⟨j, hj, rfl⟩ := List.mem_take_iff_getElem.1 hr
  have hjl : j < l.length := by omega
  have hlt : ltP q.path (l.getD j default).path = true := by rw [e, getD_el hjl]; exact ltP_parent hp
  have hq2 := idx_lt (fun r : Rec => r.path) h.rise hjl hq hlt
  refine ⟨q, ?_, e, hk⟩
  have : l.take j = (l.take i).take j := by rw [List.take_take, Nat.min_eq_left (by omega)]
  rw [this] at hq2
  exact List.mem_of_mem_take hq2
/-! ### a node added -/
end Go.UL
