/- Plain Lean: what the functions compute. -/
import Derived.Test.YtfefjaohlhkmaaaDoorpP23
set_option linter.unusedVariables false
set_option linter.unusedSimpArgs false
namespace Go.UL
open Go.RowKit
/-! ### what is above and below, by parts -/
theorem cut_app2 : ∀ (p t : List UInt8), cut 47 (p ++ 47 :: t) = cut 47 p ++ cut 47 t := by
  intro p t
  induction p with
  | nil => rw [List.nil_append, cut_cons_eq slash_bn]; rfl
  | cons b p ih =>
    rw [List.cons_append]
    by_cases h : bn b = 47
    · rw [cut_cons_eq h, cut_cons_eq h, ih]; rfl
    · rw [cut_cons_ne h, cut_cons_ne h, ih]
      cases hc : cut 47 p with
      | nil => exact absurd hc (cut_ne _ _)
      | cons x l => rfl
theorem below_iff (q p : List UInt8) : belowP q p = true ↔ ∃ r, r ≠ [] ∧ cut 47 q = cut 47 p ++ r := by
  unfold belowP
  rw [List.isPrefixOf_iff_prefix]
  constructor
  · rintro ⟨t, rfl⟩
    refine ⟨cut 47 t, cut_ne _ _, ?_⟩
    rw [List.append_assoc, List.singleton_append, cut_app2]
  · rintro ⟨r, hr, h⟩
    refine ⟨joinL r, ?_⟩
    have hf : ∀ x ∈ cut 47 p ++ r, ∀ b ∈ x, bn b ≠ 47 := by rw [← h]; exact cut_parts q
    apply cut_inj
    rw [List.append_assoc, List.singleton_append, cut_app2, h, cut_joinL hr fun x hx => hf x (List.mem_append_right _ hx)]
theorem lessL_app : ∀ (a r : List (List UInt8)), r ≠ [] → lessL a (a ++ r) = true := by
  intro a r hr
  induction a with
  | nil => cases r with
    | nil => exact absurd rfl hr
    | cons x r => rfl
  | cons x a ih => simp [lessL, ih]
theorem ltP_below {q p : List UInt8} (h : belowP q p = true) : ltP p q = true := by
  obtain ⟨r, hr, e⟩ := (below_iff q p).1 h
  unfold ltP; rw [e]; exact lessL_app _ _ hr
theorem below_ne {q p : List UInt8} (h : belowP q p = true) : q ≠ p := fun e => ltP_ne (ltP_below h) e.symm
theorem below_irrefl (p : List UInt8) : belowP p p = false := by
  rcases bool_two (belowP p p) with h | h
  · exact absurd rfl (below_ne h)
  · exact h
theorem below_trans {a b c : List UInt8} (h1 : belowP a b = true) (h2 : belowP b c = true) : belowP a c = true := by
  obtain ⟨r, hr, e⟩ := (below_iff a b).1 h1
  obtain ⟨s, hs, f⟩ := (below_iff b c).1 h2
  refine (below_iff a c).2 ⟨s ++ r, by simp [hr], ?_⟩
  rw [e, f, List.append_assoc]
theorem below_asymm {a b : List UInt8} (h : belowP a b = true) : belowP b a = false := by
  rcases bool_two (belowP b a) with h1 | h1
  · exact absurd (below_trans h h1) (by rw [below_irrefl]; simp)
  · exact h1
/-- What lies between a path and something below it is below it. -/
theorem lessL_mid : ∀ (p r x : List (List UInt8)), lessL p x = true → lessL x (p ++ r) = true → ∃ s, s ≠ [] ∧ x = p ++ s := by
  intro p r
  induction p with
  | nil =>
    intro x h1 _
    cases x with
    | nil => cases h1
    | cons y x => exact ⟨y :: x, by simp, rfl⟩
  | cons a p ih =>
    intro x h1 h2
    cases x with
    | nil => cases h1
    | cons y x =>
      by_cases e : a = y
      · subst e
        simp only [lessL, if_true, List.cons_append] at h1 h2
        obtain ⟨s, hs, rfl⟩ := ih x h1 h2
        exact ⟨s, hs, rfl⟩
      · simp only [lessL, List.cons_append, if_neg e, if_neg (Ne.symm e)] at h1 h2
        have := lt8_trans h1 h2
        rw [lt8_irrefl] at this; cases this
theorem below_mid {p x q : List UInt8} (h1 : ltP p x = true) (h2 : ltP x q = true) (h3 : belowP q p = true) : belowP x p = true := by
  obtain ⟨r, _, e⟩ := (below_iff q p).1 h3
  unfold ltP at h1 h2
  rw [e] at h2
  obtain ⟨s, hs, f⟩ := lessL_mid _ _ _ h1 h2
  exact (below_iff x p).2 ⟨s, hs, f⟩
theorem cut_parent {t : List UInt8} (h : parentP t ≠ []) : cut 47 (parentP t) = (cut 47 t).dropLast := by
  rw [parentP_cut] at h ⊢
  refine cut_joinL (fun e => h (by rw [e]; rfl)) fun x hx => cut_parts t x (List.dropLast_subset _ hx)
theorem below_parent {t : List UInt8} (h : parentP t ≠ []) : belowP t (parentP t) = true := by
  refine (below_iff _ _).2 ⟨[(cut 47 t).getLast (cut_ne _ _)], by simp, ?_⟩
  rw [cut_parent h, List.dropLast_concat_getLast]
theorem ltP_parent {t : List UInt8} (h : parentP t ≠ []) : ltP (parentP t) t = true := ltP_below (below_parent h)
theorem pathOK_below {t x : List UInt8} (ht : pathOK t = true) (h : belowP t x = true) : pathOK x = true := by
  obtain ⟨r, hr, e⟩ := (below_iff t x).1 h
  have hrl : 0 < r.length := List.length_pos_iff.2 hr
  simp only [pathOK, Bool.and_eq_true, decide_eq_true_eq, e, List.all_append, List.length_append] at ht ⊢
  refine ⟨?_, by omega, ht.2.2.1⟩
  unfold belowP at h
  rw [List.isPrefixOf_iff_prefix] at h
  have := h.length_le
  simp at this; omega
theorem pathOK_parent {t : List UInt8} (ht : pathOK t = true) (h : parentP t ≠ []) : pathOK (parentP t) = true := pathOK_below ht (below_parent h)
end Go.UL
