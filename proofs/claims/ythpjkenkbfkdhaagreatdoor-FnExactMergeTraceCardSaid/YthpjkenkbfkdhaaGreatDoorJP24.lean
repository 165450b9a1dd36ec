/- Plain Lean: what the functions compute. -/
import Derived.Test.YthpjkenkbfkdhaaGreatDoorJP23
set_option linter.unusedVariables false
set_option linter.unusedSimpArgs false
namespace Go.UL
open Go.RowKit
/-! ### what is above and below, by parts -/
theorem cut_app2 : ∀ (p t : List UInt8), cut 47 (p ++ 47 :: t) = cut 47 p ++ cut 47 t := by
  intro p t
  induction p with
  | nil => rw [List.nil_append, cut_cons_eq slash_bn]; rfl
  | cons b p ih =>
    rw [List.cons_append]
    by_cases h : bn b = 47
    · rw [cut_cons_eq h, cut_cons_eq h, ih]; rfl
    · rw [cut_cons_ne h, cut_cons_ne h, ih]
      cases hc : cut 47 p with
      | nil => exact absurd hc (cut_ne _ _)
      | cons x l => rfl
theorem below_iff (q p : List UInt8) : belowP q p = true ↔ ∃ r, r ≠ [] ∧ cut 47 q = cut 47 p ++ r := by
  unfold belowP
  rw [List.isPrefixOf_iff_prefix]
  constructor
  · rintro ⟨t, rfl⟩
    refine ⟨cut 47 t, cut_ne _ _, ?_⟩
    rw [List.append_assoc, List.singleton_append, cut_app2]
  · rintro ⟨r, hr, h⟩
    refine ⟨joinL r, ?_⟩
    have hf : ∀ x ∈ cut 47 p ++ r, ∀ b ∈ x, bn b ≠ 47 := by rw [← h]; exact cut_parts q
    apply cut_inj
    rw [List.append_assoc, List.singleton_append, cut_app2, h, cut_joinL hr fun x hx => hf x (List.mem_append_right _ hx)]
theorem lessL_app : ∀ (a r : List (List UInt8)), r ≠ [] → lessL a (a ++ r) = true := by
  intro a r hr
  induction a with
  | nil => cases r with
    | nil => exact absurd rfl hr
    | cons x r => rfl
  | cons x a ih => simp [lessL, ih]
theorem ltP_below {q p : List UInt8} (h : belowP q p = true) : ltP p q = true := by
  obtain ⟨r, hr, e⟩ := (below_iff q p).1 h
  unfold ltP; rw [e]; exact lessL_app _ _ hr
theorem cut_parent {t : List UInt8} (h : parentP t ≠ []) : cut 47 (parentP t) = (cut 47 t).dropLast := by
  rw [parentP_cut] at h ⊢
  refine cut_joinL (fun e => h (by rw [e]; rfl)) fun x hx => cut_parts t x (List.dropLast_subset _ hx)
theorem below_parent {t : List UInt8} (h : parentP t ≠ []) : belowP t (parentP t) = true := by
  refine (below_iff _ _).2 ⟨[(cut 47 t).getLast (cut_ne _ _)], by simp, ?_⟩
  rw [cut_parent h, List.dropLast_concat_getLast]
theorem ltP_parent {t : List UInt8} (h : parentP t ≠ []) : ltP (parentP t) t = true := ltP_below (below_parent h)
theorem below_ancs {t x : List UInt8} (ht : pathOK t = true) (h : belowP t x = true) : x ∈ ancs t := by
  obtain ⟨r, hr, e⟩ := (below_iff t x).1 h
  rw [ancs_cut ht, List.mem_reverse, List.mem_map]
  have hl : 0 < (cut 47 x).length := List.length_pos_iff.2 (cut_ne _ _)
  have hrl : 0 < r.length := List.length_pos_iff.2 hr
  refine ⟨(cut 47 x).length - 1, List.mem_range.2 ?_, ?_⟩
  · rw [e, List.length_append]; omega
  · rw [e, show (cut 47 x).length - 1 + 1 = (cut 47 x).length by omega, List.take_left, joinL_cut]
end Go.UL
