/- Plain Lean: what the functions compute. -/
import Derived.Test.YtfefjaohlhkmaaaDoorpP14
set_option linter.unusedVariables false
set_option linter.unusedSimpArgs false
namespace Go.UL
open Go.RowKit
/-! ### nodes that are found -/
/-! ### paths and their parts -/
theorem preL_cons (p x : List UInt8) (l : List (List UInt8)) : preL p (x :: l) = (p ++ x) :: l := rfl
theorem cut_cons_ne {b : UInt8} {l : List UInt8} (h : bn b ≠ 47) : cut 47 (b :: l) = preL [b] (cut 47 l) := by rw [cut, if_neg h]
theorem cut_cons_eq {b : UInt8} {l : List UInt8} (h : bn b = 47) : cut 47 (b :: l) = [] :: cut 47 l := by rw [cut, if_pos h]
theorem slash_bn : bn (47 : UInt8) = 47 := rfl
/-- A text is its parts with strokes between. -/
def joinL : List (List UInt8) → List UInt8
  | [] => []
  | [x] => x
  | x :: y :: l => x ++ 47 :: joinL (y :: l)
theorem joinL_cons (x : List UInt8) {l : List (List UInt8)} (h : l ≠ []) : joinL (x :: l) = x ++ 47 :: joinL l := by
  cases l with
  | nil => exact absurd rfl h
  | cons y l => rfl
theorem joinL_preL (p : List UInt8) (l : List (List UInt8)) (h : l ≠ []) : joinL (preL p l) = p ++ joinL l := by
  cases l with
  | nil => exact absurd rfl h
  | cons x l =>
    rw [preL_cons]
    cases l with
    | nil => rfl
    | cons y l => simp [joinL]
theorem joinL_cut (t : List UInt8) : joinL (cut 47 t) = t := by
  induction t with
  | nil => rfl
  | cons b l ih =>
    by_cases h : bn b = 47
    · have hb : b = 47 := by
        apply UInt8.toNat.inj
        show b.toNat = 47
        unfold bn at h; omega
      rw [cut_cons_eq h, joinL_cons _ (cut_ne 47 l), ih, hb]; rfl
    · rw [cut_cons_ne h, joinL_preL _ _ (cut_ne 47 l), ih]; rfl
theorem cut_free {x : List UInt8} (h : ∀ b ∈ x, bn b ≠ 47) : cut 47 x = [x] := by
  induction x with
  | nil => rfl
  | cons b l ih =>
    rw [cut_cons_ne (h b (by simp)), ih (fun c hc => h c (by simp [hc]))]; rfl
theorem cut_app {x t : List UInt8} (h : ∀ b ∈ x, bn b ≠ 47) : cut 47 (x ++ 47 :: t) = x :: cut 47 t := by
  induction x with
  | nil => exact cut_cons_eq slash_bn
  | cons b l ih =>
    rw [List.cons_append, cut_cons_ne (h b (by simp)), ih (fun c hc => h c (by simp [hc]))]; rfl
theorem cut_parts (t : List UInt8) : ∀ x ∈ cut 47 t, ∀ b ∈ x, bn b ≠ 47 := by
  induction t with
  | nil => intro x hx; simp [cut] at hx; subst hx; simp
  | cons b l ih =>
    by_cases h : bn b = 47
    · rw [cut_cons_eq h]
      intro x hx
      rcases List.mem_cons.1 hx with rfl | hx
      · simp
      · exact ih x hx
    · rw [cut_cons_ne h]
      cases hc : cut 47 l with
      | nil => exact absurd hc (cut_ne 47 l)
      | cons y r =>
        rw [hc] at ih
        rw [preL_cons]
        intro x hx
        rcases List.mem_cons.1 hx with rfl | hx
        · intro c hcx
          rcases List.mem_append.1 hcx with h2 | h2
          · simp at h2; subst h2; exact h
          · exact ih y (by simp) c h2
        · exact ih x (by simp [hx])
/-- Texts are their parts: lists of texts without strokes. -/
theorem cut_joinL {l : List (List UInt8)} (hn : l ≠ []) (h : ∀ x ∈ l, ∀ b ∈ x, bn b ≠ 47) : cut 47 (joinL l) = l := by
  induction l with
  | nil => exact absurd rfl hn
  | cons x l ih =>
    by_cases hl : l = []
    · subst hl; exact cut_free (h x (by simp))
    · rw [joinL_cons x hl, cut_app (h x (by simp)), ih hl (fun y hy => h y (by simp [hy]))]
theorem cut_inj {a b : List UInt8} (h : cut 47 a = cut 47 b) : a = b := by rw [← joinL_cut a, ← joinL_cut b, h]
theorem lastSlash_app (x t : List UInt8) (ht : ∀ b ∈ t, bn b ≠ 47) : lastSlash (x ++ 47 :: t) = x.length := by
  apply lastSlash_of (by simp) (by simp [List.getD_eq_getElem?_getD]; exact slash_bn)
  intro j h1 h2
  obtain ⟨m, rfl⟩ : ∃ m, j = x.length + 1 + m := ⟨j - x.length - 1, by omega⟩
  have h3 : m < t.length := by simp at h2; omega
  have : (x ++ 47 :: t).getD (x.length + 1 + m) 0 = t[m] := by
    have e : x.length + 1 + m - x.length = m + 1 := by omega
    rw [List.getD_eq_getElem?_getD, List.getElem?_append_right (by omega), e, List.getElem?_cons_succ, List.getElem?_eq_getElem h3]; rfl
  rw [this]
  exact ht _ (List.getElem_mem h3)
theorem joinL_append {l : List (List UInt8)} (x : List UInt8) (h : l ≠ []) : joinL (l ++ [x]) = joinL l ++ 47 :: x := by
  induction l with
  | nil => exact absurd rfl h
  | cons y l ih =>
    by_cases hl : l = []
    · subst hl; rfl
    · rw [List.cons_append, joinL_cons y (by simp), ih hl, joinL_cons y hl]; simp
/-- What is above a path has one part less. -/
theorem parentP_joinL {l : List (List UInt8)} {x : List UInt8} (h : ∀ y ∈ l ++ [x], ∀ b ∈ y, bn b ≠ 47) : parentP (joinL (l ++ [x])) = joinL l := by
  by_cases hl : l = []
  · subst hl
    have : lastSlash x = -1 := lastSlash_no fun j hj => h x (by simp) _ (by rw [List.getD_eq_getElem?_getD, List.getElem?_eq_getElem hj]; exact List.getElem_mem hj)
    simp [parentP, joinL, this]
  · rw [joinL_append x hl, parentP, lastSlash_app _ _ (fun b hb => h x (by simp) b hb)]
    simp
theorem parentP_cut (t : List UInt8) : parentP t = joinL (cut 47 t).dropLast := by
  obtain ⟨l, x, hlx⟩ : ∃ l x, cut 47 t = l ++ [x] := ⟨(cut 47 t).dropLast, (cut 47 t).getLast (cut_ne 47 t), (List.dropLast_concat_getLast (cut_ne 47 t)).symm⟩
  have hp := cut_parts t
  have := parentP_joinL (l := l) (x := x) (by rw [← hlx]; exact hp)
  rw [hlx, List.dropLast_concat, ← this, ← hlx, joinL_cut]
/-- The parts of a path are right ones, none of them empty. -/
theorem pathOK_parts {t : List UInt8} (h : pathOK t = true) : ∀ x ∈ cut 47 t, x ≠ [] := by
  simp only [pathOK, Bool.and_eq_true, decide_eq_true_eq, List.all_eq_true] at h
  intro x hx he
  have := h.2.2 x hx
  rw [he] at this
  revert this; decide
theorem joinL_ne {l : List (List UInt8)} (h : l ≠ []) (hp : ∀ x ∈ l, x ≠ []) : joinL l ≠ [] := by
  cases l with
  | nil => exact absurd rfl h
  | cons x l =>
    have := hp x (by simp)
    cases l with
    | nil => simpa [joinL] using this
    | cons y l => simp [joinL]
theorem joinP_joinL {l : List (List UInt8)} (x : List UInt8) (hp : ∀ y ∈ l, y ≠ []) : joinP (joinL l) x = joinL (l ++ [x]) := by
  by_cases hl : l = []
  · subst hl; simp [joinP, joinL]
  · rw [joinP, if_neg (joinL_ne hl hp), joinL_append x hl]; simp
end Go.UL
