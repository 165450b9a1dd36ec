/- Plain Lean: what the functions compute. -/
import Derived.Test.YtfefjaohlhkmaaaDoorrP14
set_option linter.unusedVariables false
set_option linter.unusedSimpArgs false
namespace Go.UL
open Go.RowKit
/-! ### nodes that are found -/
/-! ### paths and their parts -/
theorem cut_cons_ne {b : UInt8} {l : List UInt8} (h : bn b ≠ 47) : cut 47 (b :: l) = preL [b] (cut 47 l) := by rw [cut, if_neg h]
theorem cut_cons_eq {b : UInt8} {l : List UInt8} (h : bn b = 47) : cut 47 (b :: l) = [] :: cut 47 l := by rw [cut, if_pos h]
theorem slash_bn : bn (47 : UInt8) = 47 := rfl
/-- A text is its parts with strokes between. -/
def joinL : List (List UInt8) → List UInt8
  | [] => []
  | [x] => x
  | x :: y :: l => x ++ 47 :: joinL (y :: l)
theorem joinL_cons (x : List UInt8) {l : List (List UInt8)} (h : l ≠ []) : joinL (x :: l) = x ++ 47 :: joinL l := by
  cases l with
  | nil => exact absurd rfl h
  | cons y l => rfl
theorem cut_free {x : List UInt8} (h : ∀ b ∈ x, bn b ≠ 47) : cut 47 x = [x] := by
  induction x with
  | nil => rfl
  | cons b l ih =>
    rw [cut_cons_ne (h b (by simp)), ih (fun c hc => h c (by simp [hc]))]; rfl
theorem cut_app {x t : List UInt8} (h : ∀ b ∈ x, bn b ≠ 47) : cut 47 (x ++ 47 :: t) = x :: cut 47 t := by
  induction x with
  | nil => exact cut_cons_eq slash_bn
  | cons b l ih =>
    rw [List.cons_append, cut_cons_ne (h b (by simp)), ih (fun c hc => h c (by simp [hc]))]; rfl
/-- Texts are their parts: lists of texts without strokes. -/
theorem cut_joinL {l : List (List UInt8)} (hn : l ≠ []) (h : ∀ x ∈ l, ∀ b ∈ x, bn b ≠ 47) : cut 47 (joinL l) = l := by
  induction l with
  | nil => exact absurd rfl hn
  | cons x l ih =>
    by_cases hl : l = []
    · subst hl; exact cut_free (h x (by simp))
    · rw [joinL_cons x hl, cut_app (h x (by simp)), ih hl (fun y hy => h y (by simp [hy]))]
theorem joinL_append {l : List (List UInt8)} (x : List UInt8) (h : l ≠ []) : joinL (l ++ [x]) = joinL l ++ 47 :: x := by
  induction l with
  | nil => exact absurd rfl h
  | cons y l ih =>
    by_cases hl : l = []
    · subst hl; rfl
    · rw [List.cons_append, joinL_cons y (by simp), ih hl, joinL_cons y hl]; simp
end Go.UL
