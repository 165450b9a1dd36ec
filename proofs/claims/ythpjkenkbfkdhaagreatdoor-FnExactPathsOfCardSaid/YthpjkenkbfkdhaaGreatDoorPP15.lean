/- Plain Lean: what the functions compute. -/
import Derived.Test.YthpjkenkbfkdhaaGreatDoorPP14
set_option linter.unusedVariables false
set_option linter.unusedSimpArgs false
namespace Go.UL
open Go.RowKit
/-! ### nodes that are found -/
/-! ### paths and their parts -/
theorem preL_cons (p x : List UInt8) (l : List (List UInt8)) : preL p (x :: l) = (p ++ x) :: l := rfl
theorem cut_cons_ne {b : UInt8} {l : List UInt8} (h : bn b ≠ 47) : cut 47 (b :: l) = preL [b] (cut 47 l) := by rw [cut, if_neg h]
theorem cut_cons_eq {b : UInt8} {l : List UInt8} (h : bn b = 47) : cut 47 (b :: l) = [] :: cut 47 l := by rw [cut, if_pos h]
/-- A text is its parts with strokes between. -/
def joinL : List (List UInt8) → List UInt8
  | [] => []
  | [x] => x
  | x :: y :: l => x ++ 47 :: joinL (y :: l)
theorem joinL_cons (x : List UInt8) {l : List (List UInt8)} (h : l ≠ []) : joinL (x :: l) = x ++ 47 :: joinL l := by
  cases l with
  | nil => exact absurd rfl h
  | cons y l => rfl
theorem joinL_preL (p : List UInt8) (l : List (List UInt8)) (h : l ≠ []) : joinL (preL p l) = p ++ joinL l := by
  cases l with
  | nil => exact absurd rfl h
  | cons x l =>
    rw [preL_cons]
    cases l with
    | nil => rfl
    | cons y l => simp [joinL]
theorem joinL_cut (t : List UInt8) : joinL (cut 47 t) = t := by
  induction t with
  | nil => rfl
  | cons b l ih =>
    by_cases h : bn b = 47
    · have hb : b = 47 := by
        apply UInt8.toNat.inj
        show b.toNat = 47
        unfold bn at h; omega
      rw [cut_cons_eq h, joinL_cons _ (cut_ne 47 l), ih, hb]; rfl
    · rw [cut_cons_ne h, joinL_preL _ _ (cut_ne 47 l), ih]; rfl
theorem cut_inj {a b : List UInt8} (h : cut 47 a = cut 47 b) : a = b := by rw [← joinL_cut a, ← joinL_cut b, h]
end Go.UL
