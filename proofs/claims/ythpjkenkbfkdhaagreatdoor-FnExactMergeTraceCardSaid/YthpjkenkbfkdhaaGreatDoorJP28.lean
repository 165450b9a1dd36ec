/- Plain Lean: what the functions compute. -/
import Derived.Test.YthpjkenkbfkdhaaGreatDoorJP27
set_option linter.unusedVariables false
set_option linter.unusedSimpArgs false
namespace Go.UL
open Go.RowKit
/-! ### marks on stacks; stacks applied -/
def totL (xs : List (List Rec)) : Nat := (xs.map List.length).sum
theorem totL_cons (l : List Rec) (xs : List (List Rec)) : totL (l :: xs) = l.length + totL xs := by simp [totL]
theorem totL_le {xs : List (List Rec)} {B : Nat} (h : ∀ l ∈ xs, l.length ≤ B) : totL xs ≤ xs.length * B := by
  induction xs with
  | nil => simp [totL]
  | cons l xs ih =>
    have h1 := h l (by simp)
    have h2 := ih fun y hy => h y (by simp [hy])
    rw [totL_cons, List.length_cons, Nat.add_mul, Nat.one_mul]; omega
def marksSS : List (List Rec) → Int → List (List Rec)
  | [], _ => []
  | l :: t, k => marksR l.length k :: marksSS t (k + 5 * (l.length : Int))
theorem stackOK_of {xs : List (List Rec)} (h : stackOK xs = true) : xs.length ≤ 5 ∧ ∀ l ∈ xs, (layerFault l).2 = 0 := by
  unfold stackOK at h
  rw [Bool.and_eq_true, List.all_eq_true] at h
  exact ⟨of_decide_eq_true h.1, fun l hl => of_decide_eq_true (h.2 l hl)⟩
theorem stackCode_zero {a : List (List Rec)} (h : stackCode a = 0) : stackOK a = true := by
  unfold stackCode at h
  split at h
  · omega
  · split at h
    · omega
    · rename_i h2; simpa using h2
theorem tot_small {a : List (List Rec)} (h : a.length ≤ 1048576) (k : ∀ y ∈ a, y.length ≤ 1048576) : totL a ≤ 1099511627776 := by
  have h1 := totL_le k
  have : a.length * 1048576 ≤ 1048576 * 1048576 := Nat.mul_le_mul_right _ h
  omega

end Go.UL
