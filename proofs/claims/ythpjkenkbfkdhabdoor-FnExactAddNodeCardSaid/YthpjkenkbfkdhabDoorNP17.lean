/- Plain Lean: what the functions compute. -/
import Derived.Test.YthpjkenkbfkdhabDoorNP16
set_option linter.unusedVariables false
set_option linter.unusedSimpArgs false
namespace Go.UL
open Go.RowKit
/-! ### nodes taken out -/
theorem findI_first {α : Type} (q : α → Bool) : ∀ (l : List α) (i : Nat), findI q l = i → ∀ x ∈ l.take i, q x = false := by
  intro l
  induction l with
  | nil => intro i _ x hx; simp at hx
  | cons y l ih =>
    intro i h x hx
    simp only [findI] at h
    cases i with
    | zero => simp at hx
    | succ i =>
      rcases bool_two (q y) with hq | hq
      · simp only [hq, if_true] at h; omega
      · simp only [hq, Bool.false_eq_true, if_false] at h
        by_cases hm : findI q l = -1
        · simp only [hm, if_true] at h; omega
        · simp only [hm, if_false] at h
          rw [List.take_succ_cons] at hx
          rcases List.mem_cons.1 hx with rfl | hx
          · exact hq
          · exact ih i (by omega) x hx
theorem List.take_set_succ {α : Type} {l : List α} {i : Nat} {x : α} (h : i < l.length) : (l.set i x).take (i + 1) = l.take i ++ [x] := by
  rw [List.take_succ_eq_append_getElem (by simpa using h)]
  rw [List.take_set, List.set_eq_of_length_le (by simp; omega)]
  simp
def without (l : List Nd) (p : List UInt8) (self : Bool) : List Nd := l.filter fun x => !((decide (p = []) && !decide (x.path = [])) || belowP x.path p) && (!self || !decide (x.path = p))
theorem without_len (l : List Nd) (p : List UInt8) (b : Bool) : (without l p b).length ≤ l.length := List.length_filter_le _ _
theorem without_impl (l : List Nd) (p : List UInt8) : without l p true = l.filter fun x => !(decide (x.path = p) || (decide (p = []) || belowP x.path p)) := by
  unfold without
  congr 1
  funext x
  by_cases h1 : x.path = p
  · simp [h1]
  · by_cases h2 : p = []
    · subst h2
      simp [h1]
    · simp [h1, h2]
def removeNode (l : List Nd) (p : List UInt8) : List Nd × Int :=
  if askT l p ≠ 0 then ([], askT l p) else if !pathOK p then (l, 10) else if (findNd l p).2 ≠ 0 then (l, (findNd l p).2) else (without l p true, 0)
theorem removeNode_len (l : List Nd) (p : List UInt8) : (removeNode l p).1.length ≤ l.length := by
  have := without_len l p true
  unfold removeNode
  repeat (split; simp)
  exact this

end Go.UL
