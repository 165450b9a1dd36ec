/- Plain Lean: what the functions compute. -/
import Derived.Test.YthpjkenkbfkdhaaGreatDoorJP21
set_option linter.unusedVariables false
set_option linter.unusedSimpArgs false
namespace Go.UL
open Go.RowKit
/-! ### two layers as one: the program's way and the reference's -/
/-- Right paths, strictly rising. -/
def sheetB (l : List Rec) : Bool := l.all (fun r => pathOK r.path) && decide (l.Pairwise fun a b => ltP a.path b.path = true)
theorem sheetB_path {l : List Rec} (h : sheetB l = true) : ∀ x ∈ l, pathOK x.path = true := by
  simp only [sheetB, Bool.and_eq_true] at h
  exact fun x hx => List.all_eq_true.1 h.1 x hx
theorem sheetB_mk {l : List Rec} (h1 : ∀ x ∈ l, pathOK x.path = true) (h2 : Rise (l.map (·.path))) : sheetB l = true := by
  simp only [sheetB, Bool.and_eq_true]
  exact ⟨List.all_eq_true.2 h1, decide_eq_true (List.pairwise_map.1 h2)⟩
end Go.UL
