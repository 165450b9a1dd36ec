/- Plain Lean: what the functions compute. -/
import Derived.Test.YthpjkenkbfkdhaaGreatDoorPP11
set_option linter.unusedVariables false
set_option linter.unusedSimpArgs false
namespace Go.UL
open Go.RowKit
/-! ### lists that are collected -/
theorem getD_el {α : Type} [Inhabited α] {l : List α} {i : Nat} (h : i < l.length) : l.getD i default = l[i] := by simp [List.getD_eq_getElem?_getD, List.getElem?_eq_getElem h]
/-! ### what is above -/
theorem pathOK_small {p : List UInt8} (h : pathOK p = true) : p.length ≤ 1048576 := by have := pathOK_len h; omega

end Go.UL
