/- Plain Lean: what the functions compute. -/
import Derived.Test.YthpjkenkbfkdhaaGreatDoorVP19
set_option linter.unusedVariables false
set_option linter.unusedSimpArgs false
namespace Go.UL
open Go.RowKit
theorem touchedL_len (a b : List Nd) : (touchedL a b).length ≤ a.length + b.length := by
  unfold touchedL pathsL
  refine Nat.le_trans (List.length_filter_le _ _) (Nat.le_trans (riseOf_len _) ?_)
  simp
theorem touchedOf_len (a b : List Nd) : (touchedOf a b).1.length ≤ a.length + b.length := by
  unfold touchedOf
  split
  · exact touchedL_len a b
  · simp

end Go.UL
