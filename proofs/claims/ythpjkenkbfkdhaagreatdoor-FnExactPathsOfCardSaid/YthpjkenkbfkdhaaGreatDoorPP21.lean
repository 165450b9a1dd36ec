/- Plain Lean: what the functions compute. -/
import Derived.Test.YthpjkenkbfkdhaaGreatDoorPP20
set_option linter.unusedVariables false
set_option linter.unusedSimpArgs false
namespace Go.UL
open Go.RowKit
/-! ### lists by paths, whatever stands at them -/
section
variable {α : Type} (f : α → List UInt8)
def lookF (l : List α) (p : List UInt8) : Option α := l.find? fun x => decide (f x = p)
end
section
variable {α : Type} (f : α → List UInt8) (hl hu : α → Option α) (hb : α → α → Option α)
end
/-! ### two layers as one -/
end Go.UL
