/- Plain Lean: what the functions compute. -/
import Derived.Test.YtfefjaohlhkmaaaDoorpP34
set_option linter.unusedVariables false
set_option linter.unusedSimpArgs false
namespace Go.UL
open Go.RowKit
/-! ### a tree of which two layers make different ones -/
/-! a name that is free: z and a number -/
/-! the tree that is told -/
set_option linter.unusedSectionVars false
section
variable {x y : List Rec} (hx : Sheet x) (hy : Sheet y) (cx : canonL x = x) (cy : canonL y = y) {p : List UInt8} (hp : pathOK p = true) (hlt : ∀ q, ltP q p = true → lookR x q = lookR y q)
include hx hy cx cy hp hlt
end
end Go.UL
