/- Plain Lean: what the functions compute. -/
import Derived.Test.YtfefjaohlhkmaaaDoorpP6
set_option linter.unusedVariables false
set_option linter.unusedSimpArgs false
namespace Go.UL
open Go.RowKit
/-! ### layers: sizes, copies, places -/
/-- Where the record of a path stands, -1 if nowhere. -/
def findR (l : List Rec) (p : List UInt8) : Int := findI (fun r => decide (r.path = p)) l
end Go.UL
