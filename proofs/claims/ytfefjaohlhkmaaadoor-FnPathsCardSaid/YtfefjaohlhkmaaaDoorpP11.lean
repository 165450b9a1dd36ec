/- Plain Lean: what the functions compute. -/
import Derived.Test.YtfefjaohlhkmaaaDoorpP10
set_option linter.unusedVariables false
set_option linter.unusedSimpArgs false
namespace Go.UL
open Go.RowKit
/-! ### trees -/
def recOf (n : Nd) : Rec := ⟨n.kind, n.path, n.body, n.mode, false⟩
def ndOf (r : Rec) : Nd := ⟨r.kind, r.path, r.body, r.mode⟩
def nodeOK (n : Nd) : Bool := decide (recFault (recOf n) = 0) && !decide (n.kind = 4)
end Go.UL
