/- Plain Lean: what the functions compute. -/
import Derived.Test.YtfefjaohlhkmaaaDoorrP18
set_option linter.unusedVariables false
set_option linter.unusedSimpArgs false
namespace Go.UL
open Go.RowKit
/-! ### the order of paths -/
def ltP (a b : List UInt8) : Bool := lessL (cut 47 a) (cut 47 b)
/-- Rising strictly. -/
def Rise (l : List (List UInt8)) : Prop := l.Pairwise fun a b => ltP a b = true
/-! ### two sorted trees side by side -/
/-! ### the paths of layers -/
end Go.UL
