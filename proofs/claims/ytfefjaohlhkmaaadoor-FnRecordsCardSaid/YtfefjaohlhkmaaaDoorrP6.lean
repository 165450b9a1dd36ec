/- Plain Lean: what the functions compute. -/
import Derived.Test.YtfefjaohlhkmaaaDoorrP5
set_option linter.unusedVariables false
set_option linter.unusedSimpArgs false
namespace Go.UL
open Go.RowKit
/-! ### what is above a path -/
/-- Where the last stroke stands, -1 if nowhere. -/
def lastSlash : List UInt8 → Int
  | [] => -1
  | b :: l => if lastSlash l = -1 then (if bn b = 47 then 0 else -1) else lastSlash l + 1
/-- What is above; empty of a path of one part. -/
def parentP (t : List UInt8) : List UInt8 := t.take (lastSlash t).toNat
end Go.UL
