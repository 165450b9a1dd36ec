/- Plain Lean: what the functions compute. -/
import Derived.Test.YtfefjaohlhkmaaaDoorpP4
set_option linter.unusedVariables false
set_option linter.unusedSimpArgs false
namespace Go.UL
open Go.RowKit
/-! ### loops, once more -/
/-- Where the first stands that a test holds of, -1 if nowhere. -/
def findI {α : Type} (q : α → Bool) : List α → Int
  | [] => -1
  | x :: l => if q x then 0 else if findI q l = -1 then -1 else findI q l + 1
/-! ### made records -/
def zeroR : Rec := ⟨0, [], [], 0, false⟩
def made (r : Rec) : Rec × Int := if recFault r = 0 then (r, 0) else (zeroR, recFault r)
end Go.UL
