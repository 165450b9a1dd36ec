/- Plain Lean: what the functions compute. -/
import Derived.Test.YtfefjaohlhkmaaaDoorpP24
set_option linter.unusedVariables false
set_option linter.unusedSimpArgs false
namespace Go.UL
open Go.RowKit
/-! ### trees however great, and layers on them -/
/-- A tree without a bound. -/
structure Wood (t : List Nd) : Prop where
  rise : Rise (t.map (·.path))
  ok : ∀ n ∈ t, nodeOK n = true
  par : ∀ n ∈ t, parentP n.path ≠ [] → ∃ m ∈ t, m.path = parentP n.path ∧ m.kind = 3
/-- Records in order, each below directories. -/
structure Sheet (l : List Rec) : Prop where
  rise : Rise (l.map (·.path))
  ok : ∀ r ∈ l, recFault r = 0
  par : ∀ r ∈ l, parentP r.path ≠ [] → ∃ q ∈ l, q.path = parentP r.path ∧ q.kind = 3
abbrev lookT (t : List Nd) (p : List UInt8) : Option Nd := lookF (fun n : Nd => n.path) t p
abbrev lookR (l : List Rec) (p : List UInt8) : Option Rec := lookF (fun r : Rec => r.path) l p
theorem lookR_some {l : List Rec} {p : List UInt8} {r : Rec} (h : lookR l p = some r) : r ∈ l ∧ r.path = p := lookF_some _ h
def showR (r : Rec) : Option Nd := if r.kind = 4 then none else some (ndOf r)
end Go.UL
