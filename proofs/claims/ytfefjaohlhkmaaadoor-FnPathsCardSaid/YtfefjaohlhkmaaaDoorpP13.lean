/- Plain Lean: what the functions compute. -/
import Derived.Test.YtfefjaohlhkmaaaDoorpP12
set_option linter.unusedVariables false
set_option linter.unusedSimpArgs false
namespace Go.UL
open Go.RowKit
/-! ### right layers -/
/-! ### the canonical form -/
def canonR (l : List Rec) (r : Rec) : Option Rec :=
  if underO l r.path then (if r.kind = 4 then none else some ⟨r.kind, r.path, r.body, r.mode, false⟩) else some ⟨r.kind, r.path, r.body, r.mode, r.opq && decide ((cut 47 r.path).length < 4)⟩
def canonL (l : List Rec) : List Rec := l.filterMap (canonR l)
/-! ### two layers -/
/-! ### trees as layers -/
/-! ### marks -/
end Go.UL
