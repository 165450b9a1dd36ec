/- Plain Lean: what the functions compute. -/
import Derived.Test.YtfefjaohlhkmaaaDoorpP30
set_option linter.unusedVariables false
set_option linter.unusedSimpArgs false
namespace Go.UL
open Go.RowKit
/-! ### what a layer makes of each path: the canonical form is told by that alone -/
def viewR (l : List Rec) (p : List UInt8) : Option (Option Nd) := match lookR l p with
  | some r => some (showR r)
  | none => if cutsR l p then some none else none
theorem Sheet.path {l : List Rec} (hs : Sheet l) {p : List UInt8} {r : Rec} (h : lookR l p = some r) : pathOK p = true := by
  obtain ⟨h1, h2⟩ := lookR_some h
  rw [← h2]; exact recFault_path (hs.ok r h1)
/-! a name that is free -/
set_option linter.unusedSectionVars false
section
variable {a b : List Rec} (ha : Sheet a) (hb : Sheet b) (hlen : a.length + b.length < 256) (hv : ∀ p, pathOK p = true → viewR a p = viewR b p)
include ha hb hlen hv
end
end Go.UL
