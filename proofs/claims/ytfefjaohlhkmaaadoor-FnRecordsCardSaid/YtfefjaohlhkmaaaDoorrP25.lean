/- Plain Lean: what the functions compute. -/
import Derived.Test.YtfefjaohlhkmaaaDoorrP24
set_option linter.unusedVariables false
set_option linter.unusedSimpArgs false
namespace Go.UL
open Go.RowKit
/-! ### trees however great, and layers on them -/
/-- A tree without a bound. -/
structure Wood (t : List Nd) : Prop where
  rise : Rise (t.map (·.path))
  ok : ∀ n ∈ t, nodeOK n = true
  par : ∀ n ∈ t, parentP n.path ≠ [] → ∃ m ∈ t, m.path = parentP n.path ∧ m.kind = 3
/-- Records in order, each below directories. -/
structure Sheet (l : List Rec) : Prop where
  rise : Rise (l.map (·.path))
  ok : ∀ r ∈ l, recFault r = 0
  par : ∀ r ∈ l, parentP r.path ≠ [] → ∃ q ∈ l, q.path = parentP r.path ∧ q.kind = 3
abbrev lookT (t : List Nd) (p : List UInt8) : Option Nd := lookF (fun n : Nd => n.path) t p
abbrev lookR (l : List Rec) (p : List UInt8) : Option Rec := lookF (fun r : Rec => r.path) l p
theorem lookR_some {l : List Rec} {p : List UInt8} {r : Rec} (h : lookR l p = some r) : r ∈ l ∧ r.path = p := lookF_some _ h
def showR (r : Rec) : Option Nd := if r.kind = 4 then none else some (ndOf r)
theorem recFault_parts (r : Rec) : recFault r = 0 ↔ within r.kind 1 4 = true ∧ pathOK r.path = true ∧ (decide (20 < r.body.length) || (decide (r.kind = 2) && decide (r.body = []))) = false ∧
    (((decide (r.kind = 3) || decide (r.kind = 4)) && !decide (r.body = [])) || (!decide (r.kind = 3) && r.opq)) = false ∧ (!within r.mode 0 511 || ((decide (r.kind = 2) || decide (r.kind = 4)) && !decide (r.mode = 0))) = false := by
  unfold recFault
  generalize (!within r.mode 0 511 || ((decide (r.kind = 2) || decide (r.kind = 4)) && !decide (r.mode = 0))) = c5
  generalize (((decide (r.kind = 3) || decide (r.kind = 4)) && !decide (r.body = [])) || (!decide (r.kind = 3) && r.opq)) = c4
  generalize (decide (20 < r.body.length) || (decide (r.kind = 2) && decide (r.body = []))) = c3
  cases within r.kind 1 4 <;> cases pathOK r.path <;> cases c3 <;> cases c4 <;> cases c5 <;> simp
end Go.UL
