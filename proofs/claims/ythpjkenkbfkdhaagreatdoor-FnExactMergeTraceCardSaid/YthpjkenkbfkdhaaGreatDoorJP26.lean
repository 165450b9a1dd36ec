/- Plain Lean: what the functions compute. -/
import Derived.Test.YthpjkenkbfkdhaaGreatDoorJP25
set_option linter.unusedVariables false
set_option linter.unusedSimpArgs false
namespace Go.UL
open Go.RowKit
/-! ### the walks of applying -/
theorem Sheet.take {l : List Rec} (h : Sheet l) (i : Nat) : Sheet (l.take i) := by
  refine ⟨rise_take (fun r : Rec => r.path) h.rise i, fun r hr => h.ok r (List.mem_of_mem_take hr), fun r hr hp => ?_⟩
  obtain ⟨q, hq, e, hk⟩ := h.par r (List.mem_of_mem_take hr) hp
  obtain ⟨j, hj, rfl⟩ := List.mem_take_iff_getElem.1 hr
  have hjl : j < l.length := by omega
  have hlt : ltP q.path (l.getD j default).path = true := by rw [e, getD_el hjl]; exact ltP_parent hp
  have hq2 := idx_lt (fun r : Rec => r.path) h.rise hjl hq hlt
  refine ⟨q, ?_, e, hk⟩
  have : l.take j = (l.take i).take j := by rw [List.take_take, Nat.min_eq_left (by omega)]
  rw [this] at hq2
  exact List.mem_of_mem_take hq2
end Go.UL
