/- Closed facts of the program, one by one. -/
import Derived.Test.YthpjkenkbfkdhabDoorRows
import Derived.JoinedOf
import Derived.SevenTiedAt
import Derived.KernelRfl
namespace Go.Proofs.YthpjkenkbfkdhabDoor
theorem pf_enter : Tryd.prog.mayEnter = true := by kernel_rfl
theorem pf_lifts : (Rows.fnExactAddNodeRow.lifted == Tryd.prog.liftsFinal) = true := by kernel_rfl
theorem pf_main : Tryd.prog.mainIs = some (true, "f146a76a4b80a8abed60a79d9bb9373d37c4bb26efc70f02294818dcda1a4661".toList) := by kernel_rfl
theorem pf_nogo : Tryd.prog.funcs.any Func.goes = false := by kernel_rfl
theorem pf_laid : laidOutB Tryd.prog = true := by kernel_rfl
theorem pf_maps : mapsRowed Tryd.prog = true := by kernel_rfl
theorem pf_heard : Tryd.prog.stopsHeard = true := by kernel_rfl
theorem pf_keys : (Rows.fnExactAddNodeRow.plainKeys == Tryd.prog.plainKeys) = true := by kernel_rfl
theorem pf_looks : true = Tryd.prog.looks [] := by kernel_rfl
end Go.Proofs.YthpjkenkbfkdhabDoor
