/- Closed facts of the program, one by one. -/
import Derived.Test.YtfefjaohlhkmaaaDoorRows
import Derived.JoinedOf
import Derived.SevenTiedAt
import Derived.KernelRfl
namespace Go.Proofs.YtfefjaohlhkmaaaDoor
theorem pf_enter : Tryd.prog.mayEnter = true := by kernel_rfl
theorem pf_lifts : (Rows.fnRecordsRow.lifted == Tryd.prog.liftsFinal) = true := by kernel_rfl
theorem pf_main : Tryd.prog.mainIs = some (true, "31290fc8613f2c7561a5ac393f669a15c6758f82a16bd44a7a8aed711a3fbf38".toList) := by kernel_rfl
theorem pf_nogo : Tryd.prog.funcs.any Func.goes = false := by kernel_rfl
theorem pf_laid : laidOutB Tryd.prog = true := by kernel_rfl
theorem pf_maps : mapsRowed Tryd.prog = true := by kernel_rfl
theorem pf_heard : Tryd.prog.stopsHeard = true := by kernel_rfl
theorem pf_keys : (Rows.fnRecordsRow.plainKeys == Tryd.prog.plainKeys) = true := by kernel_rfl
theorem pf_looks : true = Tryd.prog.looks [] := by kernel_rfl
end Go.Proofs.YtfefjaohlhkmaaaDoor
