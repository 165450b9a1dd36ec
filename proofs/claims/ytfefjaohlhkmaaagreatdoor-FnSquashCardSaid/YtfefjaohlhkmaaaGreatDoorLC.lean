/- Closed facts of the program, one by one. -/
import Derived.Test.YtfefjaohlhkmaaaGreatDoorRows
import Derived.JoinedOf
import Derived.SevenTiedAt
import Derived.KernelRfl
namespace Go.Proofs.YtfefjaohlhkmaaaGreatDoor
theorem pf_enter : Tryz.prog.mayEnter = true := by kernel_rfl
theorem pf_lifts : (Rows.fnReplacedRow.lifted == Tryz.prog.liftsFinal) = true := by kernel_rfl
theorem pf_main : Tryz.prog.mainIs = some (true, "67914a59bc50dc98c82b9aa0e6ad8880ead2249ed40ec2d4e40c4d948de422e7".toList) := by kernel_rfl
theorem pf_nogo : Tryz.prog.funcs.any Func.goes = false := by kernel_rfl
theorem pf_laid : laidOutB Tryz.prog = true := by kernel_rfl
theorem pf_maps : mapsRowed Tryz.prog = true := by kernel_rfl
theorem pf_heard : Tryz.prog.stopsHeard = true := by kernel_rfl
theorem pf_keys : (Rows.fnReplacedRow.plainKeys == Tryz.prog.plainKeys) = true := by kernel_rfl
theorem pf_looks : true = Tryz.prog.looks [] := by kernel_rfl
end Go.Proofs.YtfefjaohlhkmaaaGreatDoor
