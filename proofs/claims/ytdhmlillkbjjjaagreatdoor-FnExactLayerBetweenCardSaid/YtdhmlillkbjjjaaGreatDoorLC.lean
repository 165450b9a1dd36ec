/- Closed facts of the program, one by one. -/
import Derived.Test.YtdhmlillkbjjjaaGreatDoorRows
import Derived.JoinedOf
import Derived.SevenTiedAt
import Derived.KernelRfl
namespace Go.Proofs.YtdhmlillkbjjjaaGreatDoor
theorem pf_enter : Tryz.prog.mayEnter = true := by kernel_rfl
theorem pf_lifts : (Rows.fnReplacedRow.lifted == Tryz.prog.liftsFinal) = true := by kernel_rfl
theorem pf_main : Tryz.prog.mainIs = some (true, "3601aad46b42dac770809079dbbf8894a73d820e7ed4caf05ebf9f5f3b16504e".toList) := by kernel_rfl
theorem pf_nogo : Tryz.prog.funcs.any Func.goes = false := by kernel_rfl
theorem pf_laid : laidOutB Tryz.prog = true := by kernel_rfl
theorem pf_maps : mapsRowed Tryz.prog = true := by kernel_rfl
theorem pf_heard : Tryz.prog.stopsHeard = true := by kernel_rfl
theorem pf_keys : (Rows.fnReplacedRow.plainKeys == Tryz.prog.plainKeys) = true := by kernel_rfl
theorem pf_looks : true = Tryz.prog.looks [] := by kernel_rfl
end Go.Proofs.YtdhmlillkbjjjaaGreatDoor
