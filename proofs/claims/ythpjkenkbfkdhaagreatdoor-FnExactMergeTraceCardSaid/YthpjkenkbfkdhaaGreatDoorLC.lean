/- Closed facts of the program, one by one. -/
import Derived.Test.YthpjkenkbfkdhaaGreatDoorRows
import Derived.JoinedOf
import Derived.SevenTiedAt
import Derived.KernelRfl
namespace Go.Proofs.YthpjkenkbfkdhaaGreatDoor
theorem pf_enter : Tryz.prog.mayEnter = true := by kernel_rfl
theorem pf_lifts : (Rows.fnExactChangesRow.lifted == Tryz.prog.liftsFinal) = true := by kernel_rfl
theorem pf_main : Tryz.prog.mainIs = some (true, "94754823d80911e676dcc845ada1294acfac54ceddaf5c50b0ffe421361bd1f2".toList) := by kernel_rfl
theorem pf_nogo : Tryz.prog.funcs.any Func.goes = false := by kernel_rfl
theorem pf_laid : laidOutB Tryz.prog = true := by kernel_rfl
theorem pf_maps : mapsRowed Tryz.prog = true := by kernel_rfl
theorem pf_heard : Tryz.prog.stopsHeard = true := by kernel_rfl
theorem pf_keys : (Rows.fnExactChangesRow.plainKeys == Tryz.prog.plainKeys) = true := by kernel_rfl
theorem pf_looks : true = Tryz.prog.looks [] := by kernel_rfl
end Go.Proofs.YthpjkenkbfkdhaaGreatDoor
