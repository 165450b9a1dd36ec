/- What all rows of this seat share. -/
import Derived.Test.YtdhmlillkbjjjaaGreatDoorRows
import Derived.Test.YtdhmlillkbjjjaaGreatDoorR
import Derived.Test.YtdhmlillkbjjjaaGreatDooryW
import Derived.Test.YtdhmlillkbjjjaaGreatDoorTie
import Derived.Test.YtdhmlillkbjjjaaGreatDoorCards
import Derived.Test.YtdhmlillkbjjjaaGreatDoorLC
set_option linter.unusedVariables false
namespace Go.Proofs.YtdhmlillkbjjjaaGreatDoor
open Go.ChangeShapes Go.WideShapes Go.ChangeAt Go.RowKit Go.UL
set_option maxRecDepth 100000
theorem own : ownKnob Tryz.prog.godebug = none := by kernel_rfl
theorem laidOut : laidOutB Tryz.prog = true := pf_laid
theorem gv_of {W : World} (h : W.ShapedOpen Tryz.prog) : GV 0 W := Go.Proofs.cell_of_shapedOpen_int (t := 3) (zero := #[.int .i64 0]) h (of_decide_eq_true (by kernel_rfl)) (by kernel_rfl) rfl (by kernel_rfl) (by kernel_rfl) (by kernel_rfl)
end Go.Proofs.YtdhmlillkbjjjaaGreatDoor
