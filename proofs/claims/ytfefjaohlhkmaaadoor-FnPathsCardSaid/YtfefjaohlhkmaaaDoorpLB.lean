/- What all rows of this seat share. -/
import Derived.Test.YtfefjaohlhkmaaaDoorRows
import Derived.Test.YtfefjaohlhkmaaaDoorR
import Derived.Test.YtfefjaohlhkmaaaDoorpW
import Derived.Test.YtfefjaohlhkmaaaDoorTie
import Derived.Test.YtfefjaohlhkmaaaDoorCards
import Derived.Test.YtfefjaohlhkmaaaDoorLC
set_option linter.unusedVariables false
namespace Go.Proofs.YtfefjaohlhkmaaaDoor
open Go.ChangeShapes Go.WideShapes Go.ChangeAt Go.RowKit Go.UL
set_option maxRecDepth 100000
theorem own : ownKnob Tryd.prog.godebug = none := by kernel_rfl
theorem laidOut : laidOutB Tryd.prog = true := pf_laid
theorem gv_of {W : World} (h : W.ShapedOpen Tryd.prog) : GV 0 W := Go.Proofs.cell_of_shapedOpen_int (t := 3) (zero := #[.int .i64 0]) h (of_decide_eq_true (by kernel_rfl)) (by kernel_rfl) rfl (by kernel_rfl) (by kernel_rfl) (by kernel_rfl)
end Go.Proofs.YtfefjaohlhkmaaaDoor
