import Derived.Test.YtdhmlillkbjjjaaGreatDooryP42
set_option linter.unusedVariables false
set_option linter.unusedSimpArgs false
namespace Go.UL
open Go.RowKit
theorem found {t : List Nd} {p : List UInt8} {m : Nd} (ht : Wood t) (hp : qI p = true) (hm : vR t p = some m) : Xg t p = (m,0):=by
 rw [Gj hp,Js ht hp hm]
 simp [(look_pos hm).2.1]
def Stk (L : List (List Rec)) : Prop:=∀ l ∈ L,Lay l
theorem Stk.ok {L : List (List Rec)} (h : Stk L) (h5 : L.length≤5) : JZ L = true:=stack_mk (fun l hl=>⟨(h l hl).sheet,(h l hl).len⟩) h5
end Go.UL
