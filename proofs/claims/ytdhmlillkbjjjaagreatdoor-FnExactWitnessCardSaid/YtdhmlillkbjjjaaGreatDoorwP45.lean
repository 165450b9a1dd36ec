import Derived.Test.YtdhmlillkbjjjaaGreatDoorwP39
set_option linter.unusedVariables false
set_option linter.unusedSimpArgs false
namespace Go.UL
open Go.RowKit
theorem small_paths {l : List Rec} (h : Sheet l) : ∀ x ∈ l, x.path.length ≤ 1048576 := fun x hx => QZ (yw (h.ok x hx))
theorem look_pos {t : List Nd} {p : List UInt8} {x : Nd} (h : vr t p = some x) : 0 ≤ yX t p ∧ gt t (yX t p) = x ∧ inR (yX t p) t.length = true := by
 have h1 := (yU t p).1.2 (by rw [h]; simp)
 exact ⟨h1, (yU t p).2 x h, GQ (by omega)⟩
theorem XO {L : List (List Rec)} (h : ∀ l ∈ L, Sheet l ∧ l.length ≤ 16) (h5 : L.length ≤ 5) : Vi L = true := by
 simp only [Vi, Bool.and_eq_true, decide_eq_true_eq, List.all_eq_true]
 exact ⟨h5, fun l hl => Yh (h l hl).1 (h l hl).2⟩
theorem found {t : List Nd} {p : List UInt8} {m : Nd} (ht : Wood t) (hp : qz p = true) (hm : vr t p = some m) : findNd t p = (m, 0) := by
 rw [Xp hp, GK ht hp hm]
 simp [(look_pos hm).2.1]
def Stk (L : List (List Rec)) : Prop := ∀ l ∈ L, Lay l
theorem Stk.ok {L : List (List Rec)} (h : Stk L) (h5 : L.length ≤ 5) : Vi L = true := XO (fun l hl => ⟨(h l hl).sheet, (h l hl).len⟩) h5
end Go.UL
