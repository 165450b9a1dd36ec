/- Plain Lean: what the functions compute. -/
import Derived.Test.YtfefjaohlhkmaaaGreatDooraP29
set_option linter.unusedVariables false
set_option linter.unusedSimpArgs false
namespace Go.UL
open Go.RowKit
/-! ### one pass over all layers -/
/-! ### marks on picks -/

/-! ### what a layer makes of each path: the canonical form is told by that alone -/
def viewR (l : List Rec) (p : List UInt8) : Option (Option Nd) := match lookR l p with
  | some r => some (showR r)
  | none => if cutsR l p then some none else none
theorem Sheet.path {l : List Rec} (hs : Sheet l) {p : List UInt8} {r : Rec} (h : lookR l p = some r) : pathOK p = true := by
  obtain ⟨h1, h2⟩ := lookR_some h
  rw [← h2]; exact recFault_path (hs.ok r h1)
theorem Sheet.fault {l : List Rec} (hs : Sheet l) {p : List UInt8} {r : Rec} (h : lookR l p = some r) : recFault r = 0 := hs.ok r (lookR_some h).1
/-! a name that is free -/
set_option linter.unusedSectionVars false
section
variable {a b : List Rec} (ha : Sheet a) (hb : Sheet b) (hlen : a.length + b.length < 256) (hv : ∀ p, pathOK p = true → viewR a p = viewR b p)
include ha hb hlen hv
end
/-! ### canonical forms and combinations make of each path what they should -/
/-! two layers -/
/-! ### stacks: what they make of each path; one pass gives the same as one after the other -/
theorem Sheet.nil : Sheet [] := ⟨List.Pairwise.nil, by simp, by simp⟩
/-! winners -/
/-! ### the laws of squashing, of one pass, of replacing: plain -/
theorem wood_eq {s t : List Nd} (hs : Wood s) (ht : Wood t) (h : ∀ p, pathOK p = true → lookT s p = lookT t p) : s = t := by
  refine riseF_uniq (fun n : Nd => n.path) hs.rise ht.rise fun p => ?_
  rcases bool_two (pathOK p) with hp | hp
  · exact h p hp
  · have hno : ∀ {t : List Nd}, Wood t → lookT t p = none := fun {t} hw => by
      cases hl : lookT t p with
      | none => rfl
      | some n =>
        obtain ⟨h1, h2⟩ := look_some hl
        rw [← h2, nodeOK_path (hw.ok n h1)] at hp; cases hp
    exact (hno hs).trans (hno ht).symm
theorem apply_wood {l : List Rec} {t : List Nd} (hl : Sheet l) (ht : Wood t) : Wood (applyL l t) := (applyL_spec t ht _ l rfl hl).1
/-! ### a tree of which two layers make different ones -/
/-! a name that is free: z and a number -/
theorem findR_neg (l : List Rec) (p : List UInt8) : findR l p < 0 ↔ lookR l p = none := by
  have h := (findR_look l p).1
  constructor
  · intro h1
    cases hl : lookR l p with
    | none => rfl
    | some r => exact absurd (h.2 (by rw [hl]; simp)) (by omega)
  · intro h1
    refine Classical.byContradiction fun h2 => h.1 (by omega) h1
/-! the tree that is told -/
set_option linter.unusedSectionVars false
section
variable {x y : List Rec} (hx : Sheet x) (hy : Sheet y) (cx : canonL x = x) (cy : canonL y = y) {p : List UInt8} (hp : pathOK p = true) (hlt : ∀ q, ltP q p = true → lookR x q = lookR y q)
include hx hy cx cy hp hlt
end
end Go.UL
