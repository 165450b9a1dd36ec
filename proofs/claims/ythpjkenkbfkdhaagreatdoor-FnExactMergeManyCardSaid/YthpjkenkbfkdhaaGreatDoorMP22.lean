/- Plain Lean: what the functions compute. -/
import Derived.Test.YthpjkenkbfkdhaaGreatDoorMP21
set_option linter.unusedVariables false
set_option linter.unusedSimpArgs false
namespace Go.UL
open Go.RowKit
/-! ### two layers as one: the program's way and the reference's -/
/-- Right paths, strictly rising. -/
def sheetB (l : List Rec) : Bool := l.all (fun r => pathOK r.path) && decide (l.Pairwise fun a b => ltP a.path b.path = true)
theorem sheetB_path {l : List Rec} (h : sheetB l = true) : ∀ x ∈ l, pathOK x.path = true := by
  simp only [sheetB, Bool.and_eq_true] at h
  exact fun x hx => List.all_eq_true.1 h.1 x hx
theorem sheetB_mk {l : List Rec} (h1 : ∀ x ∈ l, pathOK x.path = true) (h2 : Rise (l.map (·.path))) : sheetB l = true := by
  simp only [sheetB, Bool.and_eq_true]
  exact ⟨List.all_eq_true.2 h1, decide_eq_true (List.pairwise_map.1 h2)⟩
def fitL (l : List Rec) : List Rec := if 16 < l.length then [] else l
def fitC (l : List Rec) : Int := if 16 < l.length then 7 else 0
theorem fit_dec (n : Nat) : decide ((16 : Int) < (n : Int)) = decide (16 < n) := by rw [decide_eq_decide]; omega
theorem fitL_len (l : List Rec) : (fitL l).length ≤ 16 := by
  unfold fitL
  by_cases h : 16 < l.length
  · simp [h]
  · simp only [h, if_false]; omega
def fitV (v : Value) (l : List Rec) : Value := if 16 < l.length then .slice none 0 0 else v
theorem Ow.fit {e : TypeId} {B : Nat} {w : World} {v : Value} {xs : List Rec} (h : Ow e 5 encRec B w v xs) : Ow e 5 encRec B w (fitV v xs) (fitL xs) := by
  unfold fitV fitL
  split
  · exact Ow.zero
  · exact h

end Go.UL
