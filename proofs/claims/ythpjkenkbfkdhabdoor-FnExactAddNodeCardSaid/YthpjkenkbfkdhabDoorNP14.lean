/- Plain Lean: what the functions compute. -/
import Derived.Test.YthpjkenkbfkdhabDoorNP13
set_option linter.unusedVariables false
set_option linter.unusedSimpArgs false
namespace Go.UL
open Go.RowKit
/-! ### stacks -/
def szRecSSGo : List (List Rec) → Int → Int
  | [], a => a
  | x :: l, a => if szRecS x a < 0 then -1 else szRecSSGo l (szRecS x a)
def szRecSS (l : List (List Rec)) (left : Int) : Int := if left - (l.length : Int) < 0 then -1 else szRecSSGo l (left - (l.length : Int))
theorem szRecSSGo_le : ∀ {l : List (List Rec)} {a : Int}, 0 ≤ szRecSSGo l a → 0 ≤ a → szRecSSGo l a ≤ a ∧ ∀ y ∈ l, (y.length : Int) ≤ a ∧ ∀ x ∈ y, (x.path.length : Int) ≤ a ∧ (x.body.length : Int) ≤ a := by
  intro l
  induction l with
  | nil => intro a _ _; exact ⟨Int.le_refl _, by simp⟩
  | cons y l ih =>
    intro a h h0
    simp only [szRecSSGo] at h ⊢
    by_cases hx : szRecS y a < 0
    · simp [hx] at h
    · simp only [hx, if_false] at h ⊢
      have h1 := szRecS_le hx h0
      have h2 := ih h (by omega)
      refine ⟨by omega, ?_⟩
      intro z hz
      rcases List.mem_cons.1 hz with rfl | hz
      · exact ⟨h1.2.2.1, h1.2.2.2⟩
      · have := h2.2 z hz
        exact ⟨by omega, fun x hx => by have := this.2 x hx; omega⟩
theorem szSS_of {l : List (List Rec)} {a : Int} (h : ¬ szRecSS l a < 0) (h0 : 0 ≤ a) (ha : a ≤ 1048576) : l.length ≤ 1048576 ∧ (∀ y ∈ l, y.length ≤ 1048576) ∧ (∀ y ∈ l, ∀ x ∈ y, x.path.length ≤ 1048576) ∧ (∀ y ∈ l, ∀ x ∈ y, x.body.length ≤ 1048576) ∧ 0 ≤ szRecSS l a ∧ szRecSS l a ≤ 1048576 := by
  unfold szRecSS at *
  by_cases hl : a - (l.length : Int) < 0
  · simp [hl] at h
  · simp only [hl, if_false] at h ⊢
    have := szRecSSGo_le (l := l) (a := a - (l.length : Int)) (by omega) (by omega)
    refine ⟨by omega, fun y hy => ?_, fun y hy x hx => ?_, fun y hy x hx => ?_, by omega, by omega⟩
    · have := (this.2 y hy).1; omega
    · have := ((this.2 y hy).2 x hx).1; omega
    · have := ((this.2 y hy).2 x hx).2; omega
def stackOK (l : List (List Rec)) : Bool := decide (l.length ≤ 5) && l.all fun x => decide ((layerFault x).2 = 0)
theorem layerFaultL_zero (l : List Rec) : decide ((layerFaultL l).2 = 0) = decide ((layerFault l).2 = 0) := by
  unfold layerFaultL
  by_cases h : 4096 < l.length
  · have : ¬ (layerFault l).2 = 0 := fun hf => by have := layerOK_len hf; omega
    simp [h, this]
  · simp [h]
theorem stackOK_layer {l : List (List Rec)} (h : stackOK l = true) : l.length ≤ 5 ∧ ∀ x ∈ l, (layerFault x).2 = 0 := by
  simpa [stackOK] using h
/-! ### the highest layer that cuts a path off -/
def cutDN (l : List (List Rec)) (p : List UInt8) : Nat → Int
  | 0 => 0
  | n + 1 => if cutsR (l.getD n default) p then (n : Int) + 1 else cutDN l p n
def cutD (l : List (List Rec)) (p : List UInt8) : Int := cutDN l p l.length
theorem cutDN_none {l : List (List Rec)} {p : List UInt8} : ∀ m, (∀ j, j < m → cutsR (l.getD j default) p = false) → cutDN l p m = 0 := by
  intro m
  induction m with
  | zero => intro _; rfl
  | succ m ih => intro h; rw [cutDN, h m (by omega)]; exact ih fun j hj => h j (by omega)
theorem cutDN_some {l : List (List Rec)} {p : List UInt8} {i : Nat} : ∀ m, i < m → cutsR (l.getD i default) p = true → (∀ j, i < j → j < m → cutsR (l.getD j default) p = false) → cutDN l p m = (i : Int) + 1 := by
  intro m
  induction m with
  | zero => intro h; omega
  | succ m ih =>
    intro h hc hj
    rw [cutDN]
    by_cases e : i = m
    · subst e; rw [hc]; rfl
    · rw [hj m (by omega) (by omega)]; exact ih (by omega) hc fun j h1 h2 => hj j h1 (by omega)
def stackCode (a : List (List Rec)) : Int := if 4096 < a.length then 2 else if !stackOK a then 1 else 0
def pathCode (a : List (List Rec)) (p : List UInt8) : Int := if 65536 < p.length then 2 else if stackCode a ≠ 0 then stackCode a else if !pathOK p then 10 else 0
def cutDepth (a : List (List Rec)) (p : List UInt8) : Int × Int := if pathCode a p = 0 then (cutD a p, 0) else (0, pathCode a p)
theorem pathCode_zero {a : List (List Rec)} {p : List UInt8} (h : pathCode a p = 0) : stackOK a = true ∧ pathOK p = true := by
  unfold pathCode stackCode at h
  by_cases h1 : 65536 < p.length
  · simp [h1] at h
  · by_cases h2 : 4096 < a.length
    · simp [h1, h2] at h
    · rcases bool_two (stackOK a) with h3 | h3
      · rcases bool_two (pathOK p) with h4 | h4
        · exact ⟨h3, h4⟩
        · simp [h1, h2, h3, h4] at h
      · simp [h1, h2, h3] at h
theorem lenSS4096 (l : List (List Rec)) : decide ((4096 : Int) < (l.length : Int)) = decide (4096 < l.length) := by rw [decide_eq_decide]; omega

end Go.UL
