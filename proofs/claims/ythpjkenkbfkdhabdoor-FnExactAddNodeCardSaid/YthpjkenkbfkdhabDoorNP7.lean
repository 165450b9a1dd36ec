/- Plain Lean: what the functions compute. -/
import Derived.Test.YthpjkenkbfkdhabDoorNP6
set_option linter.unusedVariables false
set_option linter.unusedSimpArgs false
namespace Go.UL
open Go.RowKit
/-! ### layers: sizes, copies, places -/
def szRecGo : List Rec → Int → Int
  | [], a => a
  | x :: l, a => if szRec x a < 0 then -1 else szRecGo l (szRec x a)
def szRecS (l : List Rec) (left : Int) : Int := if left - (l.length : Int) < 0 then -1 else szRecGo l (left - (l.length : Int))
theorem szRec_le {r : Rec} {a : Int} (h : 0 ≤ szRec r a) : szRec r a ≤ a ∧ (r.path.length : Int) ≤ a ∧ (r.body.length : Int) ≤ a := by
  unfold szRec at *
  split at h
  · omega
  · split at h
    · omega
    · rename_i h1 h2; simp only [h1, h2, if_false]; omega
theorem szRecGo_le : ∀ {l : List Rec} {a : Int}, 0 ≤ szRecGo l a → 0 ≤ a → szRecGo l a ≤ a ∧ ∀ x ∈ l, (x.path.length : Int) ≤ a ∧ (x.body.length : Int) ≤ a := by
  intro l
  induction l with
  | nil => intro a _ _; exact ⟨Int.le_refl _, by simp⟩
  | cons x l ih =>
    intro a h h0
    simp only [szRecGo] at h ⊢
    by_cases hx : szRec x a < 0
    · simp [hx] at h
    · simp only [hx, if_false] at h ⊢
      have h1 := szRec_le (r := x) (a := a) (by omega)
      have h2 := ih h (by omega)
      refine ⟨by omega, ?_⟩
      intro y hy
      rcases List.mem_cons.1 hy with rfl | hy
      · omega
      · have := h2.2 y hy; omega
theorem szRecS_le {l : List Rec} {a : Int} (h : ¬ szRecS l a < 0) (h0 : 0 ≤ a) : 0 ≤ szRecS l a ∧ szRecS l a ≤ a ∧ (l.length : Int) ≤ a ∧ ∀ x ∈ l, (x.path.length : Int) ≤ a ∧ (x.body.length : Int) ≤ a := by
  unfold szRecS at *
  by_cases hl : a - (l.length : Int) < 0
  · simp [hl] at h
  · simp only [hl, if_false] at h ⊢
    have := szRecGo_le (l := l) (a := a - (l.length : Int)) (by omega) (by omega)
    refine ⟨by omega, by omega, by omega, fun x hx => ?_⟩
    have := this.2 x hx; omega
theorem szRecGo_run (l : List Rec) (b : Int × Int → Option (Step Int (Int × Int) Int)) (hb : ∀ (i : Nat) (a : Int), i < l.length → 0 ≤ a → a ≤ 1048576 → b (a, i) = some (if szRec (l.getD i default) a < 0 then .ret (-1) else .nxt (szRec (l.getD i default) a, (i : Int) + 1))) (hn : ∀ a, b (a, l.length) = some (.brk a)) :
    ∀ (d i : Nat) (a : Int) (k : Nat), i + d = l.length → d < k → 0 ≤ a → a ≤ 1048576 → ∃ z, loopF b k (a, i) = some z ∧ (match z with | .inl t => some t | .inr x => some x) = some (szRecGo (l.drop i) a) := by
  intro d
  induction d with
  | zero =>
    intro i a k hi hk _ _
    obtain ⟨k, rfl⟩ : ∃ j, k = j + 1 := ⟨k - 1, by omega⟩
    have : i = l.length := by omega
    subst this
    exact ⟨.inr a, by rw [loopF, hn]; rfl, by simp [szRecGo]⟩
  | succ d ih =>
    intro i a k hi hk h0 h1
    obtain ⟨k, rfl⟩ : ∃ j, k = j + 1 := ⟨k - 1, by omega⟩
    have hlt : i < l.length := by omega
    have hg : l.getD i default = l[i] := by simp [List.getD_eq_getElem?_getD, List.getElem?_eq_getElem hlt]
    rw [List.drop_eq_getElem_cons hlt, loopF, hb i a hlt h0 h1, hg]
    by_cases hx : szRec l[i] a < 0
    · exact ⟨.inl (-1), by simp [hx], by simp [szRecGo, hx]⟩
    · have hle := szRec_le (r := l[i]) (a := a) (by omega)
      obtain ⟨z, hz, hP⟩ := ih (i + 1) (szRec l[i] a) k (by omega) (by omega) (by omega) (by omega)
      rw [Int.natCast_add, Int.natCast_one] at hz
      exact ⟨z, by simp only [hx, if_false, Option.bind_some]; exact hz, by simp only [szRecGo, hx, if_false]; exact hP⟩
/-- Where the record of a path stands, -1 if nowhere. -/
def findR (l : List Rec) (p : List UInt8) : Int := findI (fun r => decide (r.path = p)) l
theorem eq_run {α : Type} [DecidableEq α] [Inhabited α] (a b : List α) (f : Int → Option (Step Bool Int Unit)) (hl : a.length = b.length)
    (hb : ∀ i : Nat, i < a.length → f i = some (if a.getD i default = b.getD i default then .nxt ((i : Int) + 1) else .ret false)) (hn : f a.length = some (.brk ())) :
    loopF f (a.length + 1) 0 = some (if a = b then .inr () else .inl false) := by
  have hb' : ∀ i : Nat, i < a.length → f i = some (sc (if !decide (a.getD i default = b.getD i default) then some false else none : Option Bool) ((i : Int) + 1)) := by
    intro i hi
    rw [hb i hi]
    by_cases he : a.getD i default = b.getD i default
    · simp only [he, if_true, decide_true, Bool.not_true, Bool.false_eq_true, if_false, sc_none]
    · simp only [he, if_false, decide_false, Bool.not_false, if_true, sc_some]
  rw [loop_scan0 a.length _ hb' hn (a.length + 1) (by omega), list_ne_any a b hl]
  by_cases he : a = b <;> simp [he]

end Go.UL
