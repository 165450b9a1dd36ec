/- Plain Lean: what the functions compute. -/
import Derived.Test.YthpjkenkbfkdhaaGreatDoorSP9
set_option linter.unusedVariables false
set_option linter.unusedSimpArgs false
namespace Go.UL
open Go.RowKit
/-! ### nodes -/
def szNd (r : Nd) (left : Int) : Int := if left - (r.path.length : Int) < 0 then -1 else if left - (r.path.length : Int) - (r.body.length : Int) < 0 then -1 else left - (r.path.length : Int) - (r.body.length : Int)
def szNdGo : List Nd → Int → Int
  | [], a => a
  | x :: l, a => if szNd x a < 0 then -1 else szNdGo l (szNd x a)
def szNdS (l : List Nd) (left : Int) : Int := if left - (l.length : Int) < 0 then -1 else szNdGo l (left - (l.length : Int))
theorem szNd_le {r : Nd} {a : Int} (h : 0 ≤ szNd r a) : szNd r a ≤ a ∧ (r.path.length : Int) ≤ a ∧ (r.body.length : Int) ≤ a := by
  unfold szNd at *
  split at h
  · omega
  · split at h
    · omega
    · rename_i h1 h2; simp only [h1, h2, if_false]; omega
theorem szNdGo_le : ∀ {l : List Nd} {a : Int}, 0 ≤ szNdGo l a → 0 ≤ a → szNdGo l a ≤ a ∧ ∀ x ∈ l, (x.path.length : Int) ≤ a ∧ (x.body.length : Int) ≤ a := by
  intro l
  induction l with
  | nil => intro a _ _; exact ⟨Int.le_refl _, by simp⟩
  | cons x l ih =>
    intro a h h0
    simp only [szNdGo] at h ⊢
    by_cases hx : szNd x a < 0
    · simp [hx] at h
    · simp only [hx, if_false] at h ⊢
      have h1 := szNd_le (r := x) (a := a) (by omega)
      have h2 := ih h (by omega)
      refine ⟨by omega, ?_⟩
      intro y hy
      rcases List.mem_cons.1 hy with rfl | hy
      · omega
      · have := h2.2 y hy; omega
theorem szNdS_le {l : List Nd} {a : Int} (h : ¬ szNdS l a < 0) (h0 : 0 ≤ a) : 0 ≤ szNdS l a ∧ szNdS l a ≤ a ∧ (l.length : Int) ≤ a ∧ ∀ x ∈ l, (x.path.length : Int) ≤ a ∧ (x.body.length : Int) ≤ a := by
  unfold szNdS at *
  by_cases hl : a - (l.length : Int) < 0
  · simp [hl] at h
  · simp only [hl, if_false] at h ⊢
    have := szNdGo_le (l := l) (a := a - (l.length : Int)) (by omega) (by omega)
    refine ⟨by omega, by omega, by omega, fun x hx => ?_⟩
    have := this.2 x hx; omega
theorem szNdGo_run (l : List Nd) (b : Int × Int → Option (Step Int (Int × Int) Int)) (hb : ∀ (i : Nat) (a : Int), i < l.length → 0 ≤ a → a ≤ 1048576 → b (a, i) = some (if szNd (l.getD i default) a < 0 then .ret (-1) else .nxt (szNd (l.getD i default) a, (i : Int) + 1))) (hn : ∀ a, b (a, l.length) = some (.brk a)) :
    ∀ (d i : Nat) (a : Int) (k : Nat), i + d = l.length → d < k → 0 ≤ a → a ≤ 1048576 → ∃ z, loopF b k (a, i) = some z ∧ (match z with | .inl t => some t | .inr x => some x) = some (szNdGo (l.drop i) a) := by
  intro d
  induction d with
  | zero =>
    intro i a k hi hk _ _
    obtain ⟨k, rfl⟩ : ∃ j, k = j + 1 := ⟨k - 1, by omega⟩
    have : i = l.length := by omega
    subst this
    exact ⟨.inr a, by rw [loopF, hn]; rfl, by simp [szNdGo]⟩
  | succ d ih =>
    intro i a k hi hk h0 h1
    obtain ⟨k, rfl⟩ : ∃ j, k = j + 1 := ⟨k - 1, by omega⟩
    have hlt : i < l.length := by omega
    have hg : l.getD i default = l[i] := by simp [List.getD_eq_getElem?_getD, List.getElem?_eq_getElem hlt]
    rw [List.drop_eq_getElem_cons hlt, loopF, hb i a hlt h0 h1, hg]
    by_cases hx : szNd l[i] a < 0
    · exact ⟨.inl (-1), by simp [hx], by simp [szNdGo, hx]⟩
    · have hle := szNd_le (r := l[i]) (a := a) (by omega)
      obtain ⟨z, hz, hP⟩ := ih (i + 1) (szNd l[i] a) k (by omega) (by omega) (by omega) (by omega)
      rw [Int.natCast_add, Int.natCast_one] at hz
      exact ⟨z, by simp only [hx, if_false, Option.bind_some]; exact hz, by simp only [szNdGo, hx, if_false]; exact hP⟩
/-- Where the node of a path stands, -1 if nowhere. -/
def findN (l : List Nd) (p : List UInt8) : Int := findI (fun r => decide (r.path = p)) l

end Go.UL
