/- Plain Lean: what the functions compute. -/
import Derived.Test.YthpjkenkbfkdhaaGreatDoorJP24
set_option linter.unusedVariables false
set_option linter.unusedSimpArgs false
namespace Go.UL
open Go.RowKit
/-! ### trees however great, and layers on them -/
/-- A tree without a bound. -/
structure Wood (t : List Nd) : Prop where
  rise : Rise (t.map (·.path))
  ok : ∀ n ∈ t, nodeOK n = true
  par : ∀ n ∈ t, parentP n.path ≠ [] → ∃ m ∈ t, m.path = parentP n.path ∧ m.kind = 3
/-- Records in order, each below directories. -/
structure Sheet (l : List Rec) : Prop where
  rise : Rise (l.map (·.path))
  ok : ∀ r ∈ l, recFault r = 0
  par : ∀ r ∈ l, parentP r.path ≠ [] → ∃ q ∈ l, q.path = parentP r.path ∧ q.kind = 3
abbrev lookT (t : List Nd) (p : List UInt8) : Option Nd := lookF (fun n : Nd => n.path) t p
abbrev lookR (l : List Rec) (p : List UInt8) : Option Rec := lookF (fun r : Rec => r.path) l p
theorem rise_getD {α : Type} [Inhabited α] (f : α → List UInt8) {l : List α} (h : Rise (l.map f)) {i j : Nat} (hij : i < j) (hj : j < l.length) : ltP (f (l.getD i default)) (f (l.getD j default)) = true := by
  rw [getD_el (by omega), getD_el hj]
  have := List.pairwise_iff_getElem.1 (List.pairwise_map.1 h) i j (by omega) hj hij
  exact this
theorem idx_lt {α : Type} [Inhabited α] (f : α → List UInt8) {l : List α} (h : Rise (l.map f)) {i : Nat} (hi : i < l.length) {m : α} (hm : m ∈ l) (hlt : ltP (f m) (f (l.getD i default)) = true) : m ∈ l.take i := by
  obtain ⟨j, hj, rfl⟩ := List.getElem_of_mem hm
  by_cases hji : j < i
  · rw [List.mem_take_iff_getElem]
    exact ⟨j, by omega, rfl⟩
  · exfalso
    have e : l[j] = l.getD j default := (getD_el hj).symm
    rw [e] at hlt
    by_cases he : i = j
    · subst he; rw [ltP_irrefl] at hlt; cases hlt
    · have := rise_getD f h (show i < j by omega) hj
      rw [ltP_asymm this] at hlt; cases hlt
theorem rise_take {α : Type} (f : α → List UInt8) {l : List α} (h : Rise (l.map f)) (i : Nat) : Rise ((l.take i).map f) := by
  rw [List.map_take]; exact List.Pairwise.sublist (List.take_sublist _ _) h
/-- Above a node are directories. -/
theorem Wood.up {t : List Nd} (h : Wood t) : ∀ (k : Nat) (n : Nd), n ∈ t → n.path.length ≤ k → ∀ p ∈ ancs n.path, ∃ m ∈ t, m.path = p ∧ m.kind = 3 := by
  intro k
  induction k with
  | zero =>
    intro n hn hk p hp
    have : n.path = [] := List.eq_nil_of_length_eq_zero (by omega)
    rw [this, ancs_eq, if_pos parentP_nil] at hp; cases hp
  | succ k ih =>
    intro n hn hk p hp
    rw [ancs_eq] at hp
    by_cases hpp : parentP n.path = []
    · rw [if_pos hpp] at hp; cases hp
    · rw [if_neg hpp] at hp
      obtain ⟨m, hm, he, hk3⟩ := h.par n hn hpp
      have hne : n.path ≠ [] := fun e => by rw [e] at hpp; exact hpp parentP_nil
      rcases List.mem_cons.1 hp with rfl | hp
      · exact ⟨m, hm, he, hk3⟩
      · exact ih m hm (by rw [he]; have := parentP_lt hne; omega) p (by rw [he]; exact hp)
theorem Wood.above {t : List Nd} (h : Wood t) {n : Nd} (hn : n ∈ t) {p : List UInt8} (hb : belowP n.path p = true) : ∃ m ∈ t, m.path = p ∧ m.kind = 3 :=
  h.up _ n hn (Nat.le_refl _) p (below_ancs (nodeOK_path (h.ok n hn)) hb)
theorem Sheet.up {t : List Rec} (h : Sheet t) : ∀ (k : Nat) (n : Rec), n ∈ t → n.path.length ≤ k → ∀ p ∈ ancs n.path, ∃ m ∈ t, m.path = p ∧ m.kind = 3 := by
  intro k
  induction k with
  | zero =>
    intro n hn hk p hp
    have : n.path = [] := List.eq_nil_of_length_eq_zero (by omega)
    rw [this, ancs_eq, if_pos parentP_nil] at hp; cases hp
  | succ k ih =>
    intro n hn hk p hp
    rw [ancs_eq] at hp
    by_cases hpp : parentP n.path = []
    · rw [if_pos hpp] at hp; cases hp
    · rw [if_neg hpp] at hp
      obtain ⟨m, hm, he, hk3⟩ := h.par n hn hpp
      have hne : n.path ≠ [] := fun e => by rw [e] at hpp; exact hpp parentP_nil
      rcases List.mem_cons.1 hp with rfl | hp
      · exact ⟨m, hm, he, hk3⟩
      · exact ih m hm (by rw [he]; have := parentP_lt hne; omega) p (by rw [he]; exact hp)
theorem Sheet.above {t : List Rec} (h : Sheet t) {n : Rec} (hn : n ∈ t) {p : List UInt8} (hb : belowP n.path p = true) : ∃ m ∈ t, m.path = p ∧ m.kind = 3 :=
  h.up _ n hn (Nat.le_refl _) p (below_ancs (recFault_path (h.ok n hn)) hb)
end Go.UL
