/- Plain Lean: what the functions compute. -/
import Derived.Test.YthpjkenkbfkdhaaGreatDoorJP20
set_option linter.unusedVariables false
set_option linter.unusedSimpArgs false
namespace Go.UL
open Go.RowKit
/-! ### lists by paths, whatever stands at them -/
section
variable {α : Type} (f : α → List UInt8)
def lookF (l : List α) (p : List UInt8) : Option α := l.find? fun x => decide (f x = p)
theorem lookF_cons (x : α) (l : List α) (p : List UInt8) : lookF f (x :: l) p = if f x = p then some x else lookF f l p := by
  unfold lookF
  by_cases h : f x = p <;> simp [h]
theorem lookF_none {l : List α} {p : List UInt8} : lookF f l p = none ↔ p ∉ l.map f := by
  induction l with
  | nil => simp [lookF]
  | cons x l ih =>
    rw [lookF_cons]
    by_cases h : f x = p
    · simp [h]
    · rw [if_neg h, ih]
      simp [Ne.symm h]
theorem mem_look {l : List α} {p : List UInt8} : p ∈ l.map f ↔ lookF f l p ≠ none := by
  constructor
  · intro h e; exact (lookF_none f).1 e h
  · intro h
    by_cases h2 : p ∈ l.map f
    · exact h2
    · exact absurd ((lookF_none f).2 h2) h
/-- What a strictly rising list of paths picks. -/
theorem pick_spec {ps : List (List UInt8)} (hp : Rise ps) (g : List UInt8 → Option α) (hg : ∀ p x, g p = some x → f x = p) :
    Rise ((ps.filterMap g).map f) ∧ ∀ p, lookF f (ps.filterMap g) p = if p ∈ ps then g p else none := by
  induction ps with
  | nil => exact ⟨List.Pairwise.nil, fun p => by simp [lookF]⟩
  | cons q ps ih =>
    obtain ⟨i1, i2⟩ := ih (rise_tl hp)
    have hq := rise_lt hp
    have hnot : q ∉ ps := fun hm => ltP_ne (hq q hm) rfl
    cases hgq : g q with
    | none =>
      rw [List.filterMap_cons, hgq]
      refine ⟨i1, fun p => ?_⟩
      simp only
      rw [i2]
      by_cases e : p = q
      · subst e; simp [hnot, hgq]
      · simp [e]
    | some x =>
      rw [List.filterMap_cons, hgq]
      have hx := hg q x hgq
      refine ⟨?_, fun p => ?_⟩
      · simp only [List.map_cons]
        refine List.pairwise_cons.2 ⟨fun z hz => ?_, i1⟩
        rw [hx]
        have : lookF f (ps.filterMap g) z ≠ none := (mem_look f).1 hz
        rw [i2] at this
        by_cases hm : z ∈ ps
        · exact hq z hm
        · rw [if_neg hm] at this; exact absurd rfl this
      · simp only
        rw [lookF_cons, i2, hx]
        by_cases e : q = p
        · subst e; simp [hgq]
        · have e' : ¬ p = q := fun h => e h.symm
          simp [e, e']
end
section
variable {α : Type} (f : α → List UInt8) (hl hu : α → Option α) (hb : α → α → Option α)
end
/-! ### two layers as one -/
end Go.UL
