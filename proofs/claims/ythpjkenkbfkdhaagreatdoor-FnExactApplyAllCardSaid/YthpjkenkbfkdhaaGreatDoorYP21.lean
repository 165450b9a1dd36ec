/- Plain Lean: what the functions compute. -/
import Derived.Test.YthpjkenkbfkdhaaGreatDoorYP20
set_option linter.unusedVariables false
set_option linter.unusedSimpArgs false
namespace Go.UL
open Go.RowKit
/-! ### lists by paths, whatever stands at them -/
section
variable {α : Type} (f : α → List UInt8)
def lookF (l : List α) (p : List UInt8) : Option α := l.find? fun x => decide (f x = p)
theorem lookF_cons (x : α) (l : List α) (p : List UInt8) : lookF f (x :: l) p = if f x = p then some x else lookF f l p := by
  unfold lookF
  by_cases h : f x = p <;> simp [h]
theorem lookF_none {l : List α} {p : List UInt8} : lookF f l p = none ↔ p ∉ l.map f := by
  induction l with
  | nil => simp [lookF]
  | cons x l ih =>
    rw [lookF_cons]
    by_cases h : f x = p
    · simp [h]
    · rw [if_neg h, ih]
      simp [Ne.symm h]
theorem lookF_some {l : List α} {p : List UInt8} {x : α} (h : lookF f l p = some x) : x ∈ l ∧ f x = p := by
  have h1 := List.mem_of_find?_eq_some h
  have h2 := List.find?_some h
  exact ⟨h1, of_decide_eq_true h2⟩
theorem lookF_of_mem {l : List α} (h : Rise (l.map f)) : ∀ x ∈ l, lookF f l (f x) = some x := by
  induction l with
  | nil => intro x hx; cases hx
  | cons y l ih =>
    intro x hx
    rw [lookF_cons]
    rcases List.mem_cons.1 hx with rfl | hx
    · rw [if_pos rfl]
    · have hlt : ltP (f y) (f x) = true := rise_lt h (f x) (List.mem_map_of_mem hx)
      rw [if_neg (ltP_ne hlt)]
      exact ih (rise_tl h) x hx
theorem filterMap_look {l : List α} (h : Rise (l.map f)) : (l.map f).filterMap (lookF f l) = l := by
  rw [List.filterMap_map]
  have : ∀ m : List α, (∀ x ∈ m, x ∈ l) → m.filterMap (lookF f l ∘ f) = m := by
    intro m
    induction m with
    | nil => intro _; rfl
    | cons x m ih =>
      intro hm
      rw [List.filterMap_cons]
      have h1 : (lookF f l ∘ f) x = some x := lookF_of_mem f h x (hm x (List.mem_cons_self ..))
      rw [h1]
      simp only
      rw [ih fun y hy => hm y (List.mem_cons_of_mem _ hy)]
  exact this l fun _ h => h
theorem mem_look {l : List α} {p : List UInt8} : p ∈ l.map f ↔ lookF f l p ≠ none := by
  constructor
  · intro h e; exact (lookF_none f).1 e h
  · intro h
    by_cases h2 : p ∈ l.map f
    · exact h2
    · exact absurd ((lookF_none f).2 h2) h
/-- Strictly rising lists that show the same at each path are the same. -/
theorem riseF_uniq {a b : List α} (ha : Rise (a.map f)) (hb : Rise (b.map f)) (h : ∀ p, lookF f a p = lookF f b p) : a = b := by
  have hm : a.map f = b.map f := Rise.uniq ha hb fun p => by rw [mem_look, mem_look, h]
  rw [← filterMap_look f ha, ← filterMap_look f hb, hm]
  congr 1
  funext p
  exact h p
theorem findI_look [Inhabited α] (l : List α) (p : List UInt8) : (0 ≤ findI (fun x => decide (f x = p)) l ↔ lookF f l p ≠ none) ∧ ∀ x, lookF f l p = some x → gt l (findI (fun x => decide (f x = p)) l) = x := by
  induction l with
  | nil => simp [findI, lookF]
  | cons y l ih =>
    rw [lookF_cons]
    by_cases h : f y = p
    · simp only [findI, h, decide_true, if_true]
      exact ⟨by simp, fun x hx => by rw [← Option.some.inj hx]; rfl⟩
    · simp only [findI, h, decide_false, Bool.false_eq_true, if_false]
      have hge := findI_ge (fun x => decide (f x = p)) l
      by_cases hm : findI (fun x => decide (f x = p)) l = -1
      · rw [if_pos hm]
        rw [hm] at ih
        refine ⟨ih.1, fun x hx => ?_⟩
        have : lookF f l p = none := by
          by_cases e : lookF f l p = none
          · exact e
          · have := ih.1.2 e; omega
        rw [this] at hx; cases hx
      · rw [if_neg hm]
        obtain ⟨n, hn⟩ : ∃ n : Nat, findI (fun x => decide (f x = p)) l = n := ⟨(findI (fun x => decide (f x = p)) l).toNat, by omega⟩
        rw [hn] at ih ⊢
        refine ⟨⟨fun _ => ih.1.1 (by omega), fun _ => by omega⟩, fun x hx => ?_⟩
        have := ih.2 x hx
        have e : ((n : Int) + 1) = ((n + 1 : Nat) : Int) := by omega
        rw [e, getD_gt, List.getD_cons_succ]
        exact this
end
section
variable {α : Type} (f : α → List UInt8) (hl hu : α → Option α) (hb : α → α → Option α)
end
/-! ### two layers as one -/
end Go.UL
