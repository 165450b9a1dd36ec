/- Plain Lean: what the functions compute. -/
import Derived.Test.YthpjkenkbfkdhaaGreatDoorUP1
set_option linter.unusedVariables false
set_option linter.unusedSimpArgs false
namespace Go.UD
open Go.RowKit
/-! ### cutting a text -/
def preL (p : List UInt8) : List (List UInt8) → List (List UInt8)
  | [] => [p]
  | q :: qs => (p ++ q) :: qs
def cut (c : Int) : List UInt8 → List (List UInt8)
  | [] => [[]]
  | b :: l => if bn b = c then [] :: cut c l else preL [b] (cut c l)
theorem preL_ne (p : List UInt8) (l : List (List UInt8)) : preL p l ≠ [] := by cases l <;> simp [preL]
theorem cut_ne (c : Int) (l : List UInt8) : cut c l ≠ [] := by
  cases l with
  | nil => simp [cut]
  | cons b l => unfold cut; split
                · simp
                · exact preL_ne _ _
theorem preL_nil {l : List (List UInt8)} (h : l ≠ []) : preL [] l = l := by cases l <;> simp_all [preL]
theorem preL_preL (p q : List UInt8) (l : List (List UInt8)) : preL p (preL q l) = preL (p ++ q) l := by cases l <;> simp [preL]
theorem cut_len (c : Int) (l : List UInt8) : (cut c l).length ≤ l.length + 1 := by
  induction l with
  | nil => simp [cut]
  | cons b l ih =>
    unfold cut; split
    · simp; omega
    · have := cut_ne c l
      cases h : cut c l with
      | nil => exact absurd h this
      | cons q qs => simp [preL]; rw [h] at ih; simp at ih; omega
theorem cut_mem (c : Int) (l : List UInt8) : ∀ x ∈ cut c l, x.length ≤ l.length := by
  induction l with
  | nil => simp [cut]
  | cons b l ih =>
    unfold cut; split
    · intro x hx; simp at hx; rcases hx with rfl | hx
      · simp
      · have := ih x hx; simp; omega
    · have := cut_ne c l
      cases h : cut c l with
      | nil => exact absurd h this
      | cons q qs =>
        intro x hx; simp [preL] at hx
        rcases hx with rfl | hx
        · have := ih q (by rw [h]; simp); simp; omega
        · have := ih x (by rw [h]; simp [hx]); simp; omega
theorem sub_nat {α : Type} (l : List α) (s i : Nat) : sub l (s : Int) (i : Int) = (l.take i).drop s := rfl
/-! ### a path: parts -/
theorem cut_sum (c : Int) (n : Nat) (l : List UInt8) : ∀ m, (cut c l).length ≤ m → (∀ x ∈ cut c l, x.length ≤ n) → l.length + 1 ≤ m * (n + 1) := by
  induction l with
  | nil => intro m h1 _; simp [cut] at h1; have : 1 * 1 ≤ m * (n + 1) := Nat.mul_le_mul h1 (by omega); simpa using this
  | cons b l ih =>
    intro m h1 h2
    unfold cut at h1 h2
    split at h1
    · rename_i hc
      rw [if_pos hc] at h2
      obtain ⟨m, rfl⟩ : ∃ j, m = j + 1 := ⟨m - 1, by simp at h1; omega⟩
      have := ih m (by simpa using h1) (fun x hx => h2 x (by simp [hx]))
      rw [Nat.succ_mul]; simp; omega
    · rename_i hc
      rw [if_neg hc] at h2
      have hne := cut_ne c l
      cases h : cut c l with
      | nil => exact absurd h hne
      | cons q qs =>
        rw [h] at h1 h2
        simp only [preL, List.length_cons] at h1
        have hq := h2 ([b] ++ q) (by simp [preL])
        -- one place less is needed: the head piece has one byte less than it may have
        have key : ∀ (l : List UInt8) (q : List UInt8) (qs : List (List UInt8)), cut c l = q :: qs → l.length = q.length + (qs.map fun x => x.length + 1).sum := by
          intro l
          induction l with
          | nil => intro q qs h; simp [cut] at h; obtain ⟨rfl, rfl⟩ := h; simp
          | cons b l ih2 =>
            intro q qs h
            unfold cut at h
            have hne := cut_ne c l
            cases h' : cut c l with
            | nil => exact absurd h' hne
            | cons q' qs' =>
              have := ih2 q' qs' h'
              rw [h'] at h
              split at h
              · simp at h; obtain ⟨rfl, rfl⟩ := h; simp; omega
              · simp [preL] at h; obtain ⟨rfl, rfl⟩ := h; simp; omega
        have hk := key l q qs h
        have hsum : ∀ (qs : List (List UInt8)), (∀ x ∈ qs, x.length ≤ n) → (qs.map fun x => x.length + 1).sum ≤ qs.length * (n + 1) := by
          intro qs
          induction qs with
          | nil => simp
          | cons x r ih3 => intro hx; have h4 := ih3 (fun y hy => hx y (by simp [hy])); have h5 := hx x (by simp); simp only [List.map_cons, List.sum_cons, List.length_cons, Nat.succ_mul]; omega
        have h6 := hsum qs (fun x hx => h2 x (by simp [preL, hx]))
        have h7 : (qs.length + 1) * (n + 1) ≤ m * (n + 1) := Nat.mul_le_mul_right _ h1
        rw [Nat.succ_mul] at h7
        simp at hq ⊢
        omega
def pathOK (t : List UInt8) : Bool := decide (t.length < 36) && (decide ((cut 47 t).length ≤ 4) && (cut 47 t).all partOK)
theorem partOK_len {t : List UInt8} (h : partOK t = true) : t.length ≤ 8 := by
  simp [partOK, within] at h; omega
theorem getD_gt {α : Type} [Inhabited α] (l : List α) (i : Nat) : gt l (i : Int) = l.getD i default := rfl
/-! ### lists and tests that may fail -/
def idxO {α : Type} (p : α → Option Bool) : List α → Option Int
  | [] => some (-1)
  | x :: l => (p x).bind fun b => bif b then some 0 else (idxO p l).map fun i => if i = -1 then -1 else i + 1
def anyO {α : Type} (p : α → Option Bool) : List α → Option Bool
  | [] => some false
  | x :: l => (p x).bind fun b => bif b then some true else anyO p l
def allO {α : Type} (p : α → Option Bool) : List α → Option Bool
  | [] => some true
  | x :: l => (p x).bind fun b => bif b then allO p l else some false
theorem anyO_some {α : Type} {p : α → Option Bool} {q : α → Bool} : ∀ {l : List α}, (∀ x ∈ l, p x = some (q x)) → anyO p l = some (l.any q) := by
  intro l
  induction l with
  | nil => intro _; rfl
  | cons x l ih => intro h; simp only [anyO, h x (by simp), Option.bind_some, List.any_cons]; rw [ih fun y hy => h y (by simp [hy])]; cases q x <;> rfl
theorem allO_some {α : Type} {p : α → Option Bool} {q : α → Bool} : ∀ {l : List α}, (∀ x ∈ l, p x = some (q x)) → allO p l = some (l.all q) := by
  intro l
  induction l with
  | nil => intro _; rfl
  | cons x l ih => intro h; simp only [allO, h x (by simp), Option.bind_some, List.all_cons]; rw [ih fun y hy => h y (by simp [hy])]; cases q x <;> rfl
theorem idxO_any {α : Type} {p : α → Option Bool} : ∀ {l : List α} {i : Int}, idxO p l = some i → -1 ≤ i ∧ anyO p l = some (decide (0 ≤ i)) := by
  intro l
  induction l with
  | nil => intro i h; simp [idxO] at h; subst h; simp [anyO]
  | cons x l ih =>
    intro i h
    simp only [idxO] at h
    obtain ⟨b, hb, h⟩ := bind_some h
    cases b with
    | true => simp at h; subst h; simp [anyO, hb]
    | false =>
      simp only [cond_false, Option.map_eq_some_iff] at h
      obtain ⟨j, hj, rfl⟩ := h
      obtain ⟨h1, h2⟩ := ih hj
      simp only [anyO, hb, Option.bind_some, cond_false, h2]
      split <;> simp_all <;> omega
theorem any_idxO {α : Type} {p : α → Option Bool} : ∀ {l : List α} {b : Bool}, anyO p l = some b → ∃ i, idxO p l = some i := by
  intro l
  induction l with
  | nil => intro b _; exact ⟨_, rfl⟩
  | cons x l ih =>
    intro b h
    simp only [anyO] at h
    obtain ⟨c, hc, h⟩ := bind_some h
    cases c with
    | true => exact ⟨0, by simp [idxO, hc]⟩
    | false => obtain ⟨i, hi⟩ := ih (by simpa using h); exact ⟨if i = -1 then -1 else i + 1, by simp [idxO, hc, hi]⟩
theorem anyO_not {α : Type} {p : α → Option Bool} : ∀ (l : List α), anyO (fun x => (p x).map (!·)) l = (allO p l).map (!·) := by
  intro l
  induction l with
  | nil => rfl
  | cons x l ih =>
    simp only [anyO, allO]
    cases p x with
    | none => rfl
    | some b => cases b <;> simp [ih]
theorem idxO_find {α : Type} [Inhabited α] {p : α → Option Bool} (l : List α) : ∀ (m i : Nat), i + m = l.length → ∀ r, idxO p (l.drop i) = some r → ∀ b : Int → Option (Step Int Int Unit),
    (∀ i : Nat, i < l.length → b i = (p (l.getD i default)).bind fun z => bif z then some (.ret (i : Int)) else some (.nxt ((i : Int) + 1))) → b l.length = some (.brk ()) → ∀ k, m < k →
    loopF b k i = some (if r = -1 then .inr () else .inl ((i : Int) + r)) := by
  intro m
  induction m with
  | zero =>
    intro i hi r hr b hb hn k hk
    obtain ⟨k, rfl⟩ : ∃ j, k = j + 1 := ⟨k - 1, by omega⟩
    have : i = l.length := by omega
    subst this
    simp [idxO] at hr; subst hr
    simp [loopF, hn]
  | succ m ih =>
    intro i hi r hr b hb hn k hk
    obtain ⟨k, rfl⟩ : ∃ j, k = j + 1 := ⟨k - 1, by omega⟩
    have hlt : i < l.length := by omega
    rw [List.drop_eq_getElem_cons hlt] at hr
    have hg : l.getD i default = l[i] := by simp [List.getD_eq_getElem?_getD, List.getElem?_eq_getElem hlt]
    simp only [idxO] at hr
    obtain ⟨c, hc, hr⟩ := bind_some hr
    simp only [loopF, hb i hlt, hg, hc, Option.bind_some]
    cases c with
    | true => simp at hr; subst hr; simp
    | false =>
      simp only [cond_false, Option.map_eq_some_iff] at hr
      obtain ⟨j, hj, rfl⟩ := hr
      simp only [cond_false, Option.bind_some]
      have := ih (i + 1) (by omega) j hj b hb hn k (by omega)
      rw [Int.natCast_add, Int.natCast_one] at this
      rw [this]
      have := (idxO_any hj).1
      by_cases h : j = -1
      · simp [h]
      · simp [h]
        have h2 : ¬ j + 1 = -1 := by omega
        simp [h2]; omega
def impl_parts.sh (a0 : List UInt8) : Option (List (List UInt8)) :=
  bif decide (a0.length ≤ 1048576) then (bif decide (([47] : List UInt8) = [47]) then (some (cut 47 a0)) else none) else none
theorem impl_parts.eq (a0 : List UInt8) (h : a0.length ≤ 1048576) : impl_parts.sh a0 = some (cut 47 a0) := by simp [impl_parts.sh, h]
/-- The first code whose test holds. -/
def firstOf : List (Bool ⊕ Int) → Int
  | a :: b :: l => if anyB a then anyI b else firstOf l
  | _ => 0
theorem list_ne_any {α : Type} [DecidableEq α] [Inhabited α] : ∀ (a b : List α), a.length = b.length → (List.range a.length).findSome? (fun j => if !decide (a.getD j default = b.getD j default) then some false else none) = if decide (a = b) then none else some false := by
  intro a b hl
  by_cases h : a = b
  · subst h
    have : (List.range a.length).findSome? (fun j => if !decide (a.getD j default = a.getD j default) then some false else none) = none := by
      rw [List.findSome?_eq_none_iff]; intro j _; simp
    rw [this]; simp
  · have : ∃ j, j < a.length ∧ a.getD j default ≠ b.getD j default := by
      apply Classical.byContradiction
      intro hn
      apply h
      apply List.ext_getElem hl
      intro i h1 h2
      have := fun hh => hn ⟨i, h1, hh⟩
      simp only [ne_eq, Classical.not_not] at this
      simpa [List.getD_eq_getElem?_getD, List.getElem?_eq_getElem h1, List.getElem?_eq_getElem h2] using Classical.not_not.1 this
    obtain ⟨j, hj, hne⟩ := this
    simp only [h, decide_false, Bool.false_eq_true, if_false]
    cases hf : (List.range a.length).findSome? (fun j => if !decide (a.getD j default = b.getD j default) then some false else none) with
    | none =>
      rw [List.findSome?_eq_none_iff] at hf
      have := hf j (List.mem_range.2 hj)
      have hd : decide (a.getD j default = b.getD j default) = false := by simpa using hne
      rw [hd] at this; simp at this
    | some t =>
      obtain ⟨j, _, ht⟩ := List.exists_of_findSome?_eq_some hf
      split at ht
      · rw [← ht]
      · cases ht

end Go.UD
