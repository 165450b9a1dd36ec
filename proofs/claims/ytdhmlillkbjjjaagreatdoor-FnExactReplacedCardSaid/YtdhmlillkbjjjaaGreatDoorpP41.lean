import Derived.Test.YtdhmlillkbjjjaaGreatDoorpP35
set_option linter.unusedVariables false
set_option linter.unusedSimpArgs false
namespace Go.UL
open Go.RowKit
structure SrcOK (n : Int) (s : DSrc) : Prop where
 p0 : 0 ≤ s.pos
 p1 : s.pos ≤ n
 s0 : 0 ≤ s.seed
 s1 : s.seed < 2147483648
theorem SrcOK.mono {n m : Int} {s : DSrc} (h : SrcOK n s) (k : n ≤ m) : SrcOK m s := ⟨h.p0, Int.le_trans h.p1 k, h.s0, h.s1⟩
def Dr {α : Type} (X : Option (α × DSrc)) (n : Int) (Q : α → Prop) : Prop := ∃ r s, X = some (r, s) ∧ SrcOK n s ∧ Q r
theorem Dr.mono {α : Type} {X : Option (α × DSrc)} {n m : Int} {Q R : α → Prop} (h : Dr X n Q) (k : n ≤ m) (hq : ∀ r, Q r → R r) : Dr X m R := by
 obtain ⟨r, s, h1, h2, h3⟩ := h
 exact ⟨r, s, h1, h2.mono k, hq r h3⟩
def XD (t : List UInt8) : Prop := yy t = true ∧ t.length ≤ 3 ∧ ∀ b ∈ t, bn b ≠ 47
def YO (m : Nat) (t : List UInt8) : Prop := ∃ l : List (List UInt8), l ≠ [] ∧ l.length ≤ m ∧ (∀ x ∈ l, XD x) ∧ t = yj l
theorem YO.len {m : Nat} {t : List UInt8} (h : YO m t) : t.length ≤ 4 * m := by
 obtain ⟨l, h1, h2, h3, rfl⟩ := h
 have : ∀ l : List (List UInt8), (∀ x ∈ l, XD x) → (yj l).length ≤ 4 * l.length := by
  intro l
  induction l with
  | nil => intro _; simp [yj]
  | cons x l ih =>
   intro hx
   have h4 := ih fun y hy => hx y (by simp [hy])
   have h5 := (hx x (by simp)).2.1
   by_cases hl : l = []
   ·subst hl; simp [yj]; omega
   ·rw [Qk x hl]; simp; omega
 have := this l h3
 omega
theorem YO.parts {m : Nat} {t : List UInt8} (h : YO m t) : (cut 47 t).length ≤ m ∧ ∀ x ∈ cut 47 t, XD x := by
 obtain ⟨l, h1, h2, h3, rfl⟩ := h
 rw [YQ h1 fun x hx => (h3 x hx).2.2]
 exact ⟨h2, h3⟩
theorem YO.ok {t : List UInt8} (h : YO 3 t) : qK t = true := by
 have h1 := h.len
 obtain ⟨h2, h3⟩ := h.parts
 simp only [qK, Bool.and_eq_true, decide_eq_true_eq, List.all_eq_true]
 exact ⟨by omega, by omega, fun x hx => (h3 x hx).1⟩
theorem Sheet.bool {l : List Rec} (h : Sheet l) : yr l = true := VT (fun x hx => jh (h.ok x hx)) h.rise
structure Lay (l : List Rec) : Prop where
 sheet : Sheet l
 len : l.length ≤ 16
 deep : ∀ r ∈ l, (cut 47 r.path).length ≤ 3
theorem Lay.nil : Lay [] := ⟨Sheet.nil, by simp, by simp⟩
theorem look_pos {t : List Nd} {p : List UInt8} {x : Nd} (h : V7 t p = some x) : 0 ≤ QA t p ∧ gt t (QA t p) = x ∧ inR (QA t p) t.length = true := by
 have h1 := (QR t p).1.2 (by rw [h]; simp)
 exact ⟨h1, (QR t p).2 x h, findN_inR (by omega)⟩
end Go.UL
