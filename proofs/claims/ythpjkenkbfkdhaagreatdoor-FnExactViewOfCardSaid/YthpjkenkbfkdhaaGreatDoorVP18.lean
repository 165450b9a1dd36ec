/- Plain Lean: what the functions compute. -/
import Derived.Test.YthpjkenkbfkdhaaGreatDoorVP17
set_option linter.unusedVariables false
set_option linter.unusedSimpArgs false
namespace Go.UL
open Go.RowKit
/-! ### the record that counts at a path -/
theorem cutDN_in (l : List (List Rec)) (p : List UInt8) : ∀ n : Nat, 0 ≤ cutDN l p n ∧ cutDN l p n ≤ n := by
  intro n
  induction n with
  | zero => exact ⟨Int.le_refl _, Int.le_refl _⟩
  | succ n ih =>
    rw [cutDN]
    split
    · omega
    · omega
theorem cutD_in (l : List (List Rec)) (p : List UInt8) : 0 ≤ cutD l p ∧ cutD l p ≤ l.length := cutDN_in l p l.length
def stepW (p : List UInt8) (s : Rec × Int × Bool) (l : List Rec) (i : Nat) : Rec × Int × Bool :=
  if 0 ≤ findR l p then (gt l (findR l p), (i : Int) + 1, s.2.2 || stopsR (gt l (findR l p))) else s
def winN (a : List (List Rec)) (p : List UInt8) (lo : Nat) : Nat → Rec × Int × Bool
  | 0 => (zeroR, 0, false)
  | n + 1 => stepW p (winN a p lo n) (a.getD (lo + n) default) (lo + n)
def lowN (a : List (List Rec)) (p : List UInt8) : Nat := (cutD a p).toNat - 1
def winner0 (a : List (List Rec)) (p : List UInt8) : Rec × Int × Bool := winN a p (lowN a p) (a.length - lowN a p)
def closeW (s : Rec × Int × Bool) : Rec := if s.1.kind = 3 then ⟨s.1.kind, s.1.path, s.1.body, s.1.mode, s.2.2⟩ else s.1
def winner (a : List (List Rec)) (p : List UInt8) : Rec × Int := (closeW (winner0 a p), (winner0 a p).2.1)
def winnerAt (a : List (List Rec)) (p : List UInt8) : Rec × Int × Int :=
  if pathCode a p ≠ 0 then (zeroR, 0, pathCode a p) else if 0 < (winner a p).2 then ((winner a p).1, (winner a p).2, 0) else (zeroR, 0, 5)
theorem lowN_le (a : List (List Rec)) (p : List UInt8) : lowN a p ≤ a.length := by have := cutD_in a p; unfold lowN; omega
theorem lowN_int (a : List (List Rec)) (p : List UInt8) : (if ((cutD a p) < 1 : Prop) then (1 : Int) else cutD a p) = (lowN a p : Int) + 1 := by
  have := cutD_in a p; unfold lowN; split <;> omega
theorem winN_inv (a : List (List Rec)) (p : List UInt8) (lo : Nat) : ∀ n, lo + n ≤ a.length → winN a p lo n = (zeroR, 0, false) ∨ (0 < (winN a p lo n).2.1 ∧ (winN a p lo n).2.1 ≤ ((lo + n : Nat) : Int) ∧ (stopsR (winN a p lo n).1 = true → (winN a p lo n).2.2 = true) ∧ ∃ l ∈ a, (winN a p lo n).1 ∈ l ∧ (winN a p lo n).1.path = p) := by
  intro n
  induction n with
  | zero => intro _; exact .inl rfl
  | succ n ih =>
    intro hn
    have ih := ih (by omega)
    rw [winN, stepW]
    have hlt : lo + n < a.length := by omega
    by_cases hf : 0 ≤ findR (a.getD (lo + n) default) p
    · rw [if_pos hf]
      obtain ⟨h1, h2⟩ := findI_get (fun r : Rec => decide (r.path = p)) _ hf
      refine .inr ⟨by show (0 : Int) < ((lo + n : Nat) : Int) + 1; omega, by show ((lo + n : Nat) : Int) + 1 ≤ _; omega, fun h => ?_, a[lo + n], List.getElem_mem hlt, ?_, of_decide_eq_true h2⟩
      · show (_ || _) = true
        rw [h, Bool.or_true]
      · show gt _ _ ∈ _
        rw [← getD_el hlt]
        obtain ⟨hj, he⟩ := gt_get h1
        unfold findR
        rw [← he]
        exact List.getElem_mem hj
    · rw [if_neg hf]
      rcases ih with h | ⟨h1, h2, h3, h4⟩
      · exact .inl h
      · exact .inr ⟨h1, by omega, h3, h4⟩
theorem recFault_opq {r : Rec} (h : recFault r = 0) (ho : r.opq = true) : r.kind = 3 := by
  unfold recFault at h
  by_cases hk : r.kind = 3
  · exact hk
  · simp only [ho, hk, decide_false, Bool.not_false, Bool.true_and, Bool.or_true, if_true] at h
    repeat' split at h
    all_goals omega
def closeS (s : Rec × Int × Bool) : Rec := if s.2.2 then ⟨s.1.kind, s.1.path, s.1.body, s.1.mode, decide (s.1.kind = 3)⟩ else s.1
theorem closeS_eq {a : List (List Rec)} {p : List UInt8} (h : stackOK a = true) {lo n : Nat} (hn : lo + n ≤ a.length) : closeS (winN a p lo n) = closeW (winN a p lo n) := by
  rcases winN_inv a p lo n hn with h0 | ⟨_, _, hs, l, hl, hx, _⟩
  · rw [h0]; rfl
  · have hr := layerOK_rec ((stackOK_layer h).2 l hl) _ hx
    have ho := recFault_opq hr
    generalize winN a p lo n = s at *
    obtain ⟨⟨k, q, b, m, o⟩, i, t⟩ := s
    simp only [closeS, closeW, stopsR] at *
    by_cases hk : k = 3
    · cases t
      · cases o
        · simp [hk]
        · simp at hs
      · simp [hk]
    · have ht : t = true := hs (by simp [hk])
      have hof : o = false := by
        cases o
        · rfl
        · exact absurd (ho rfl) hk
      simp [hk, ht, hof]
theorem winner_pos (a : List (List Rec)) (p : List UInt8) : 0 ≤ (winner a p).2 := by
  have h := winN_inv a p (lowN a p) (a.length - lowN a p) (by have := lowN_le a p; omega)
  show 0 ≤ (winN a p (lowN a p) (a.length - lowN a p)).2.1
  rcases h with h | ⟨h, _⟩
  · rw [h]; exact Int.le_refl _
  · omega

end Go.UL
