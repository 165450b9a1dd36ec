/- Plain Lean: what the functions compute. -/
import Derived.Test.YthpjkenkbfkdhaaGreatDoorJP17
set_option linter.unusedVariables false
set_option linter.unusedSimpArgs false
namespace Go.UL
open Go.RowKit
/-! ### the record that counts at a path -/
theorem cutDN_in (l : List (List Rec)) (p : List UInt8) : ∀ n : Nat, 0 ≤ cutDN l p n ∧ cutDN l p n ≤ n := by
  intro n
  induction n with
  | zero => exact ⟨Int.le_refl _, Int.le_refl _⟩
  | succ n ih =>
    rw [cutDN]
    split
    · omega
    · omega
theorem cutD_in (l : List (List Rec)) (p : List UInt8) : 0 ≤ cutD l p ∧ cutD l p ≤ l.length := cutDN_in l p l.length
def stepW (p : List UInt8) (s : Rec × Int × Bool) (l : List Rec) (i : Nat) : Rec × Int × Bool :=
  if 0 ≤ findR l p then (gt l (findR l p), (i : Int) + 1, s.2.2 || stopsR (gt l (findR l p))) else s
def winN (a : List (List Rec)) (p : List UInt8) (lo : Nat) : Nat → Rec × Int × Bool
  | 0 => (zeroR, 0, false)
  | n + 1 => stepW p (winN a p lo n) (a.getD (lo + n) default) (lo + n)
def lowN (a : List (List Rec)) (p : List UInt8) : Nat := (cutD a p).toNat - 1
def winner0 (a : List (List Rec)) (p : List UInt8) : Rec × Int × Bool := winN a p (lowN a p) (a.length - lowN a p)
def closeW (s : Rec × Int × Bool) : Rec := if s.1.kind = 3 then ⟨s.1.kind, s.1.path, s.1.body, s.1.mode, s.2.2⟩ else s.1
def winner (a : List (List Rec)) (p : List UInt8) : Rec × Int := (closeW (winner0 a p), (winner0 a p).2.1)
theorem lowN_le (a : List (List Rec)) (p : List UInt8) : lowN a p ≤ a.length := by have := cutD_in a p; unfold lowN; omega
theorem lowN_int (a : List (List Rec)) (p : List UInt8) : (if ((cutD a p) < 1 : Prop) then (1 : Int) else cutD a p) = (lowN a p : Int) + 1 := by
  have := cutD_in a p; unfold lowN; split <;> omega
theorem winN_inv (a : List (List Rec)) (p : List UInt8) (lo : Nat) : ∀ n, lo + n ≤ a.length → winN a p lo n = (zeroR, 0, false) ∨ (0 < (winN a p lo n).2.1 ∧ (winN a p lo n).2.1 ≤ ((lo + n : Nat) : Int) ∧ (stopsR (winN a p lo n).1 = true → (winN a p lo n).2.2 = true) ∧ ∃ l ∈ a, (winN a p lo n).1 ∈ l ∧ (winN a p lo n).1.path = p) := by
  intro n
  induction n with
  | zero => intro _; exact .inl rfl
  | succ n ih =>
    intro hn
    have ih := ih (by omega)
    rw [winN, stepW]
    have hlt : lo + n < a.length := by omega
    by_cases hf : 0 ≤ findR (a.getD (lo + n) default) p
    · rw [if_pos hf]
      obtain ⟨h1, h2⟩ := findI_get (fun r : Rec => decide (r.path = p)) _ hf
      refine .inr ⟨by show (0 : Int) < ((lo + n : Nat) : Int) + 1; omega, by show ((lo + n : Nat) : Int) + 1 ≤ _; omega, fun h => ?_, a[lo + n], List.getElem_mem hlt, ?_, of_decide_eq_true h2⟩
      · show (_ || _) = true
        rw [h, Bool.or_true]
      · show gt _ _ ∈ _
        rw [← getD_el hlt]
        obtain ⟨hj, he⟩ := gt_get h1
        unfold findR
        rw [← he]
        exact List.getElem_mem hj
    · rw [if_neg hf]
      rcases ih with h | ⟨h1, h2, h3, h4⟩
      · exact .inl h
      · exact .inr ⟨h1, by omega, h3, h4⟩
def impl_winner.b1 (a0 : List (List Rec)) (a1 : List UInt8) : Int × Bool × Int × Rec → Option (Step (Rec × Int × Bool) (Int × Bool × Int × Rec) (Int × Bool × Rec)) :=
  fun q => match q with
  | (x8_21, x9_22, x10_23, y24) => bif (decide (x10_23 ≤ (a0.length : Int))) then (bif inR (IntKind.wrap .i64 (x10_23 - 1)) a0.length then (bif decide ((gt a0 (IntKind.wrap .i64 (x10_23 - 1))).length ≤ 1048576) then (bif (decide (0 ≤ (findR (gt a0 (IntKind.wrap .i64 (x10_23 - 1))) a1))) then (bif inR (IntKind.wrap .i64 (x10_23 - 1)) a0.length then (bif inR (findR (gt a0 (IntKind.wrap .i64 (x10_23 - 1))) a1) (gt a0 (IntKind.wrap .i64 (x10_23 - 1))).length then (some (.nxt (x10_23, (x9_22 || (stopsR (gt (gt a0 (IntKind.wrap .i64 (x10_23 - 1))) (findR (gt a0 (IntKind.wrap .i64 (x10_23 - 1))) a1)))), IntKind.wrap .i64 (x10_23 + 1), (gt (gt a0 (IntKind.wrap .i64 (x10_23 - 1))) (findR (gt a0 (IntKind.wrap .i64 (x10_23 - 1))) a1))))) else none) else none) else (some (.nxt (x8_21, x9_22, IntKind.wrap .i64 (x10_23 + 1), y24)))) else none) else none) else (some (.brk (x8_21, x9_22, y24)))
def impl_winner.sh (k : Nat) (a0 : List (List Rec)) (a1 : List UInt8) : Option (Rec × Int × Bool) :=
  bif decide (a0.length ≤ 1048576) then (bif decide (a1.length ≤ 1048576) then (bif decide (∀ l ∈ a0, l.length ≤ 1048576) then ((loopF (impl_winner.b1 a0 a1) k (0, false, (if ((cutD a0 a1) < 1 : Prop) then 1 else (cutD a0 a1)), (⟨0, ([] : List UInt8), ([] : List UInt8), 0, false⟩ : Rec))).bind fun z => match z with | .inl t => some t | .inr (x8_28, x9_29, y30) => bif (decide (y30.kind = 3)) then (some ((⟨y30.kind, y30.path, y30.body, y30.mode, x9_29⟩ : Rec), x8_28, (decide (0 < x8_28)))) else (some (y30, x8_28, (decide (0 < x8_28))))) else none) else none) else none
theorem impl_winner.eq (a0 : List (List Rec)) (a1 : List UInt8) (h0 : stackOK a0 = true) (h1 : a0.length ≤ 1048576) (h2 : a1.length ≤ 1048576) (h3 : ∀ l ∈ a0, l.length ≤ 1048576) : ∃ k, impl_winner.sh k a0 a1 = some ((winner a0 a1).1, (winner a0 a1).2, decide ((0 : Int) < (winner a0 a1).2)) := by
  refine ⟨a0.length + 1, ?_⟩
  unfold impl_winner.sh winner
  rw [lowN_int]
  have hlo := lowN_le a0 a1
  have key : ∀ (m n k : Nat), lowN a0 a1 + n + m = a0.length → m < k → loopF (impl_winner.b1 a0 a1) k ((winN a0 a1 (lowN a0 a1) n).2.1, (winN a0 a1 (lowN a0 a1) n).2.2, ((lowN a0 a1 + n : Nat) : Int) + 1, (winN a0 a1 (lowN a0 a1) n).1) = some (.inr ((winner0 a0 a1).2.1, (winner0 a0 a1).2.2, (winner0 a0 a1).1)) := by
    intro m
    induction m with
    | zero =>
      intro n k hn hk
      obtain ⟨k, rfl⟩ : ∃ j, k = j + 1 := ⟨k - 1, by omega⟩
      have e : a0.length - lowN a0 a1 = n := by omega
      have e9 : ¬ (((lowN a0 a1 + n : Nat) : Int) + 1 ≤ (a0.length : Int)) := by omega
      rw [loopF]
      simp only [impl_winner.b1, e9, decide_false, cond_false]
      rw [winner0, e]; rfl
    | succ m ih =>
      intro n k hn hk
      obtain ⟨k, rfl⟩ : ∃ j, k = j + 1 := ⟨k - 1, by omega⟩
      have hlt : lowN a0 a1 + n < a0.length := by omega
      have e1 := h3 a0[lowN a0 a1 + n] (List.getElem_mem hlt)
      rw [← getD_el hlt] at e1
      have e9 : ((lowN a0 a1 + n : Nat) : Int) + 1 ≤ (a0.length : Int) := by omega
      have ew : IntKind.wrap .i64 (((lowN a0 a1 + n : Nat) : Int) + 1 - 1) = ((lowN a0 a1 + n : Nat) : Int) := by
        rw [wrap_small (by omega) (by omega)]; omega
      have ew2 : IntKind.wrap .i64 (((lowN a0 a1 + n : Nat) : Int) + 1 + 1) = ((lowN a0 a1 + (n + 1) : Nat) : Int) + 1 := by
        rw [wrap_small (by omega) (by omega)]; omega
      have hI := ih (n + 1) k (by omega) (by omega)
      rw [loopF]
      simp only [impl_winner.b1, e9, decide_true, cond_true, ew, ew2, inR_nat hlt, getD_gt, e1]
      by_cases hf : 0 ≤ findR (a0.getD (lowN a0 a1 + n) default) a1
      · have es : winN a0 a1 (lowN a0 a1) (n + 1) = (gt (a0.getD (lowN a0 a1 + n) default) (findR (a0.getD (lowN a0 a1 + n) default) a1), ((lowN a0 a1 + n : Nat) : Int) + 1, (winN a0 a1 (lowN a0 a1) n).2.2 || stopsR (gt (a0.getD (lowN a0 a1 + n) default) (findR (a0.getD (lowN a0 a1 + n) default) a1))) := by
          rw [winN, stepW, if_pos hf]
        rw [es] at hI
        simp only [hf, decide_true, cond_true, findR_inR hf]
        exact hI
      · have es : winN a0 a1 (lowN a0 a1) (n + 1) = winN a0 a1 (lowN a0 a1) n := by rw [winN, stepW, if_neg hf]
        rw [es] at hI
        simp only [hf, decide_false, cond_false]
        exact hI
  have hk := key (a0.length - lowN a0 a1) 0 (a0.length + 1) (by omega) (by omega)
  simp only [winN, Nat.add_zero] at hk
  simp only [zeroR] at hk
  simp only [h0, h1, h2, decide_true, cond_true, decide_eq_true h3, hk, Option.bind_some, closeW]
  by_cases hd : (winner0 a0 a1).1.kind = 3 <;> simp [hd]
theorem recFault_opq {r : Rec} (h : recFault r = 0) (ho : r.opq = true) : r.kind = 3 := by
  unfold recFault at h
  by_cases hk : r.kind = 3
  · exact hk
  · simp only [ho, hk, decide_false, Bool.not_false, Bool.true_and, Bool.or_true, if_true] at h
    repeat' split at h
    all_goals omega
def closeS (s : Rec × Int × Bool) : Rec := if s.2.2 then ⟨s.1.kind, s.1.path, s.1.body, s.1.mode, decide (s.1.kind = 3)⟩ else s.1
theorem closeS_eq {a : List (List Rec)} {p : List UInt8} (h : stackOK a = true) {lo n : Nat} (hn : lo + n ≤ a.length) : closeS (winN a p lo n) = closeW (winN a p lo n) := by
  rcases winN_inv a p lo n hn with h0 | ⟨_, _, hs, l, hl, hx, _⟩
  · rw [h0]; rfl
  · have hr := layerOK_rec ((stackOK_layer h).2 l hl) _ hx
    have ho := recFault_opq hr
    generalize winN a p lo n = s at *
    obtain ⟨⟨k, q, b, m, o⟩, i, t⟩ := s
    simp only [closeS, closeW, stopsR] at *
    by_cases hk : k = 3
    · cases t
      · cases o
        · simp [hk]
        · simp at hs
      · simp [hk]
    · have ht : t = true := hs (by simp [hk])
      have hof : o = false := by
        cases o
        · rfl
        · exact absurd (ho rfl) hk
      simp [hk, ht, hof]
def spec_l07Winner.b1 (a0 : List (List Rec)) (a1 : List UInt8) : Int × Int × Rec → Option (Step (Rec × Int) (Int × Int × Rec) (Int × Rec)) :=
  fun q => match q with
  | (x8_21, x9_22, y23) => bif (decide ((if ((cutD a0 a1) < 1 : Prop) then 1 else (cutD a0 a1)) ≤ x9_22)) then (bif inR (IntKind.wrap .i64 (x9_22 - 1)) a0.length then (bif decide ((gt a0 (IntKind.wrap .i64 (x9_22 - 1))).length ≤ 1048576) then (bif (decide ((findR (gt a0 (IntKind.wrap .i64 (x9_22 - 1))) a1) < 0)) then (some (.nxt (x8_21, IntKind.wrap .i64 (x9_22 - 1), y23))) else (bif inR (IntKind.wrap .i64 (x9_22 - 1)) a0.length then (bif inR (findR (gt a0 (IntKind.wrap .i64 (x9_22 - 1))) a1) (gt a0 (IntKind.wrap .i64 (x9_22 - 1))).length then (bif (decide (x8_21 = 0)) then ((some (stopsR (gt (gt a0 (IntKind.wrap .i64 (x9_22 - 1))) (findR (gt a0 (IntKind.wrap .i64 (x9_22 - 1))) a1)))).bind fun z77 => bif z77 then (some (.ret ((⟨(gt (gt a0 (IntKind.wrap .i64 (x9_22 - 1))) (findR (gt a0 (IntKind.wrap .i64 (x9_22 - 1))) a1)).kind, (gt (gt a0 (IntKind.wrap .i64 (x9_22 - 1))) (findR (gt a0 (IntKind.wrap .i64 (x9_22 - 1))) a1)).path, (gt (gt a0 (IntKind.wrap .i64 (x9_22 - 1))) (findR (gt a0 (IntKind.wrap .i64 (x9_22 - 1))) a1)).body, (gt (gt a0 (IntKind.wrap .i64 (x9_22 - 1))) (findR (gt a0 (IntKind.wrap .i64 (x9_22 - 1))) a1)).mode, (decide (((gt (gt a0 (IntKind.wrap .i64 (x9_22 - 1))) (findR (gt a0 (IntKind.wrap .i64 (x9_22 - 1))) a1)).kind) = 3))⟩ : Rec), x9_22))) else (some (.nxt (x9_22, IntKind.wrap .i64 (x9_22 - 1), (gt (gt a0 (IntKind.wrap .i64 (x9_22 - 1))) (findR (gt a0 (IntKind.wrap .i64 (x9_22 - 1))) a1)))))) else ((some (stopsR (gt (gt a0 (IntKind.wrap .i64 (x9_22 - 1))) (findR (gt a0 (IntKind.wrap .i64 (x9_22 - 1))) a1)))).bind fun z88 => bif z88 then (some (.ret ((⟨y23.kind, y23.path, y23.body, y23.mode, (decide (y23.kind = 3))⟩ : Rec), x8_21))) else (some (.nxt (x8_21, IntKind.wrap .i64 (x9_22 - 1), y23))))) else none) else none)) else none) else none) else (some (.brk (x8_21, y23)))
def spec_l07Winner.sh (k : Nat) (a0 : List (List Rec)) (a1 : List UInt8) : Option (Rec × Int) :=
  bif decide (a0.length ≤ 1048576) then (bif decide (a1.length ≤ 1048576) then (bif decide (∀ l ∈ a0, l.length ≤ 1048576) then ((loopF (spec_l07Winner.b1 a0 a1) k (0, (a0.length : Int), (⟨0, ([] : List UInt8), ([] : List UInt8), 0, false⟩ : Rec))).bind fun z => match z with | .inl t => some t | .inr (x8_27, y28) => some (y28, x8_27)) else none) else none) else none
theorem spec_l07Winner.eq (a0 : List (List Rec)) (a1 : List UInt8) (h0 : stackOK a0 = true) (h1 : a0.length ≤ 1048576) (h2 : a1.length ≤ 1048576) (h3 : ∀ l ∈ a0, l.length ≤ 1048576) : ∃ k, spec_l07Winner.sh k a0 a1 = some ((winner a0 a1).1, (winner a0 a1).2) := by
  refine ⟨a0.length + 1, ?_⟩
  unfold spec_l07Winner.sh winner
  have hlo := lowN_le a0 a1
  have stp : ∀ n : Nat, lowN a0 a1 + (n + 1) ≤ a0.length → inR ((lowN a0 a1 + n : Nat) : Int) a0.length = true ∧ (a0.getD (lowN a0 a1 + n) default).length ≤ 1048576 ∧ ((if ((cutD a0 a1) < 1 : Prop) then (1 : Int) else cutD a0 a1) ≤ ((lowN a0 a1 + (n + 1) : Nat) : Int)) ∧ IntKind.wrap .i64 (((lowN a0 a1 + (n + 1) : Nat) : Int) - 1) = ((lowN a0 a1 + n : Nat) : Int) := by
    intro n hn
    have hlt : lowN a0 a1 + n < a0.length := by omega
    have e1 := h3 a0[lowN a0 a1 + n] (List.getElem_mem hlt)
    rw [← getD_el hlt] at e1
    exact ⟨inR_nat hlt, e1, by rw [lowN_int]; omega, by rw [wrap_small (by omega) (by omega)]; omega⟩
  have stop : ¬ ((if ((cutD a0 a1) < 1 : Prop) then (1 : Int) else cutD a0 a1) ≤ ((lowN a0 a1 : Nat) : Int)) := by rw [lowN_int]; omega
  have key2 : ∀ (n k : Nat) (f : Int) (y : Rec), f ≠ 0 → lowN a0 a1 + n ≤ a0.length → n < k → ∃ z, loopF (spec_l07Winner.b1 a0 a1) k (f, ((lowN a0 a1 + n : Nat) : Int), y) = some z ∧ (match z with | .inl t => some t | .inr (x, y) => some (y, x)) = some ((if (winN a0 a1 (lowN a0 a1) n).2.2 then ⟨y.kind, y.path, y.body, y.mode, decide (y.kind = 3)⟩ else y : Rec), f) := by
    intro n
    induction n with
    | zero =>
      intro k f y hf hn hk
      obtain ⟨k, rfl⟩ : ∃ j, k = j + 1 := ⟨k - 1, by omega⟩
      refine ⟨.inr (f, y), ?_, rfl⟩
      rw [loopF]
      simp only [spec_l07Winner.b1, Nat.add_zero, stop, decide_false, cond_false]; rfl
    | succ n ih =>
      intro k f y hf hn hk
      obtain ⟨k, rfl⟩ : ∃ j, k = j + 1 := ⟨k - 1, by omega⟩
      obtain ⟨s1, s2, s3, s4⟩ := stp n hn
      obtain ⟨z, hz, hP⟩ := ih k f y hf (by omega) (by omega)
      rw [loopF]
      simp only [spec_l07Winner.b1, s3, decide_true, cond_true, s4, s1, getD_gt, s2]
      by_cases hr : 0 ≤ findR (a0.getD (lowN a0 a1 + n) default) a1
      · have es : winN a0 a1 (lowN a0 a1) (n + 1) = (gt (a0.getD (lowN a0 a1 + n) default) (findR (a0.getD (lowN a0 a1 + n) default) a1), ((lowN a0 a1 + n : Nat) : Int) + 1, (winN a0 a1 (lowN a0 a1) n).2.2 || stopsR (gt (a0.getD (lowN a0 a1 + n) default) (findR (a0.getD (lowN a0 a1 + n) default) a1))) := by
          rw [winN, stepW, if_pos hr]
        have hr2 : ¬ findR (a0.getD (lowN a0 a1 + n) default) a1 < 0 := by omega
        rw [es]
        simp only [hr2, decide_false, cond_false, findR_inR hr, cond_true, hf, Option.bind_some]
        rcases bool_two (stopsR (gt (a0.getD (lowN a0 a1 + n) default) (findR (a0.getD (lowN a0 a1 + n) default) a1))) with hs | hs
        · exact ⟨.inl (⟨y.kind, y.path, y.body, y.mode, decide (y.kind = 3)⟩, f), by rw [hs]; rfl, by rw [hs, Bool.or_true]; rfl⟩
        · refine ⟨z, by rw [hs]; exact hz, ?_⟩
          rw [hs, Bool.or_false]; exact hP
      · have es : winN a0 a1 (lowN a0 a1) (n + 1) = winN a0 a1 (lowN a0 a1) n := by rw [winN, stepW, if_neg hr]
        have hr2 : findR (a0.getD (lowN a0 a1 + n) default) a1 < 0 := by omega
        rw [es]
        simp only [hr2, decide_true, cond_true]
        exact ⟨z, hz, hP⟩
  have key1 : ∀ (n k : Nat), lowN a0 a1 + n ≤ a0.length → n < k → ∃ z, loopF (spec_l07Winner.b1 a0 a1) k (0, ((lowN a0 a1 + n : Nat) : Int), zeroR) = some z ∧ (match z with | .inl t => some t | .inr (x, y) => some (y, x)) = some (closeS (winN a0 a1 (lowN a0 a1) n), (winN a0 a1 (lowN a0 a1) n).2.1) := by
    intro n
    induction n with
    | zero =>
      intro k hn hk
      obtain ⟨k, rfl⟩ : ∃ j, k = j + 1 := ⟨k - 1, by omega⟩
      refine ⟨.inr (0, zeroR), ?_, rfl⟩
      rw [loopF]
      simp only [spec_l07Winner.b1, Nat.add_zero, stop, decide_false, cond_false]; rfl
    | succ n ih =>
      intro k hn hk
      obtain ⟨k, rfl⟩ : ∃ j, k = j + 1 := ⟨k - 1, by omega⟩
      obtain ⟨s1, s2, s3, s4⟩ := stp n hn
      rw [loopF]
      simp only [spec_l07Winner.b1, s3, decide_true, cond_true, s4, s1, getD_gt, s2]
      by_cases hr : 0 ≤ findR (a0.getD (lowN a0 a1 + n) default) a1
      · have es : winN a0 a1 (lowN a0 a1) (n + 1) = (gt (a0.getD (lowN a0 a1 + n) default) (findR (a0.getD (lowN a0 a1 + n) default) a1), ((lowN a0 a1 + n : Nat) : Int) + 1, (winN a0 a1 (lowN a0 a1) n).2.2 || stopsR (gt (a0.getD (lowN a0 a1 + n) default) (findR (a0.getD (lowN a0 a1 + n) default) a1))) := by
          rw [winN, stepW, if_pos hr]
        have hr2 : ¬ findR (a0.getD (lowN a0 a1 + n) default) a1 < 0 := by omega
        have ei : ((lowN a0 a1 + (n + 1) : Nat) : Int) = ((lowN a0 a1 + n : Nat) : Int) + 1 := by omega
        rw [es]
        simp only [hr2, decide_false, cond_false, findR_inR hr, cond_true, decide_true, Option.bind_some]
        generalize gt (a0.getD (lowN a0 a1 + n) default) (findR (a0.getD (lowN a0 a1 + n) default) a1) = x
        rcases bool_two (stopsR x) with hs | hs
        · refine ⟨.inl (⟨x.kind, x.path, x.body, x.mode, decide (x.kind = 3)⟩, ((lowN a0 a1 + (n + 1) : Nat) : Int)), by rw [hs]; rfl, ?_⟩
          simp only [closeS, hs, Bool.or_true, if_true]
          rw [ei]
        · obtain ⟨z, hz, hP⟩ := key2 n k ((lowN a0 a1 + (n + 1) : Nat) : Int) x (by omega) (by omega) (by omega)
          refine ⟨z, by rw [hs]; exact hz, ?_⟩
          rw [hP]
          simp only [closeS, hs, Bool.or_false]
          rw [ei]
      · have es : winN a0 a1 (lowN a0 a1) (n + 1) = winN a0 a1 (lowN a0 a1) n := by rw [winN, stepW, if_neg hr]
        have hr2 : findR (a0.getD (lowN a0 a1 + n) default) a1 < 0 := by omega
        rw [es]
        obtain ⟨z, hz, hP⟩ := ih k (by omega) (by omega)
        simp only [hr2, decide_true, cond_true]
        exact ⟨z, hz, hP⟩
  obtain ⟨z, hz, hP⟩ := key1 (a0.length - lowN a0 a1) (a0.length + 1) (by omega) (by omega)
  have el : ((lowN a0 a1 + (a0.length - lowN a0 a1) : Nat) : Int) = (a0.length : Int) := by omega
  rw [el] at hz
  simp only [zeroR] at hz
  simp only [h0, h1, h2, decide_true, cond_true, decide_eq_true h3, hz, Option.bind_some]
  rw [closeS_eq h0 (by omega)] at hP
  exact hP
end Go.UL
