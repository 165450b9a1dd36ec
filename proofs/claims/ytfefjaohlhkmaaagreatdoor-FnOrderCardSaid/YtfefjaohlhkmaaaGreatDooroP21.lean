/- Plain Lean: what the functions compute. -/
import Derived.Test.YtfefjaohlhkmaaaGreatDooroP15
set_option linter.unusedVariables false
set_option linter.unusedSimpArgs false
namespace Go.UL
open Go.RowKit
/-! ### what stands in a directory -/
/-! ### nodes taken out -/
def without (l : List Nd) (p : List UInt8) (self : Bool) : List Nd := l.filter fun x => !((decide (p = []) && !decide (x.path = [])) || belowP x.path p) && (!self || !decide (x.path = p))
/-! ### the record that counts at a path -/
theorem cutDN_in (l : List (List Rec)) (p : List UInt8) : ∀ n : Nat, 0 ≤ cutDN l p n ∧ cutDN l p n ≤ n := by
  intro n
  induction n with
  | zero => exact ⟨Int.le_refl _, Int.le_refl _⟩
  | succ n ih =>
    rw [cutDN]
    split
    · omega
    · omega
theorem cutD_in (l : List (List Rec)) (p : List UInt8) : 0 ≤ cutD l p ∧ cutD l p ≤ l.length := cutDN_in l p l.length
def stepW (p : List UInt8) (s : Rec × Int × Bool) (l : List Rec) (i : Nat) : Rec × Int × Bool :=
  if 0 ≤ findR l p then (gt l (findR l p), (i : Int) + 1, s.2.2 || stopsR (gt l (findR l p))) else s
def winN (a : List (List Rec)) (p : List UInt8) (lo : Nat) : Nat → Rec × Int × Bool
  | 0 => (zeroR, 0, false)
  | n + 1 => stepW p (winN a p lo n) (a.getD (lo + n) default) (lo + n)
def lowN (a : List (List Rec)) (p : List UInt8) : Nat := (cutD a p).toNat - 1
def winner0 (a : List (List Rec)) (p : List UInt8) : Rec × Int × Bool := winN a p (lowN a p) (a.length - lowN a p)
def closeW (s : Rec × Int × Bool) : Rec := if s.1.kind = 3 then ⟨s.1.kind, s.1.path, s.1.body, s.1.mode, s.2.2⟩ else s.1
def winner (a : List (List Rec)) (p : List UInt8) : Rec × Int := (closeW (winner0 a p), (winner0 a p).2.1)
theorem lowN_le (a : List (List Rec)) (p : List UInt8) : lowN a p ≤ a.length := by have := cutD_in a p; unfold lowN; omega
theorem lowN_int (a : List (List Rec)) (p : List UInt8) : (if ((cutD a p) < 1 : Prop) then (1 : Int) else cutD a p) = (lowN a p : Int) + 1 := by
  have := cutD_in a p; unfold lowN; split <;> omega
theorem winN_inv (a : List (List Rec)) (p : List UInt8) (lo : Nat) : ∀ n, lo + n ≤ a.length → winN a p lo n = (zeroR, 0, false) ∨ (0 < (winN a p lo n).2.1 ∧ (winN a p lo n).2.1 ≤ ((lo + n : Nat) : Int) ∧ (stopsR (winN a p lo n).1 = true → (winN a p lo n).2.2 = true) ∧ ∃ l ∈ a, (winN a p lo n).1 ∈ l ∧ (winN a p lo n).1.path = p) := by
  intro n
  induction n with
  | zero => intro _; exact .inl rfl
  | succ n ih =>
    intro hn
    have ih := ih (by omega)
    rw [winN, stepW]
    have hlt : lo + n < a.length := by omega
    by_cases hf : 0 ≤ findR (a.getD (lo + n) default) p
    · rw [if_pos hf]
      obtain ⟨h1, h2⟩ := findI_get (fun r : Rec => decide (r.path = p)) _ hf
      refine .inr ⟨by show (0 : Int) < ((lo + n : Nat) : Int) + 1; omega, by show ((lo + n : Nat) : Int) + 1 ≤ _; omega, fun h => ?_, a[lo + n], List.getElem_mem hlt, ?_, of_decide_eq_true h2⟩
      · show (_ || _) = true
        rw [h, Bool.or_true]
      · show gt _ _ ∈ _
        rw [← getD_el hlt]
        obtain ⟨hj, he⟩ := gt_get h1
        unfold findR
        rw [← he]
        exact List.getElem_mem hj
    · rw [if_neg hf]
      rcases ih with h | ⟨h1, h2, h3, h4⟩
      · exact .inl h
      · exact .inr ⟨h1, by omega, h3, h4⟩
def impl_winner.b1 (a0 : List (List Rec)) (a1 : List UInt8) : Int × Bool × Int × Rec → Option (Step (Rec × Int × Bool) (Int × Bool × Int × Rec) (Int × Bool × Rec)) :=
  fun q => match q with
  | (x8_21, x9_22, x10_23, y24) => bif (decide (x10_23 ≤ (a0.length : Int))) then (bif inR (IntKind.wrap .i64 (x10_23 - 1)) a0.length then (bif decide ((gt a0 (IntKind.wrap .i64 (x10_23 - 1))).length ≤ 1048576) then (bif (decide (0 ≤ (findR (gt a0 (IntKind.wrap .i64 (x10_23 - 1))) a1))) then (bif inR (IntKind.wrap .i64 (x10_23 - 1)) a0.length then (bif inR (findR (gt a0 (IntKind.wrap .i64 (x10_23 - 1))) a1) (gt a0 (IntKind.wrap .i64 (x10_23 - 1))).length then (some (.nxt (x10_23, (x9_22 || (stopsR (gt (gt a0 (IntKind.wrap .i64 (x10_23 - 1))) (findR (gt a0 (IntKind.wrap .i64 (x10_23 - 1))) a1)))), IntKind.wrap .i64 (x10_23 + 1), (gt (gt a0 (IntKind.wrap .i64 (x10_23 - 1))) (findR (gt a0 (IntKind.wrap .i64 (x10_23 - 1))) a1))))) else none) else none) else (some (.nxt (x8_21, x9_22, IntKind.wrap .i64 (x10_23 + 1), y24)))) else none) else none) else (some (.brk (x8_21, x9_22, y24)))
def impl_winner.sh (k : Nat) (a0 : List (List Rec)) (a1 : List UInt8) : Option (Rec × Int × Bool) :=
  bif decide (a0.length ≤ 1048576) then (bif decide (a1.length ≤ 1048576) then (bif decide (∀ l ∈ a0, l.length ≤ 1048576) then ((loopF (impl_winner.b1 a0 a1) k (0, false, (if ((cutD a0 a1) < 1 : Prop) then 1 else (cutD a0 a1)), (⟨0, ([] : List UInt8), ([] : List UInt8), 0, false⟩ : Rec))).bind fun z => match z with | .inl t => some t | .inr (x8_28, x9_29, y30) => bif (decide (y30.kind = 3)) then (some ((⟨y30.kind, y30.path, y30.body, y30.mode, x9_29⟩ : Rec), x8_28, (decide (0 < x8_28)))) else (some (y30, x8_28, (decide (0 < x8_28))))) else none) else none) else none
theorem impl_winner.eq (a0 : List (List Rec)) (a1 : List UInt8) (h0 : stackOK a0 = true) (h1 : a0.length ≤ 1048576) (h2 : a1.length ≤ 1048576) (h3 : ∀ l ∈ a0, l.length ≤ 1048576) : ∃ k, impl_winner.sh k a0 a1 = some ((winner a0 a1).1, (winner a0 a1).2, decide ((0 : Int) < (winner a0 a1).2)) := by
  refine ⟨a0.length + 1, ?_⟩
  unfold impl_winner.sh winner
  rw [lowN_int]
  have hlo := lowN_le a0 a1
  have key : ∀ (m n k : Nat), lowN a0 a1 + n + m = a0.length → m < k → loopF (impl_winner.b1 a0 a1) k ((winN a0 a1 (lowN a0 a1) n).2.1, (winN a0 a1 (lowN a0 a1) n).2.2, ((lowN a0 a1 + n : Nat) : Int) + 1, (winN a0 a1 (lowN a0 a1) n).1) = some (.inr ((winner0 a0 a1).2.1, (winner0 a0 a1).2.2, (winner0 a0 a1).1)) := by
    intro m
    induction m with
    | zero =>
      intro n k hn hk
      obtain ⟨k, rfl⟩ : ∃ j, k = j + 1 := ⟨k - 1, by omega⟩
      have e : a0.length - lowN a0 a1 = n := by omega
      have e9 : ¬ (((lowN a0 a1 + n : Nat) : Int) + 1 ≤ (a0.length : Int)) := by omega
      rw [loopF]
      simp only [impl_winner.b1, e9, decide_false, cond_false]
      rw [winner0, e]; rfl
    | succ m ih =>
      intro n k hn hk
      obtain ⟨k, rfl⟩ : ∃ j, k = j + 1 := ⟨k - 1, by omega⟩
      have hlt : lowN a0 a1 + n < a0.length := by omega
      have e1 := h3 a0[lowN a0 a1 + n] (List.getElem_mem hlt)
      rw [← getD_el hlt] at e1
      have e9 : ((lowN a0 a1 + n : Nat) : Int) + 1 ≤ (a0.length : Int) := by omega
      have ew : IntKind.wrap .i64 (((lowN a0 a1 + n : Nat) : Int) + 1 - 1) = ((lowN a0 a1 + n : Nat) : Int) := by
        rw [wrap_small (by omega) (by omega)]; omega
      have ew2 : IntKind.wrap .i64 (((lowN a0 a1 + n : Nat) : Int) + 1 + 1) = ((lowN a0 a1 + (n + 1) : Nat) : Int) + 1 := by
        rw [wrap_small (by omega) (by omega)]; omega
      have hI := ih (n + 1) k (by omega) (by omega)
      rw [loopF]
      simp only [impl_winner.b1, e9, decide_true, cond_true, ew, ew2, inR_nat hlt, getD_gt, e1]
      by_cases hf : 0 ≤ findR (a0.getD (lowN a0 a1 + n) default) a1
      · have es : winN a0 a1 (lowN a0 a1) (n + 1) = (gt (a0.getD (lowN a0 a1 + n) default) (findR (a0.getD (lowN a0 a1 + n) default) a1), ((lowN a0 a1 + n : Nat) : Int) + 1, (winN a0 a1 (lowN a0 a1) n).2.2 || stopsR (gt (a0.getD (lowN a0 a1 + n) default) (findR (a0.getD (lowN a0 a1 + n) default) a1))) := by
          rw [winN, stepW, if_pos hf]
        rw [es] at hI
        simp only [hf, decide_true, cond_true, findR_inR hf]
        exact hI
      · have es : winN a0 a1 (lowN a0 a1) (n + 1) = winN a0 a1 (lowN a0 a1) n := by rw [winN, stepW, if_neg hf]
        rw [es] at hI
        simp only [hf, decide_false, cond_false]
        exact hI
  have hk := key (a0.length - lowN a0 a1) 0 (a0.length + 1) (by omega) (by omega)
  simp only [winN, Nat.add_zero] at hk
  simp only [zeroR] at hk
  simp only [h0, h1, h2, decide_true, cond_true, decide_eq_true h3, hk, Option.bind_some, closeW]
  by_cases hd : (winner0 a0 a1).1.kind = 3 <;> simp [hd]
theorem recFault_opq {r : Rec} (h : recFault r = 0) (ho : r.opq = true) : r.kind = 3 := by
  unfold recFault at h
  by_cases hk : r.kind = 3
  · exact hk
  · simp only [ho, hk, decide_false, Bool.not_false, Bool.true_and, Bool.or_true, if_true] at h
    repeat' split at h
    all_goals omega
def closeS (s : Rec × Int × Bool) : Rec := if s.2.2 then ⟨s.1.kind, s.1.path, s.1.body, s.1.mode, decide (s.1.kind = 3)⟩ else s.1
theorem closeS_eq {a : List (List Rec)} {p : List UInt8} (h : stackOK a = true) {lo n : Nat} (hn : lo + n ≤ a.length) : closeS (winN a p lo n) = closeW (winN a p lo n) := by
  rcases winN_inv a p lo n hn with h0 | ⟨_, _, hs, l, hl, hx, _⟩
  · rw [h0]; rfl
  · have hr := layerOK_rec ((stackOK_layer h).2 l hl) _ hx
    have ho := recFault_opq hr
    generalize winN a p lo n = s at *
    obtain ⟨⟨k, q, b, m, o⟩, i, t⟩ := s
    simp only [closeS, closeW, stopsR] at *
    by_cases hk : k = 3
    · cases t
      · cases o
        · simp [hk]
        · simp at hs
      · simp [hk]
    · have ht : t = true := hs (by simp [hk])
      have hof : o = false := by
        cases o
        · rfl
        · exact absurd (ho rfl) hk
      simp [hk, ht, hof]
def spec_l07Winner.b1 (a0 : List (List Rec)) (a1 : List UInt8) : Int × Int × Rec → Option (Step (Rec × Int) (Int × Int × Rec) (Int × Rec)) :=
  fun q => match q with
  | (x8_21, x9_22, y23) => bif (decide ((if ((cutD a0 a1) < 1 : Prop) then 1 else (cutD a0 a1)) ≤ x9_22)) then (bif inR (IntKind.wrap .i64 (x9_22 - 1)) a0.length then (bif decide ((gt a0 (IntKind.wrap .i64 (x9_22 - 1))).length ≤ 1048576) then (bif (decide ((findR (gt a0 (IntKind.wrap .i64 (x9_22 - 1))) a1) < 0)) then (some (.nxt (x8_21, IntKind.wrap .i64 (x9_22 - 1), y23))) else (bif inR (IntKind.wrap .i64 (x9_22 - 1)) a0.length then (bif inR (findR (gt a0 (IntKind.wrap .i64 (x9_22 - 1))) a1) (gt a0 (IntKind.wrap .i64 (x9_22 - 1))).length then (bif (decide (x8_21 = 0)) then ((some (stopsR (gt (gt a0 (IntKind.wrap .i64 (x9_22 - 1))) (findR (gt a0 (IntKind.wrap .i64 (x9_22 - 1))) a1)))).bind fun z77 => bif z77 then (some (.ret ((⟨(gt (gt a0 (IntKind.wrap .i64 (x9_22 - 1))) (findR (gt a0 (IntKind.wrap .i64 (x9_22 - 1))) a1)).kind, (gt (gt a0 (IntKind.wrap .i64 (x9_22 - 1))) (findR (gt a0 (IntKind.wrap .i64 (x9_22 - 1))) a1)).path, (gt (gt a0 (IntKind.wrap .i64 (x9_22 - 1))) (findR (gt a0 (IntKind.wrap .i64 (x9_22 - 1))) a1)).body, (gt (gt a0 (IntKind.wrap .i64 (x9_22 - 1))) (findR (gt a0 (IntKind.wrap .i64 (x9_22 - 1))) a1)).mode, (decide (((gt (gt a0 (IntKind.wrap .i64 (x9_22 - 1))) (findR (gt a0 (IntKind.wrap .i64 (x9_22 - 1))) a1)).kind) = 3))⟩ : Rec), x9_22))) else (some (.nxt (x9_22, IntKind.wrap .i64 (x9_22 - 1), (gt (gt a0 (IntKind.wrap .i64 (x9_22 - 1))) (findR (gt a0 (IntKind.wrap .i64 (x9_22 - 1))) a1)))))) else ((some (stopsR (gt (gt a0 (IntKind.wrap .i64 (x9_22 - 1))) (findR (gt a0 (IntKind.wrap .i64 (x9_22 - 1))) a1)))).bind fun z88 => bif z88 then (some (.ret ((⟨y23.kind, y23.path, y23.body, y23.mode, (decide (y23.kind = 3))⟩ : Rec), x8_21))) else (some (.nxt (x8_21, IntKind.wrap .i64 (x9_22 - 1), y23))))) else none) else none)) else none) else none) else (some (.brk (x8_21, y23)))
def spec_l07Winner.sh (k : Nat) (a0 : List (List Rec)) (a1 : List UInt8) : Option (Rec × Int) :=
  bif decide (a0.length ≤ 1048576) then (bif decide (a1.length ≤ 1048576) then (bif decide (∀ l ∈ a0, l.length ≤ 1048576) then ((loopF (spec_l07Winner.b1 a0 a1) k (0, (a0.length : Int), (⟨0, ([] : List UInt8), ([] : List UInt8), 0, false⟩ : Rec))).bind fun z => match z with | .inl t => some t | .inr (x8_27, y28) => some (y28, x8_27)) else none) else none) else none
theorem spec_l07Winner.eq (a0 : List (List Rec)) (a1 : List UInt8) (h0 : stackOK a0 = true) (h1 : a0.length ≤ 1048576) (h2 : a1.length ≤ 1048576) (h3 : ∀ l ∈ a0, l.length ≤ 1048576) : ∃ k, spec_l07Winner.sh k a0 a1 = some ((winner a0 a1).1, (winner a0 a1).2) := by
  refine ⟨a0.length + 1, ?_⟩
  unfold spec_l07Winner.sh winner
  have hlo := lowN_le a0 a1
  have stp : ∀ n : Nat, lowN a0 a1 + (n + 1) ≤ a0.length → inR ((lowN a0 a1 + n : Nat) : Int) a0.length = true ∧ (a0.getD (lowN a0 a1 + n) default).length ≤ 1048576 ∧ ((if ((cutD a0 a1) < 1 : Prop) then (1 : Int) else cutD a0 a1) ≤ ((lowN a0 a1 + (n + 1) : Nat) : Int)) ∧ IntKind.wrap .i64 (((lowN a0 a1 + (n + 1) : Nat) : Int) - 1) = ((lowN a0 a1 + n : Nat) : Int) := by
    intro n hn
    have hlt : lowN a0 a1 + n < a0.length := by omega
    have e1 := h3 a0[lowN a0 a1 + n] (List.getElem_mem hlt)
    rw [← getD_el hlt] at e1
    exact ⟨inR_nat hlt, e1, by rw [lowN_int]; omega, by rw [wrap_small (by omega) (by omega)]; omega⟩
  have stop : ¬ ((if ((cutD a0 a1) < 1 : Prop) then (1 : Int) else cutD a0 a1) ≤ ((lowN a0 a1 : Nat) : Int)) := by rw [lowN_int]; omega
  have key2 : ∀ (n k : Nat) (f : Int) (y : Rec), f ≠ 0 → lowN a0 a1 + n ≤ a0.length → n < k → ∃ z, loopF (spec_l07Winner.b1 a0 a1) k (f, ((lowN a0 a1 + n : Nat) : Int), y) = some z ∧ (match z with | .inl t => some t | .inr (x, y) => some (y, x)) = some ((if (winN a0 a1 (lowN a0 a1) n).2.2 then ⟨y.kind, y.path, y.body, y.mode, decide (y.kind = 3)⟩ else y : Rec), f) := by
    intro n
    induction n with
    | zero =>
      intro k f y hf hn hk
      obtain ⟨k, rfl⟩ : ∃ j, k = j + 1 := ⟨k - 1, by omega⟩
      refine ⟨.inr (f, y), ?_, rfl⟩
      rw [loopF]
      simp only [spec_l07Winner.b1, Nat.add_zero, stop, decide_false, cond_false]; rfl
    | succ n ih =>
      intro k f y hf hn hk
      obtain ⟨k, rfl⟩ : ∃ j, k = j + 1 := ⟨k - 1, by omega⟩
      obtain ⟨s1, s2, s3, s4⟩ := stp n hn
      obtain ⟨z, hz, hP⟩ := ih k f y hf (by omega) (by omega)
      rw [loopF]
      simp only [spec_l07Winner.b1, s3, decide_true, cond_true, s4, s1, getD_gt, s2]
      by_cases hr : 0 ≤ findR (a0.getD (lowN a0 a1 + n) default) a1
      · have es : winN a0 a1 (lowN a0 a1) (n + 1) = (gt (a0.getD (lowN a0 a1 + n) default) (findR (a0.getD (lowN a0 a1 + n) default) a1), ((lowN a0 a1 + n : Nat) : Int) + 1, (winN a0 a1 (lowN a0 a1) n).2.2 || stopsR (gt (a0.getD (lowN a0 a1 + n) default) (findR (a0.getD (lowN a0 a1 + n) default) a1))) := by
          rw [winN, stepW, if_pos hr]
        have hr2 : ¬ findR (a0.getD (lowN a0 a1 + n) default) a1 < 0 := by omega
        rw [es]
        simp only [hr2, decide_false, cond_false, findR_inR hr, cond_true, hf, Option.bind_some]
        rcases bool_two (stopsR (gt (a0.getD (lowN a0 a1 + n) default) (findR (a0.getD (lowN a0 a1 + n) default) a1))) with hs | hs
        · exact ⟨.inl (⟨y.kind, y.path, y.body, y.mode, decide (y.kind = 3)⟩, f), by rw [hs]; rfl, by rw [hs, Bool.or_true]; rfl⟩
        · refine ⟨z, by rw [hs]; exact hz, ?_⟩
          rw [hs, Bool.or_false]; exact hP
      · have es : winN a0 a1 (lowN a0 a1) (n + 1) = winN a0 a1 (lowN a0 a1) n := by rw [winN, stepW, if_neg hr]
        have hr2 : findR (a0.getD (lowN a0 a1 + n) default) a1 < 0 := by omega
        rw [es]
        simp only [hr2, decide_true, cond_true]
        exact ⟨z, hz, hP⟩
  have key1 : ∀ (n k : Nat), lowN a0 a1 + n ≤ a0.length → n < k → ∃ z, loopF (spec_l07Winner.b1 a0 a1) k (0, ((lowN a0 a1 + n : Nat) : Int), zeroR) = some z ∧ (match z with | .inl t => some t | .inr (x, y) => some (y, x)) = some (closeS (winN a0 a1 (lowN a0 a1) n), (winN a0 a1 (lowN a0 a1) n).2.1) := by
    intro n
    induction n with
    | zero =>
      intro k hn hk
      obtain ⟨k, rfl⟩ : ∃ j, k = j + 1 := ⟨k - 1, by omega⟩
      refine ⟨.inr (0, zeroR), ?_, rfl⟩
      rw [loopF]
      simp only [spec_l07Winner.b1, Nat.add_zero, stop, decide_false, cond_false]; rfl
    | succ n ih =>
      intro k hn hk
      obtain ⟨k, rfl⟩ : ∃ j, k = j + 1 := ⟨k - 1, by omega⟩
      obtain ⟨s1, s2, s3, s4⟩ := stp n hn
      rw [loopF]
      simp only [spec_l07Winner.b1, s3, decide_true, cond_true, s4, s1, getD_gt, s2]
      by_cases hr : 0 ≤ findR (a0.getD (lowN a0 a1 + n) default) a1
      · have es : winN a0 a1 (lowN a0 a1) (n + 1) = (gt (a0.getD (lowN a0 a1 + n) default) (findR (a0.getD (lowN a0 a1 + n) default) a1), ((lowN a0 a1 + n : Nat) : Int) + 1, (winN a0 a1 (lowN a0 a1) n).2.2 || stopsR (gt (a0.getD (lowN a0 a1 + n) default) (findR (a0.getD (lowN a0 a1 + n) default) a1))) := by
          rw [winN, stepW, if_pos hr]
        have hr2 : ¬ findR (a0.getD (lowN a0 a1 + n) default) a1 < 0 := by omega
        have ei : ((lowN a0 a1 + (n + 1) : Nat) : Int) = ((lowN a0 a1 + n : Nat) : Int) + 1 := by omega
        rw [es]
        simp only [hr2, decide_false, cond_false, findR_inR hr, cond_true, decide_true, Option.bind_some]
        generalize gt (a0.getD (lowN a0 a1 + n) default) (findR (a0.getD (lowN a0 a1 + n) default) a1) = x
        rcases bool_two (stopsR x) with hs | hs
        · refine ⟨.inl (⟨x.kind, x.path, x.body, x.mode, decide (x.kind = 3)⟩, ((lowN a0 a1 + (n + 1) : Nat) : Int)), by rw [hs]; rfl, ?_⟩
          simp only [closeS, hs, Bool.or_true, if_true]
          rw [ei]
        · obtain ⟨z, hz, hP⟩ := key2 n k ((lowN a0 a1 + (n + 1) : Nat) : Int) x (by omega) (by omega) (by omega)
          refine ⟨z, by rw [hs]; exact hz, ?_⟩
          rw [hP]
          simp only [closeS, hs, Bool.or_false]
          rw [ei]
      · have es : winN a0 a1 (lowN a0 a1) (n + 1) = winN a0 a1 (lowN a0 a1) n := by rw [winN, stepW, if_neg hr]
        have hr2 : findR (a0.getD (lowN a0 a1 + n) default) a1 < 0 := by omega
        rw [es]
        obtain ⟨z, hz, hP⟩ := ih k (by omega) (by omega)
        simp only [hr2, decide_true, cond_true]
        exact ⟨z, hz, hP⟩
  obtain ⟨z, hz, hP⟩ := key1 (a0.length - lowN a0 a1) (a0.length + 1) (by omega) (by omega)
  have el : ((lowN a0 a1 + (a0.length - lowN a0 a1) : Nat) : Int) = (a0.length : Int) := by omega
  rw [el] at hz
  simp only [zeroR] at hz
  simp only [h0, h1, h2, decide_true, cond_true, decide_eq_true h3, hz, Option.bind_some]
  rw [closeS_eq h0 (by omega)] at hP
  exact hP
/-! ### the order of paths -/
theorem bl_trans : ∀ a b c : List UInt8, Op.bytesLess a b = true → Op.bytesLess b c = true → Op.bytesLess a c = true := by
  intro a
  induction a with
  | nil => intro b c h1 h2; cases b with
    | nil => simp [Op.bytesLess] at h1
    | cons y b => cases c with
      | nil => simp [Op.bytesLess] at h2
      | cons z c => rfl
  | cons x a ih =>
    intro b c h1 h2
    cases b with
    | nil => simp [Op.bytesLess] at h1
    | cons y b => cases c with
      | nil => simp [Op.bytesLess] at h2
      | cons z c =>
        simp only [Op.bytesLess, Bool.or_eq_true, Bool.and_eq_true, decide_eq_true_eq, beq_iff_eq, UInt8.lt_iff_toNat_lt] at h1 h2 ⊢
        rcases h1 with h1 | ⟨rfl, h1⟩
        · rcases h2 with h2 | ⟨rfl, h2⟩
          · exact .inl (by omega)
          · exact .inl h1
        · rcases h2 with h2 | ⟨rfl, h2⟩
          · exact .inl h2
          · exact .inr ⟨rfl, ih b c h1 h2⟩
theorem bl_tri : ∀ a b : List UInt8, Op.bytesLess a b = false → Op.bytesLess b a = false → a = b := by
  intro a
  induction a with
  | nil => intro b h1 h2; cases b with
    | nil => rfl
    | cons y b => simp [Op.bytesLess] at h1
  | cons x a ih =>
    intro b h1 h2
    cases b with
    | nil => simp [Op.bytesLess] at h2
    | cons y b =>
      simp only [Op.bytesLess, Bool.or_eq_false_iff, Bool.and_eq_false_iff, decide_eq_false_iff_not, beq_eq_false_iff_ne, UInt8.lt_iff_toNat_lt] at h1 h2
      have hxy : x = y := UInt8.toNat_inj.1 (by omega)
      subst hxy
      rcases h1.2 with h | h
      · exact absurd rfl h
      · rcases h2.2 with h' | h'
        · exact absurd rfl h'
        · rw [ih b h h']
theorem lt8_trans {a b c : List UInt8} (h1 : lt8 a b = true) (h2 : lt8 b c = true) : lt8 a c = true := by
  simp only [lt8] at *
  exact bl_trans _ _ _ h1 h2
theorem lt8_tri {a b : List UInt8} (h1 : lt8 a b = false) (h2 : lt8 b a = false) : a = b := by
  simp only [lt8] at *
  exact bl_tri _ _ h1 h2
theorem lessL_irrefl : ∀ a, lessL a a = false := by
  intro a
  induction a with
  | nil => rfl
  | cons x a ih => simp [lessL, ih]
theorem lessL_trans : ∀ a b c, lessL a b = true → lessL b c = true → lessL a c = true := by
  intro a
  induction a with
  | nil =>
    intro b c h1 h2
    cases b with
    | nil => simp [lessL] at h1
    | cons y b => cases c with
      | nil => simp [lessL] at h2
      | cons z c => rfl
  | cons x a ih =>
    intro b c h1 h2
    cases b with
    | nil => simp [lessL] at h1
    | cons y b => cases c with
      | nil => simp [lessL] at h2
      | cons z c =>
        simp only [lessL] at h1 h2 ⊢
        by_cases hxy : x = y
        · subst hxy
          simp only [if_true] at h1
          by_cases hxz : x = z
          · subst hxz
            simp only [if_true] at h2 ⊢
            exact ih b c h1 h2
          · simp only [hxz, if_false] at h2 ⊢; exact h2
        · simp only [hxy, if_false] at h1
          by_cases hyz : y = z
          · subst hyz
            simp only [hxy, if_false]; exact h1
          · simp only [hyz, if_false] at h2
            have h3 := lt8_trans h1 h2
            by_cases hxz : x = z
            · subst hxz; rw [lt8_irrefl] at h3; cases h3
            · simp only [hxz, if_false]; exact h3
theorem lessL_tri : ∀ a b, lessL a b = false → lessL b a = false → a = b := by
  intro a
  induction a with
  | nil =>
    intro b h1 h2
    cases b with
    | nil => rfl
    | cons y b => simp [lessL] at h1
  | cons x a ih =>
    intro b h1 h2
    cases b with
    | nil => simp [lessL] at h2
    | cons y b =>
      simp only [lessL] at h1 h2
      by_cases hxy : x = y
      · subst hxy
        simp only [if_true] at h1 h2
        rw [ih b h1 h2]
      · have hyx : ¬ y = x := fun e => hxy e.symm
        simp only [hxy, hyx, if_false] at h1 h2
        exact absurd (lt8_tri h1 h2) hxy
def ltP (a b : List UInt8) : Bool := lessL (cut 47 a) (cut 47 b)
theorem ltP_irrefl (a : List UInt8) : ltP a a = false := lessL_irrefl _
theorem ltP_trans {a b c : List UInt8} (h1 : ltP a b = true) (h2 : ltP b c = true) : ltP a c = true := lessL_trans _ _ _ h1 h2
theorem ltP_tri {a b : List UInt8} (h1 : ltP a b = false) (h2 : ltP b a = false) : a = b := cut_inj (lessL_tri _ _ h1 h2)
theorem ltP_asymm {a b : List UInt8} (h : ltP a b = true) : ltP b a = false := by
  rcases bool_two (ltP b a) with h2 | h2
  · have := ltP_trans h h2; rw [ltP_irrefl] at this; cases this
  · exact h2
theorem ltP_ne {a b : List UInt8} (h : ltP a b = true) : a ≠ b := fun e => by subst e; rw [ltP_irrefl] at h; cases h
/-- Rising strictly. -/
def Rise (l : List (List UInt8)) : Prop := l.Pairwise fun a b => ltP a b = true
theorem Rise.uniq : ∀ {a b : List (List UInt8)}, Rise a → Rise b → (∀ x, x ∈ a ↔ x ∈ b) → a = b := by
  intro a
  induction a with
  | nil =>
    intro b _ _ h
    cases b with
    | nil => rfl
    | cons y b => exact absurd ((h y).2 (List.mem_cons_self ..)) (by simp)
  | cons x a ih =>
    intro b ha hb h
    cases b with
    | nil => exact absurd ((h x).1 (List.mem_cons_self ..)) (by simp)
    | cons y b =>
      have ha' := List.pairwise_cons.1 ha
      have hb' := List.pairwise_cons.1 hb
      have hxy : x = y := by
        rcases List.mem_cons.1 ((h x).1 (List.mem_cons_self ..)) with e | hx
        · exact e
        · rcases List.mem_cons.1 ((h y).2 (List.mem_cons_self ..)) with e | hy
          · exact e.symm
          · have h1 := hb'.1 x hx
            have h2 := ha'.1 y hy
            rw [ltP_asymm h1] at h2; cases h2
      subst hxy
      congr 1
      refine ih ha'.2 hb'.2 fun z => ?_
      constructor
      · intro hz
        rcases List.mem_cons.1 ((h z).1 (List.mem_cons_of_mem _ hz)) with e | hz'
        · subst e; exact absurd rfl (ltP_ne (ha'.1 z hz))
        · exact hz'
      · intro hz
        rcases List.mem_cons.1 ((h z).2 (List.mem_cons_of_mem _ hz)) with e | hz'
        · subst e; exact absurd rfl (ltP_ne (hb'.1 z hz))
        · exact hz'
/-- From neighbours to all. -/
theorem rise_of_near {α : Type} [Inhabited α] (f : α → List UInt8) {l : List α} (h : ∀ i, 0 < i → i < l.length → ltP (f (l.getD (i - 1) default)) (f (l.getD i default)) = true) : Rise (l.map f) := by
  unfold Rise
  rw [List.pairwise_map, List.pairwise_iff_getElem]
  intro i j hi hj hij
  obtain ⟨d, rfl⟩ : ∃ d, j = i + 1 + d := ⟨j - i - 1, by omega⟩
  induction d with
  | zero =>
    have := h (i + 1) (by omega) hj
    rw [getD_el hj, show i + 1 - 1 = i by omega, getD_el hi] at this
    exact this
  | succ d ih =>
    have h1 := ih (by omega) (by omega)
    have h2 := h (i + 1 + (d + 1)) (by omega) hj
    rw [getD_el hj, show i + 1 + (d + 1) - 1 = i + 1 + d by omega, getD_el (by omega)] at h2
    exact ltP_trans h1 h2
/-! ### two sorted trees side by side -/
theorem rise_lt {x : List UInt8} {l : List (List UInt8)} (h : Rise (x :: l)) : ∀ z ∈ l, ltP x z = true := (List.pairwise_cons.1 h).1
theorem rise_tl {x : List UInt8} {l : List (List UInt8)} (h : Rise (x :: l)) : Rise l := (List.pairwise_cons.1 h).2
/-! ### the paths of layers -/
def insP (l : List (List UInt8)) (p : List UInt8) : List (List UInt8) := l.filter (fun x => ltP x p) ++ p :: l.filter (fun x => ltP p x)
theorem insP_rise {l : List (List UInt8)} (h : Rise l) (p : List UInt8) : Rise (insP l p) := by
  unfold insP Rise
  rw [List.pairwise_append, List.pairwise_cons]
  refine ⟨List.Pairwise.filter _ h, ⟨fun z hz => (List.mem_filter.1 hz).2, List.Pairwise.filter _ h⟩, ?_⟩
  intro u hu v hv
  have h1 := (List.mem_filter.1 hu).2
  rcases List.mem_cons.1 hv with rfl | hv
  · exact h1
  · exact ltP_trans h1 (List.mem_filter.1 hv).2
theorem insP_mem (l : List (List UInt8)) (p z : List UInt8) : z ∈ insP l p ↔ z = p ∨ z ∈ l := by
  unfold insP
  rw [List.mem_append, List.mem_cons, List.mem_filter, List.mem_filter]
  constructor
  · rintro (h | h | h)
    · exact .inr h.1
    · exact .inl h
    · exact .inr h.1
  · rintro (h | h)
    · exact .inr (.inl h)
    · rcases bool_two (ltP z p) with h1 | h1
      · exact .inl ⟨h, h1⟩
      · rcases bool_two (ltP p z) with h2 | h2
        · exact .inr (.inr ⟨h, h2⟩)
        · exact .inr (.inl (ltP_tri h1 h2))
def riseOf (l : List (List UInt8)) : List (List UInt8) := l.foldl insP []
theorem foldl_insP : ∀ (l acc : List (List UInt8)), Rise acc → Rise (l.foldl insP acc) ∧ ∀ z, z ∈ l.foldl insP acc ↔ z ∈ l ∨ z ∈ acc := by
  intro l
  induction l with
  | nil => intro acc h; exact ⟨h, fun z => by simp⟩
  | cons x l ih =>
    intro acc h
    obtain ⟨h1, h2⟩ := ih (insP acc x) (insP_rise h x)
    refine ⟨h1, fun z => ?_⟩
    rw [List.foldl_cons, h2, insP_mem, List.mem_cons]
    constructor
    · rintro (h | h | h)
      · exact .inl (.inr h)
      · exact .inl (.inl h)
      · exact .inr h
    · rintro ((h | h) | h)
      · exact .inr (.inl h)
      · exact .inl h
      · exact .inr (.inr h)
theorem riseOf_rise (l : List (List UInt8)) : Rise (riseOf l) := (foldl_insP l [] List.Pairwise.nil).1
theorem riseOf_mem (l : List (List UInt8)) (z : List UInt8) : z ∈ riseOf l ↔ z ∈ l := by
  rw [riseOf, (foldl_insP l [] List.Pairwise.nil).2]; simp
theorem insP_len (l : List (List UInt8)) (p : List UInt8) : (insP l p).length ≤ l.length + 1 := by
  unfold insP
  have : (l.filter fun x => ltP x p).length + (l.filter fun x => ltP p x).length ≤ l.length := by
    induction l with
    | nil => simp
    | cons x l ih =>
      rcases bool_two (ltP x p) with h1 | h1
      · have h2 := ltP_asymm h1
        simp [h1, h2]; omega
      · rcases bool_two (ltP p x) with h2 | h2 <;> simp [h1, h2] <;> omega
  simp only [List.length_append, List.length_cons]; omega
theorem riseOf_len (l : List (List UInt8)) : (riseOf l).length ≤ l.length := by
  have : ∀ (l acc : List (List UInt8)), (l.foldl insP acc).length ≤ l.length + acc.length := by
    intro l
    induction l with
    | nil => intro acc; simp
    | cons x l ih =>
      intro acc
      have h1 := ih (insP acc x)
      have h2 := insP_len acc x
      simp only [List.foldl_cons, List.length_cons]; omega
  have := this l []
  simpa [riseOf] using this
def pathsL (ls : List (List Rec)) : List (List UInt8) := riseOf (ls.flatten.map (·.path))
theorem drop_gt {α : Type} [Inhabited α] {l : List α} {i : Nat} (h : i < l.length) : l.drop i = gt l (i : Int) :: l.drop (i + 1) := by
  rw [List.drop_eq_getElem_cons h, getD_gt, getD_el h]
def impl_paths.b2 (a0 : List (List Rec)) (x11_9 : Int) : List (List UInt8) × Int → Option (Step (Step (List (List UInt8)) (List (List UInt8) × Int) (List (List UInt8))) (List (List UInt8) × Int) (List (List UInt8))) :=
  fun q => match q with
  | (x3_36, x17_38) => bif (decide (x17_38 < ((gt a0 x11_9).length : Int))) then (bif inR x17_38 (gt a0 x11_9).length then (bif decide ((x3_36.length + ([(gt (gt a0 x11_9) x17_38).path] : List (List UInt8)).length) * 16 ≤ 140737488355328) then (some (.nxt (x3_36 ++ ([(gt (gt a0 x11_9) x17_38).path] : List (List UInt8)), IntKind.wrap .i64 (x17_38 + 1)))) else none) else none) else (some (.brk x3_36))
def impl_paths.b1 (k : Nat) (a0 : List (List Rec)) : List (List UInt8) × Int → Option (Step (List (List UInt8)) (List (List UInt8) × Int) (List (List UInt8))) :=
  fun q => match q with
  | (x3_7, x11_9) => bif (decide (x11_9 < (a0.length : Int))) then (bif inR x11_9 a0.length then ((loopF (impl_paths.b2 a0 x11_9) k (x3_7, 0)).bind fun z => match z with | .inl t => some t | .inr x3_42 => some (.nxt (x3_42, IntKind.wrap .i64 (x11_9 + 1)))) else none) else (some (.brk x3_7))
def impl_paths.sh (k : Nat) (a0 : List (List Rec)) : Option (List (List UInt8)) :=
  (loopF (impl_paths.b1 k a0) k (([] : List (List UInt8)), 0)).bind fun z => match z with | .inl t => some t | .inr x3_13 => bif decide (∀ x ∈ x3_13, x.length ≤ 1048576) then (bif decide (x3_13.length ≤ 4611686018427387903) then (some (riseOf x3_13)) else none) else none
theorem impl_paths.in {a0 : List (List Rec)} {x : Nat} (hg : (gt a0 (x : Int)).length ≤ 1048576) : ∀ (m i K : Nat) (acc : List (List UInt8)), i + m = (gt a0 (x : Int)).length → m < K → acc.length + m ≤ 8000000 → loopF (impl_paths.b2 a0 (x : Int)) K (acc, (i : Int)) = some (.inr (acc ++ ((gt a0 (x : Int)).drop i).map (·.path))) := by
  intro m
  induction m with
  | zero =>
    intro i K acc hi hK _
    obtain ⟨K, rfl⟩ : ∃ j, K = j + 1 := ⟨K - 1, by omega⟩
    have d1 : decide ((i : Int) < ((gt a0 (x : Int)).length : Int)) = false := decide_eq_false (by omega)
    have hd : (gt a0 (x : Int)).drop i = [] := List.drop_eq_nil_of_le (by omega)
    rw [loopF, hd]
    simp only [impl_paths.b2, d1, cond_false, List.map_nil, List.append_nil]; rfl
  | succ m ih =>
    intro i K acc hi hK hb
    obtain ⟨K, rfl⟩ : ∃ j, K = j + 1 := ⟨K - 1, by omega⟩
    have hlt : i < (gt a0 (x : Int)).length := by omega
    have d1 : decide ((i : Int) < ((gt a0 (x : Int)).length : Int)) = true := decide_eq_true (by omega)
    have e1 : ∀ z : List UInt8, decide ((acc.length + ([z] : List (List UInt8)).length) * 16 ≤ 140737488355328) = true := fun z => decide_eq_true (by simp; omega)
    have w1 : IntKind.wrap .i64 ((i : Int) + 1) = ((i + 1 : Nat) : Int) := by rw [wrap_small (by omega) (by omega)]; omega
    have hI := ih (i + 1) K (acc ++ [(gt (gt a0 (x : Int)) (i : Int)).path]) (by omega) (by omega) (by simp; omega)
    rw [loopF, drop_gt hlt]
    simp only [impl_paths.b2, d1, cond_true, inR_nat hlt, e1, w1]
    refine hI.trans ?_
    simp
theorem impl_paths.out {a0 : List (List Rec)} (h0 : a0.length ≤ 5) (h1 : ∀ l ∈ a0, l.length ≤ 1048576) : ∀ (m i K : Nat) (acc : List (List UInt8)), i + m = a0.length → m < K → acc.length ≤ i * 1048576 → loopF (impl_paths.b1 1048577 a0) K (acc, (i : Int)) = some (.inr (acc ++ ((a0.drop i).flatten).map (·.path))) := by
  intro m
  induction m with
  | zero =>
    intro i K acc hi hK _
    obtain ⟨K, rfl⟩ : ∃ j, K = j + 1 := ⟨K - 1, by omega⟩
    have d1 : decide ((i : Int) < (a0.length : Int)) = false := decide_eq_false (by omega)
    have hd : a0.drop i = [] := List.drop_eq_nil_of_le (by omega)
    rw [loopF]
    simp only [impl_paths.b1, d1, cond_false, hd, List.flatten_nil, List.map_nil, List.append_nil]; rfl
  | succ m ih =>
    intro i K acc hi hK hb
    obtain ⟨K, rfl⟩ : ∃ j, K = j + 1 := ⟨K - 1, by omega⟩
    have hlt : i < a0.length := by omega
    have hli : (gt a0 (i : Int)).length ≤ 1048576 := by rw [getD_gt, getD_el hlt]; exact h1 _ (List.getElem_mem hlt)
    have d1 : decide ((i : Int) < (a0.length : Int)) = true := decide_eq_true (by omega)
    have w1 : IntKind.wrap .i64 ((i : Int) + 1) = ((i + 1 : Nat) : Int) := by rw [wrap_small (by omega) (by omega)]; omega
    have hin := impl_paths.in hli (gt a0 (i : Int)).length 0 1048577 acc (by omega) (by omega) (by omega)
    rw [List.drop_zero] at hin
    have hin' : loopF (impl_paths.b2 a0 (i : Int)) 1048577 (acc, 0) = some (.inr (acc ++ (gt a0 (i : Int)).map (·.path))) := hin
    have hI := ih (i + 1) K (acc ++ (gt a0 (i : Int)).map (·.path)) (by omega) (by omega) (by simp only [List.length_append, List.length_map]; omega)
    rw [loopF]
    simp only [impl_paths.b1, d1, cond_true, inR_nat hlt, hin', Option.bind_some, w1]
    refine hI.trans ?_
    rw [drop_gt hlt]
    simp
theorem impl_paths.eq (a0 : List (List Rec)) (h0 : a0.length ≤ 5) (h1 : ∀ l ∈ a0, l.length ≤ 1048576) (h2 : ∀ l ∈ a0, ∀ x ∈ l, x.path.length ≤ 1048576) : ∃ k, impl_paths.sh k a0 = some (pathsL a0) := by
  refine ⟨1048577, ?_⟩
  unfold impl_paths.sh
  have ho := impl_paths.out h0 h1 a0.length 0 1048577 [] (by omega) (by omega) (by simp)
  rw [List.drop_zero, List.nil_append] at ho
  have ho' : loopF (impl_paths.b1 1048577 a0) 1048577 ([], 0) = some (.inr (a0.flatten.map (·.path))) := ho
  have e1 : decide (∀ x ∈ a0.flatten.map (·.path), x.length ≤ 1048576) = true := decide_eq_true fun x hx => by
    obtain ⟨r, hr, rfl⟩ := List.mem_map.1 hx
    obtain ⟨l, hl, hrl⟩ := List.mem_flatten.1 hr
    exact h2 l hl r hrl
  have hlen : ∀ (ls : List (List Rec)), (∀ l ∈ ls, l.length ≤ 1048576) → ls.flatten.length ≤ ls.length * 1048576 := by
    intro ls
    induction ls with
    | nil => intro _; simp
    | cons l ls ih =>
      intro h
      have a1 := h l (List.mem_cons_self ..)
      have a2 := ih fun x hx => h x (List.mem_cons_of_mem _ hx)
      simp only [List.flatten_cons, List.length_append, List.length_cons]; omega
  have e2 : decide ((a0.flatten.map (·.path)).length ≤ 4611686018427387903) = true := decide_eq_true (by have := hlen a0 h1; rw [List.length_map]; omega)
  rw [ho']
  simp only [Option.bind_some, e1, e2, cond_true]
  rfl

/-! ### lists by paths, whatever stands at them -/
section
variable {α : Type} (f : α → List UInt8)
def lookF (l : List α) (p : List UInt8) : Option α := l.find? fun x => decide (f x = p)
theorem lookF_cons (x : α) (l : List α) (p : List UInt8) : lookF f (x :: l) p = if f x = p then some x else lookF f l p := by
  unfold lookF
  by_cases h : f x = p <;> simp [h]
theorem lookF_none {l : List α} {p : List UInt8} : lookF f l p = none ↔ p ∉ l.map f := by
  induction l with
  | nil => simp [lookF]
  | cons x l ih =>
    rw [lookF_cons]
    by_cases h : f x = p
    · simp [h]
    · rw [if_neg h, ih]
      simp [Ne.symm h]
theorem lookF_some {l : List α} {p : List UInt8} {x : α} (h : lookF f l p = some x) : x ∈ l ∧ f x = p := by
  have h1 := List.mem_of_find?_eq_some h
  have h2 := List.find?_some h
  exact ⟨h1, of_decide_eq_true h2⟩
theorem lookF_of_mem {l : List α} (h : Rise (l.map f)) : ∀ x ∈ l, lookF f l (f x) = some x := by
  induction l with
  | nil => intro x hx; cases hx
  | cons y l ih =>
    intro x hx
    rw [lookF_cons]
    rcases List.mem_cons.1 hx with rfl | hx
    · rw [if_pos rfl]
    · have hlt : ltP (f y) (f x) = true := rise_lt h (f x) (List.mem_map_of_mem hx)
      rw [if_neg (ltP_ne hlt)]
      exact ih (rise_tl h) x hx
theorem filterMap_look {l : List α} (h : Rise (l.map f)) : (l.map f).filterMap (lookF f l) = l := by
  rw [List.filterMap_map]
  have : ∀ m : List α, (∀ x ∈ m, x ∈ l) → m.filterMap (lookF f l ∘ f) = m := by
    intro m
    induction m with
    | nil => intro _; rfl
    | cons x m ih =>
      intro hm
      rw [List.filterMap_cons]
      have h1 : (lookF f l ∘ f) x = some x := lookF_of_mem f h x (hm x (List.mem_cons_self ..))
      rw [h1]
      simp only
      rw [ih fun y hy => hm y (List.mem_cons_of_mem _ hy)]
  exact this l fun _ h => h
theorem mem_look {l : List α} {p : List UInt8} : p ∈ l.map f ↔ lookF f l p ≠ none := by
  constructor
  · intro h e; exact (lookF_none f).1 e h
  · intro h
    by_cases h2 : p ∈ l.map f
    · exact h2
    · exact absurd ((lookF_none f).2 h2) h
/-- Strictly rising lists that show the same at each path are the same. -/
theorem riseF_uniq {a b : List α} (ha : Rise (a.map f)) (hb : Rise (b.map f)) (h : ∀ p, lookF f a p = lookF f b p) : a = b := by
  have hm : a.map f = b.map f := Rise.uniq ha hb fun p => by rw [mem_look, mem_look, h]
  rw [← filterMap_look f ha, ← filterMap_look f hb, hm]
  congr 1
  funext p
  exact h p
/-- What a strictly rising list of paths picks. -/
theorem pick_spec {ps : List (List UInt8)} (hp : Rise ps) (g : List UInt8 → Option α) (hg : ∀ p x, g p = some x → f x = p) :
    Rise ((ps.filterMap g).map f) ∧ ∀ p, lookF f (ps.filterMap g) p = if p ∈ ps then g p else none := by
  induction ps with
  | nil => exact ⟨List.Pairwise.nil, fun p => by simp [lookF]⟩
  | cons q ps ih =>
    obtain ⟨i1, i2⟩ := ih (rise_tl hp)
    have hq := rise_lt hp
    have hnot : q ∉ ps := fun hm => ltP_ne (hq q hm) rfl
    cases hgq : g q with
    | none =>
      rw [List.filterMap_cons, hgq]
      refine ⟨i1, fun p => ?_⟩
      simp only
      rw [i2]
      by_cases e : p = q
      · subst e; simp [hnot, hgq]
      · simp [e]
    | some x =>
      rw [List.filterMap_cons, hgq]
      have hx := hg q x hgq
      refine ⟨?_, fun p => ?_⟩
      · simp only [List.map_cons]
        refine List.pairwise_cons.2 ⟨fun z hz => ?_, i1⟩
        rw [hx]
        have : lookF f (ps.filterMap g) z ≠ none := (mem_look f).1 hz
        rw [i2] at this
        by_cases hm : z ∈ ps
        · exact hq z hm
        · rw [if_neg hm] at this; exact absurd rfl this
      · simp only
        rw [lookF_cons, i2, hx]
        by_cases e : q = p
        · subst e; simp [hgq]
        · have e' : ¬ p = q := fun h => e h.symm
          simp [e, e']
theorem findI_look [Inhabited α] (l : List α) (p : List UInt8) : (0 ≤ findI (fun x => decide (f x = p)) l ↔ lookF f l p ≠ none) ∧ ∀ x, lookF f l p = some x → gt l (findI (fun x => decide (f x = p)) l) = x := by
  induction l with
  | nil => simp [findI, lookF]
  | cons y l ih =>
    rw [lookF_cons]
    by_cases h : f y = p
    · simp only [findI, h, decide_true, if_true]
      exact ⟨by simp, fun x hx => by rw [← Option.some.inj hx]; rfl⟩
    · simp only [findI, h, decide_false, Bool.false_eq_true, if_false]
      have hge := findI_ge (fun x => decide (f x = p)) l
      by_cases hm : findI (fun x => decide (f x = p)) l = -1
      · rw [if_pos hm]
        rw [hm] at ih
        refine ⟨ih.1, fun x hx => ?_⟩
        have : lookF f l p = none := by
          by_cases e : lookF f l p = none
          · exact e
          · have := ih.1.2 e; omega
        rw [this] at hx; cases hx
      · rw [if_neg hm]
        obtain ⟨n, hn⟩ : ∃ n : Nat, findI (fun x => decide (f x = p)) l = n := ⟨(findI (fun x => decide (f x = p)) l).toNat, by omega⟩
        rw [hn] at ih ⊢
        refine ⟨⟨fun _ => ih.1.1 (by omega), fun _ => by omega⟩, fun x hx => ?_⟩
        have := ih.2 x hx
        have e : ((n : Int) + 1) = ((n + 1 : Nat) : Int) := by omega
        rw [e, getD_gt, List.getD_cons_succ]
        exact this
end
section
variable {α : Type} (f : α → List UInt8) (hl hu : α → Option α) (hb : α → α → Option α)
/-- Two strictly rising lists side by side. -/
def mrgF : List α → List α → List α
  | [], b => b.filterMap hu
  | x :: a, [] => (x :: a).filterMap hl
  | x :: a, y :: b =>
    if ltP (f x) (f y) then (hl x).toList ++ mrgF a (y :: b)
    else if ltP (f y) (f x) then (hu y).toList ++ mrgF (x :: a) b
    else (hb x y).toList ++ mrgF a b
termination_by a b => a.length + b.length
def mrgO (a b : Option α) : Option α := match a, b with
  | none, none => none
  | some x, none => hl x
  | none, some y => hu y
  | some x, some y => hb x y
theorem lookF_opt {x : Option α} {q : List UInt8} (hx : ∀ z, x = some z → f z = q) (l : List α) (hq : q ∉ l.map f) (p : List UInt8) : lookF f (x.toList ++ l) p = if q = p then x else lookF f l p := by
  cases x with
  | none =>
    by_cases e : q = p
    · subst e; simp [(lookF_none f).2 hq]
    · simp [e]
  | some z =>
    have := hx z rfl
    show lookF f (z :: l) p = _
    rw [lookF_cons, this]
theorem rise_opt {x : Option α} {q : List UInt8} (hx : ∀ z, x = some z → f z = q) {l : List α} (hl : Rise (l.map f)) (hlt : ∀ p ∈ l.map f, ltP q p = true) : Rise ((x.toList ++ l).map f) := by
  cases x with
  | none => exact hl
  | some z =>
    refine List.pairwise_cons.2 ⟨fun p hp => ?_, hl⟩
    rw [hx z rfl]; exact hlt p hp
theorem mrgF_spec (h1 : ∀ x z, hl x = some z → f z = f x) (h2 : ∀ y z, hu y = some z → f z = f y) (h3 : ∀ x y z, f x = f y → hb x y = some z → f z = f x) :
    ∀ (n : Nat) (a b : List α), a.length + b.length ≤ n → Rise (a.map f) → Rise (b.map f) → Rise ((mrgF f hl hu hb a b).map f) ∧ ∀ p, lookF f (mrgF f hl hu hb a b) p = mrgO hl hu hb (lookF f a p) (lookF f b p) := by
  have one : ∀ (h : α → Option α) (hh : ∀ x z, h x = some z → f z = f x) (l : List α), Rise (l.map f) → Rise ((l.filterMap h).map f) ∧ ∀ p, lookF f (l.filterMap h) p = (lookF f l p).bind h := by
    intro h hh l
    induction l with
    | nil => intro _; exact ⟨List.Pairwise.nil, fun p => rfl⟩
    | cons x l ih =>
      intro hr
      obtain ⟨i1, i2⟩ := ih (rise_tl hr)
      have hq := rise_lt hr
      have hsub : ∀ p ∈ (l.filterMap h).map f, ltP (f x) p = true := by
        intro p hp
        have : lookF f (l.filterMap h) p ≠ none := (mem_look f).1 hp
        rw [i2] at this
        by_cases hm : p ∈ l.map f
        · exact hq p hm
        · rw [(lookF_none f).2 hm] at this; exact absurd rfl this
      have e : (x :: l).filterMap h = (h x).toList ++ l.filterMap h := by cases hx : h x <;> simp [hx]
      rw [e]
      refine ⟨rise_opt f (hh x) i1 hsub, fun p => ?_⟩
      rw [lookF_opt f (hh x) _ (fun hm => ltP_ne (hsub _ hm) rfl), lookF_cons, i2]
      by_cases ep : f x = p <;> simp [ep]
  intro n
  induction n with
  | zero =>
    intro a b hn ha hb'
    have e1 : a = [] := List.eq_nil_of_length_eq_zero (by omega)
    have e2 : b = [] := List.eq_nil_of_length_eq_zero (by omega)
    subst e1; subst e2
    rw [mrgF]
    exact ⟨List.Pairwise.nil, fun p => rfl⟩
  | succ n ih =>
    intro a b hn ha hb'
    cases a with
    | nil =>
      rw [mrgF]
      obtain ⟨i1, i2⟩ := one hu h2 b hb'
      refine ⟨i1, fun p => ?_⟩
      rw [i2]
      show _ = mrgO hl hu hb none _
      cases lookF f b p <;> rfl
    | cons x a =>
      cases b with
      | nil =>
        rw [mrgF]
        obtain ⟨i1, i2⟩ := one hl h1 (x :: a) ha
        refine ⟨i1, fun p => ?_⟩
        rw [i2]
        show _ = mrgO hl hu hb _ none
        cases lookF f (x :: a) p <;> rfl
      | cons y b =>
        simp only [List.length_cons] at hn
        have ha1 := rise_lt ha
        have hb1 := rise_lt hb'
        have ha2 : Rise (a.map f) := rise_tl ha
        have hb2 : Rise (b.map f) := rise_tl hb'
        have mem : ∀ (a b : List α) (p : List UInt8), mrgO hl hu hb (lookF f a p) (lookF f b p) ≠ none → p ∈ a.map f ∨ p ∈ b.map f := by
          intro a b p h
          by_cases m1 : p ∈ a.map f
          · exact .inl m1
          · by_cases m2 : p ∈ b.map f
            · exact .inr m2
            · rw [(lookF_none f).2 m1, (lookF_none f).2 m2] at h; exact absurd rfl h
        rw [mrgF]
        rcases bool_two (ltP (f x) (f y)) with hl1 | hl1
        · obtain ⟨i1, i2⟩ := ih a (y :: b) (by simp only [List.length_cons]; omega) ha2 hb'
          have hby : ∀ p ∈ (y :: b).map f, ltP (f x) p = true := by
            intro p hp
            rcases List.mem_cons.1 hp with rfl | hp
            · exact hl1
            · exact ltP_trans hl1 (hb1 p hp)
          have hlt : ∀ p ∈ (mrgF f hl hu hb a (y :: b)).map f, ltP (f x) p = true := by
            intro p hp
            have h := (mem_look f).1 hp
            rw [i2] at h
            rcases mem _ _ _ h with m | m
            · exact ha1 p m
            · exact hby p m
          rw [if_pos hl1]
          refine ⟨rise_opt f (h1 x) i1 hlt, fun p => ?_⟩
          rw [lookF_opt f (h1 x) _ (fun hm => ltP_ne (hlt _ hm) rfl), lookF_cons f x, i2]
          by_cases ep : f x = p
          · rw [if_pos ep, if_pos ep]
            have : lookF f (y :: b) p = none := (lookF_none f).2 fun hm => ltP_ne (hby p hm) ep
            rw [this]; rfl
          · rw [if_neg ep, if_neg ep]
        · have hln : ¬ ltP (f x) (f y) = true := by rw [hl1]; simp
          rw [if_neg hln]
          rcases bool_two (ltP (f y) (f x)) with hr | hr
          · obtain ⟨i1, i2⟩ := ih (x :: a) b (by simp only [List.length_cons]; omega) ha hb2
            have hay : ∀ p ∈ (x :: a).map f, ltP (f y) p = true := by
              intro p hp
              rcases List.mem_cons.1 hp with rfl | hp
              · exact hr
              · exact ltP_trans hr (ha1 p hp)
            have hlt : ∀ p ∈ (mrgF f hl hu hb (x :: a) b).map f, ltP (f y) p = true := by
              intro p hp
              have h := (mem_look f).1 hp
              rw [i2] at h
              rcases mem _ _ _ h with m | m
              · exact hay p m
              · exact hb1 p m
            rw [if_pos hr]
            refine ⟨rise_opt f (h2 y) i1 hlt, fun p => ?_⟩
            rw [lookF_opt f (h2 y) _ (fun hm => ltP_ne (hlt _ hm) rfl), lookF_cons f y, i2]
            by_cases ep : f y = p
            · rw [if_pos ep, if_pos ep]
              have : lookF f (x :: a) p = none := (lookF_none f).2 fun hm => ltP_ne (hay p hm) ep
              rw [this]; rfl
            · rw [if_neg ep, if_neg ep]
          · have hrn : ¬ ltP (f y) (f x) = true := by rw [hr]; simp
            have hxy : f x = f y := ltP_tri hl1 hr
            rw [if_neg hrn]
            obtain ⟨i1, i2⟩ := ih a b (by omega) ha2 hb2
            have hlt : ∀ p ∈ (mrgF f hl hu hb a b).map f, ltP (f x) p = true := by
              intro p hp
              have h := (mem_look f).1 hp
              rw [i2] at h
              rcases mem _ _ _ h with m | m
              · exact ha1 p m
              · rw [hxy]; exact hb1 p m
            have h3' := fun z => h3 x y z hxy
            refine ⟨rise_opt f h3' i1 hlt, fun p => ?_⟩
            rw [lookF_opt f h3' _ (fun hm => ltP_ne (hlt _ hm) rfl), lookF_cons f x, lookF_cons f y, i2, ← hxy]
            by_cases ep : f x = p
            · rw [if_pos ep, if_pos ep, if_pos ep]; rfl
            · rw [if_neg ep, if_neg ep, if_neg ep]
end
/-! ### two layers as one -/
def overR (l u : Rec) : Rec := if u.kind = 3 ∧ stopsR l = true then ⟨u.kind, u.path, u.body, u.mode, true⟩ else u
def twoR (lower upper : List Rec) : List Rec := mrgF (·.path) (fun r => if cutsR upper r.path then none else some r) some (fun a b => some (overR a b)) lower upper
def pickR (lower upper : List Rec) (p : List UInt8) : Option Rec :=
  if 0 ≤ findR upper p then some (if 0 ≤ findR lower p then overR (gt lower (findR lower p)) (gt upper (findR upper p)) else gt upper (findR upper p))
  else if cutsR upper p then none else some (gt lower (findR lower p))
theorem overR_path (l u : Rec) : (overR l u).path = u.path := by unfold overR; split <;> rfl
theorem filterMap_eq_of {α β : Type} {g h : α → Option β} : ∀ {l : List α}, (∀ x ∈ l, g x = h x) → l.filterMap g = l.filterMap h := by
  intro l
  induction l with
  | nil => intro _; rfl
  | cons x l ih =>
    intro hx
    rw [List.filterMap_cons, List.filterMap_cons, hx x (List.mem_cons_self ..), ih fun y hy => hx y (List.mem_cons_of_mem _ hy)]
theorem two_pick {lower upper : List Rec} (hl : Rise (lower.map (·.path))) (hu : Rise (upper.map (·.path))) : (pathsL [lower, upper]).filterMap (pickR lower upper) = twoR lower upper := by
  have hm : ∀ z, z ∈ pathsL [lower, upper] ↔ z ∈ lower.map (·.path) ∨ z ∈ upper.map (·.path) := by
    intro z
    rw [pathsL, riseOf_mem]
    simp
  obtain ⟨m1, m2⟩ := mrgF_spec (·.path) (fun r => if cutsR upper r.path then none else some r) some (fun a b => some (overR a b))
    (fun x z h => by
      by_cases hc : cutsR upper x.path = true
      · simp [hc] at h
      · simp [hc] at h; rw [h]) (fun y z h => by rw [Option.some.inj h]) (fun x y z he h => by
      have : overR x y = z := Option.some.inj h
      rw [← this, overR_path]; exact he.symm) _ lower upper (Nat.le_refl _) hl hu
  have look1 := fun p => findI_look (fun r : Rec => r.path) lower p
  have look2 := fun p => findI_look (fun r : Rec => r.path) upper p
  -- what is picked at a path of one of them
  have key : ∀ p, p ∈ pathsL [lower, upper] → pickR lower upper p = mrgO (fun r => if cutsR upper r.path then none else some r) some (fun a b => some (overR a b)) (lookF (·.path) lower p) (lookF (·.path) upper p) := by
    intro p hp
    unfold pickR findR
    cases hlk : lookF (fun r : Rec => r.path) lower p with
    | none =>
      have n1 : ¬ 0 ≤ findI (fun r : Rec => decide (r.path = p)) lower := fun h => (look1 p).1.1 h hlk
      cases huk : lookF (fun r : Rec => r.path) upper p with
      | none =>
        rcases (hm p).1 hp with h | h
        · exact absurd h ((lookF_none _).1 hlk)
        · exact absurd h ((lookF_none _).1 huk)
      | some y =>
        have n2 : 0 ≤ findI (fun r : Rec => decide (r.path = p)) upper := (look2 p).1.2 (by rw [huk]; simp)
        rw [if_pos n2, if_neg n1, (look2 p).2 y huk]; rfl
    | some x =>
      have n1 : 0 ≤ findI (fun r : Rec => decide (r.path = p)) lower := (look1 p).1.2 (by rw [hlk]; simp)
      have hxp := (lookF_some _ hlk).2
      cases huk : lookF (fun r : Rec => r.path) upper p with
      | none =>
        have n2 : ¬ 0 ≤ findI (fun r : Rec => decide (r.path = p)) upper := fun h => (look2 p).1.1 h huk
        rw [if_neg n2, (look1 p).2 x hlk]
        show _ = if cutsR upper x.path then none else some x
        rw [show x.path = p from hxp]
      | some y =>
        have n2 : 0 ≤ findI (fun r : Rec => decide (r.path = p)) upper := (look2 p).1.2 (by rw [huk]; simp)
        rw [if_pos n2, if_pos n1, (look1 p).2 x hlk, (look2 p).2 y huk]; rfl
  have hpath : ∀ p ∈ pathsL [lower, upper], ∀ z, pickR lower upper p = some z → z.path = p := by
    intro p hp z hz
    rw [key p hp] at hz
    have h := m2 p
    have e : lookF (fun r : Rec => r.path) (mrgF (fun r : Rec => r.path) (fun r => if cutsR upper r.path then none else some r) some (fun a b => some (overR a b)) lower upper) p = some z := by rw [← hz]; exact h
    exact (lookF_some _ e).2
  have hcongr : (pathsL [lower, upper]).filterMap (pickR lower upper) = (pathsL [lower, upper]).filterMap (fun p => if p ∈ pathsL [lower, upper] then pickR lower upper p else none) := by
    exact filterMap_eq_of fun p hp => by rw [if_pos hp]
  rw [hcongr]
  obtain ⟨p1, p2⟩ := pick_spec (fun r : Rec => r.path) (ps := pathsL [lower, upper]) (riseOf_rise _) (fun p => if p ∈ pathsL [lower, upper] then pickR lower upper p else none) (fun p x h => by
    by_cases hp : p ∈ pathsL [lower, upper]
    · rw [if_pos hp] at h; exact hpath p hp x h
    · rw [if_neg hp] at h; cases h)
  refine riseF_uniq (fun r : Rec => r.path) p1 m1 fun p => ?_
  have p3 : lookF (fun r : Rec => r.path) ((pathsL [lower, upper]).filterMap (fun p => if p ∈ pathsL [lower, upper] then pickR lower upper p else none)) p = if p ∈ pathsL [lower, upper] then (if p ∈ pathsL [lower, upper] then pickR lower upper p else none) else none := p2 p
  refine p3.trans (Eq.trans ?_ (m2 p).symm)
  by_cases hp : p ∈ pathsL [lower, upper]
  · rw [if_pos hp, if_pos hp, key p hp]
  · rw [if_neg hp]
    have a1 : lookF (fun r : Rec => r.path) lower p = none := (lookF_none _).2 fun h => hp ((hm p).2 (.inl h))
    have a2 : lookF (fun r : Rec => r.path) upper p = none := (lookF_none _).2 fun h => hp ((hm p).2 (.inr h))
    rw [a1, a2]; rfl

end Go.UL
