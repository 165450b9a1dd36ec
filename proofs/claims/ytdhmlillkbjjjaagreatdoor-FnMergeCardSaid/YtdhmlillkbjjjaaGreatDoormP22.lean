import Derived.Test.YtdhmlillkbjjjaaGreatDoormP16
set_option linter.unusedVariables false
set_option linter.unusedSimpArgs false
namespace Go.UL
open Go.RowKit
def without (l : List Nd) (p : List UInt8) (self : Bool) : List Nd := l.filter fun x => !((decide (p = []) && !decide (x.path = [])) || yj x.path p) && (!self || !decide (x.path = p))
theorem cutDN_in (l : List (List Rec)) (p : List UInt8) : ∀ n : Nat, 0 ≤ VJ l p n ∧ VJ l p n ≤ n := by
 intro n
 induction n with
 | zero => exact ⟨Int.le_refl _, Int.le_refl _⟩
 | succ n ih =>
  rw [VJ]
  split
  ·omega
  ·omega
theorem G5 (l : List (List Rec)) (p : List UInt8) : 0 ≤ jT l p ∧ jT l p ≤ l.length := cutDN_in l p l.length
def YQ (p : List UInt8) (s : Rec × Int × Bool) (l : List Rec) (i : Nat) : Rec × Int × Bool :=
 if 0 ≤ qt l p then (gt l (qt l p), (i : Int) + 1, s.2.2 || yC (gt l (qt l p))) else s
def ji (a : List (List Rec)) (p : List UInt8) (lo : Nat) : Nat → Rec × Int × Bool
 | 0 => (jD, 0, false)
 | n + 1 => YQ p (ji a p lo n) (a.getD (lo + n) default) (lo + n)
def vx (a : List (List Rec)) (p : List UInt8) : Nat := (jT a p).toNat - 1
def j8 (a : List (List Rec)) (p : List UInt8) : Rec × Int × Bool := ji a p (vx a p) (a.length - vx a p)
def VU (s : Rec × Int × Bool) : Rec := if s.1.kind = 3 then ⟨s.1.kind, s.1.path, s.1.body, s.1.mode, s.2.2⟩ else s.1
def winner (a : List (List Rec)) (p : List UInt8) : Rec × Int := (VU (j8 a p), (j8 a p).2.1)
def vG (a : List (List Rec)) (p : List UInt8) : Rec × Int × Int :=
 if pathCode a p ≠ 0 then (jD, 0, pathCode a p) else if 0 < (winner a p).2 then ((winner a p).1, (winner a p).2, 0) else (jD, 0, 5)
theorem YB (a : List (List Rec)) (p : List UInt8) : vx a p ≤ a.length := by have := G5 a p; unfold vx; omega
theorem Gp (a : List (List Rec)) (p : List UInt8) : (if ((jT a p) < 1 : Prop) then (1 : Int) else jT a p) = (vx a p : Int) + 1 := by
 have := G5 a p; unfold vx; split <;> omega
theorem JL (a : List (List Rec)) (p : List UInt8) (lo : Nat) : ∀ n, lo + n ≤ a.length → ji a p lo n = (jD, 0, false) ∨ (0 < (ji a p lo n).2.1 ∧ (ji a p lo n).2.1 ≤ ((lo + n : Nat) : Int) ∧ (yC (ji a p lo n).1 = true → (ji a p lo n).2.2 = true) ∧ ∃ l ∈ a, (ji a p lo n).1 ∈ l ∧ (ji a p lo n).1.path = p) := by
 intro n
 induction n with
 | zero => intro _; exact .inl rfl
 | succ n ih =>
  intro hn
  have ih := ih (by omega)
  rw [ji, YQ]
  have hlt : lo + n < a.length := by omega
  by_cases hf : 0 ≤ qt (a.getD (lo + n) default) p
  ·rw [if_pos hf]
   obtain ⟨h1, h2⟩ := GG (fun r : Rec => decide (r.path = p)) _ hf
   refine .inr ⟨by show (0 : Int) < ((lo + n : Nat) : Int) + 1; omega, by show ((lo + n : Nat) : Int) + 1 ≤ _; omega, fun h => ?_, a[lo + n], List.getElem_mem hlt, ?_, of_decide_eq_true h2⟩
   ·show (_ || _) = true
    rw [h, Bool.or_true]
   ·show gt _ _ ∈ _
    rw [← vY hlt]
    obtain ⟨hj, he⟩ := Vz h1
    unfold qt
    rw [← he]
    exact List.getElem_mem hj
  ·rw [if_neg hf]
   rcases ih with h | ⟨h1, h2, h3, h4⟩
   ·exact .inl h
   ·exact .inr ⟨h1, by omega, h3, h4⟩
def vf.b1 (a0 : List (List Rec)) (a1 : List UInt8) : Int × Bool × Int × Rec → Option (Step (Rec × Int × Bool) (Int × Bool × Int × Rec) (Int × Bool × Rec)) :=
 fun q => match q with
 | (x8_21, x9_22, x10_23, y24) => bif (decide (x10_23 ≤ (a0.length : Int))) then (bif inR (IntKind.wrap .i64 (x10_23 - 1)) a0.length then (bif decide ((gt a0 (IntKind.wrap .i64 (x10_23 - 1))).length ≤ 1048576) then (bif (decide (0 ≤ (qt (gt a0 (IntKind.wrap .i64 (x10_23 - 1))) a1))) then (bif inR (IntKind.wrap .i64 (x10_23 - 1)) a0.length then (bif inR (qt (gt a0 (IntKind.wrap .i64 (x10_23 - 1))) a1) (gt a0 (IntKind.wrap .i64 (x10_23 - 1))).length then (some (.nxt (x10_23, (x9_22 || (yC (gt (gt a0 (IntKind.wrap .i64 (x10_23 - 1))) (qt (gt a0 (IntKind.wrap .i64 (x10_23 - 1))) a1)))), IntKind.wrap .i64 (x10_23 + 1), (gt (gt a0 (IntKind.wrap .i64 (x10_23 - 1))) (qt (gt a0 (IntKind.wrap .i64 (x10_23 - 1))) a1))))) else none) else none) else (some (.nxt (x8_21, x9_22, IntKind.wrap .i64 (x10_23 + 1), y24)))) else none) else none) else (some (.brk (x8_21, x9_22, y24)))
def vf.sh (k : Nat) (a0 : List (List Rec)) (a1 : List UInt8) : Option (Rec × Int × Bool) :=
  bif decide (a0.length ≤ 1048576) then (bif decide (a1.length ≤ 1048576) then (bif decide (∀ l ∈ a0, l.length ≤ 1048576) then ((qn (vf.b1 a0 a1) k (0, false, (if ((jT a0 a1) < 1 : Prop) then 1 else (jT a0 a1)), (⟨0, ([] : List UInt8), ([] : List UInt8), 0, false⟩ : Rec))).bind fun z => match z with | .inl t => some t | .inr (x8_28, x9_29, y30) => bif (decide (y30.kind = 3)) then (some ((⟨y30.kind, y30.path, y30.body, y30.mode, x9_29⟩ : Rec), x8_28, (decide (0 < x8_28)))) else (some (y30, x8_28, (decide (0 < x8_28))))) else none) else none) else none
theorem vf.eq (a0 : List (List Rec)) (a1 : List UInt8) (h0 : qO a0 = true) (h1 : a0.length ≤ 1048576) (h2 : a1.length ≤ 1048576) (h3 : ∀ l ∈ a0, l.length ≤ 1048576) : ∃ k, vf.sh k a0 a1 = some ((winner a0 a1).1, (winner a0 a1).2, decide ((0 : Int) < (winner a0 a1).2)) := by
 refine ⟨a0.length + 1, ?_⟩
 unfold vf.sh winner
 rw [Gp]
 have hlo := YB a0 a1
 have key : ∀ (m n k : Nat), vx a0 a1 + n + m = a0.length → m < k → qn (vf.b1 a0 a1) k ((ji a0 a1 (vx a0 a1) n).2.1, (ji a0 a1 (vx a0 a1) n).2.2, ((vx a0 a1 + n : Nat) : Int) + 1, (ji a0 a1 (vx a0 a1) n).1) = some (.inr ((j8 a0 a1).2.1, (j8 a0 a1).2.2, (j8 a0 a1).1)) := by
  intro m
  induction m with
  | zero =>
   intro n k hn hk
   obtain ⟨k, rfl⟩ : ∃ j, k = j + 1 := ⟨k - 1, by omega⟩
   have e : a0.length - vx a0 a1 = n := by omega
   have e9 : ¬ (((vx a0 a1 + n : Nat) : Int) + 1 ≤ (a0.length : Int)) := by omega
   rw [qn]
   simp only [vf.b1, e9, decide_false, cond_false]
   rw [j8, e]; rfl
  | succ m ih =>
   intro n k hn hk
   obtain ⟨k, rfl⟩ : ∃ j, k = j + 1 := ⟨k - 1, by omega⟩
   have hlt : vx a0 a1 + n < a0.length := by omega
   have e1 := h3 a0[vx a0 a1 + n] (List.getElem_mem hlt)
   rw [← vY hlt] at e1
   have e9 : ((vx a0 a1 + n : Nat) : Int) + 1 ≤ (a0.length : Int) := by omega
   have ew : IntKind.wrap .i64 (((vx a0 a1 + n : Nat) : Int) + 1 - 1) = ((vx a0 a1 + n : Nat) : Int) := by
    rw [wrap_small (by omega) (by omega)]; omega
   have ew2 : IntKind.wrap .i64 (((vx a0 a1 + n : Nat) : Int) + 1 + 1) = ((vx a0 a1 + (n + 1) : Nat) : Int) + 1 := by
    rw [wrap_small (by omega) (by omega)]; omega
   have hI := ih (n + 1) k (by omega) (by omega)
   rw [qn]
   simp only [vf.b1, e9, decide_true, cond_true, ew, ew2, qT hlt, vJ, e1]
   by_cases hf : 0 ≤ qt (a0.getD (vx a0 a1 + n) default) a1
   ·have es : ji a0 a1 (vx a0 a1) (n + 1) = (gt (a0.getD (vx a0 a1 + n) default) (qt (a0.getD (vx a0 a1 + n) default) a1), ((vx a0 a1 + n : Nat) : Int) + 1, (ji a0 a1 (vx a0 a1) n).2.2 || yC (gt (a0.getD (vx a0 a1 + n) default) (qt (a0.getD (vx a0 a1 + n) default) a1))) := by
     rw [ji, YQ, if_pos hf]
    rw [es] at hI
    simp only [hf, decide_true, cond_true, Q0 hf]
    exact hI
   ·have es : ji a0 a1 (vx a0 a1) (n + 1) = ji a0 a1 (vx a0 a1) n := by rw [ji, YQ, if_neg hf]
    rw [es] at hI
    simp only [hf, decide_false, cond_false]
    exact hI
 have hk := key (a0.length - vx a0 a1) 0 (a0.length + 1) (by omega) (by omega)
 simp only [ji, Nat.add_zero] at hk
 simp only [jD] at hk
 simp only [h0, h1, h2, decide_true, cond_true, decide_eq_true h3, hk, Option.bind_some, VU]
 by_cases hd : (j8 a0 a1).1.kind = 3 <;> simp [hd]
theorem Xg {r : Rec} (h : qz r = 0) (ho : r.opq = true) : r.kind = 3 := by
 unfold qz at h
 by_cases hk : r.kind = 3
 ·exact hk
 ·simp only [ho, hk, decide_false, Bool.not_false, Bool.true_and, Bool.or_true, if_true] at h
  repeat' split at h
  all_goals omega
def Gd (s : Rec × Int × Bool) : Rec := if s.2.2 then ⟨s.1.kind, s.1.path, s.1.body, s.1.mode, decide (s.1.kind = 3)⟩ else s.1
theorem closeS_eq {a : List (List Rec)} {p : List UInt8} (h : qO a = true) {lo n : Nat} (hn : lo + n ≤ a.length) : Gd (ji a p lo n) = VU (ji a p lo n) := by
 rcases JL a p lo n hn with h0 | ⟨_, _, hs, l, hl, hx, _⟩
 ·rw [h0]; rfl
 ·have hr := Jj ((Gv h).2 l hl) _ hx
  have ho := Xg hr
  generalize ji a p lo n = s at *
  obtain ⟨⟨k, q, b, m, o⟩, i, t⟩ := s
  simp only [Gd, VU, yC] at *
  by_cases hk : k = 3
  ·cases t
   ·cases o
    ·simp [hk]
    ·simp at hs
   ·simp [hk]
  ·have ht : t = true := hs (by simp [hk])
   have hof : o = false := by
    cases o
    ·rfl
    ·exact absurd (ho rfl) hk
   simp [hk, ht, hof]
def qV.b1 (a0 : List (List Rec)) (a1 : List UInt8) : Int × Int × Rec → Option (Step (Rec × Int) (Int × Int × Rec) (Int × Rec)) :=
 fun q => match q with
 | (x8_21, x9_22, y23) => bif (decide ((if ((jT a0 a1) < 1 : Prop) then 1 else (jT a0 a1)) ≤ x9_22)) then (bif inR (IntKind.wrap .i64 (x9_22 - 1)) a0.length then (bif decide ((gt a0 (IntKind.wrap .i64 (x9_22 - 1))).length ≤ 1048576) then (bif (decide ((qt (gt a0 (IntKind.wrap .i64 (x9_22 - 1))) a1) < 0)) then (some (.nxt (x8_21, IntKind.wrap .i64 (x9_22 - 1), y23))) else (bif inR (IntKind.wrap .i64 (x9_22 - 1)) a0.length then (bif inR (qt (gt a0 (IntKind.wrap .i64 (x9_22 - 1))) a1) (gt a0 (IntKind.wrap .i64 (x9_22 - 1))).length then (bif (decide (x8_21 = 0)) then ((some (yC (gt (gt a0 (IntKind.wrap .i64 (x9_22 - 1))) (qt (gt a0 (IntKind.wrap .i64 (x9_22 - 1))) a1)))).bind fun z77 => bif z77 then (some (.ret ((⟨(gt (gt a0 (IntKind.wrap .i64 (x9_22 - 1))) (qt (gt a0 (IntKind.wrap .i64 (x9_22 - 1))) a1)).kind, (gt (gt a0 (IntKind.wrap .i64 (x9_22 - 1))) (qt (gt a0 (IntKind.wrap .i64 (x9_22 - 1))) a1)).path, (gt (gt a0 (IntKind.wrap .i64 (x9_22 - 1))) (qt (gt a0 (IntKind.wrap .i64 (x9_22 - 1))) a1)).body, (gt (gt a0 (IntKind.wrap .i64 (x9_22 - 1))) (qt (gt a0 (IntKind.wrap .i64 (x9_22 - 1))) a1)).mode, (decide (((gt (gt a0 (IntKind.wrap .i64 (x9_22 - 1))) (qt (gt a0 (IntKind.wrap .i64 (x9_22 - 1))) a1)).kind) = 3))⟩ : Rec), x9_22))) else (some (.nxt (x9_22, IntKind.wrap .i64 (x9_22 - 1), (gt (gt a0 (IntKind.wrap .i64 (x9_22 - 1))) (qt (gt a0 (IntKind.wrap .i64 (x9_22 - 1))) a1)))))) else ((some (yC (gt (gt a0 (IntKind.wrap .i64 (x9_22 - 1))) (qt (gt a0 (IntKind.wrap .i64 (x9_22 - 1))) a1)))).bind fun z88 => bif z88 then (some (.ret ((⟨y23.kind, y23.path, y23.body, y23.mode, (decide (y23.kind = 3))⟩ : Rec), x8_21))) else (some (.nxt (x8_21, IntKind.wrap .i64 (x9_22 - 1), y23))))) else none) else none)) else none) else none) else (some (.brk (x8_21, y23)))
def qV.sh (k : Nat) (a0 : List (List Rec)) (a1 : List UInt8) : Option (Rec × Int) :=
  bif decide (a0.length ≤ 1048576) then (bif decide (a1.length ≤ 1048576) then (bif decide (∀ l ∈ a0, l.length ≤ 1048576) then ((qn (qV.b1 a0 a1) k (0, (a0.length : Int), (⟨0, ([] : List UInt8), ([] : List UInt8), 0, false⟩ : Rec))).bind fun z => match z with | .inl t => some t | .inr (x8_27, y28) => some (y28, x8_27)) else none) else none) else none
theorem qV.eq (a0 : List (List Rec)) (a1 : List UInt8) (h0 : qO a0 = true) (h1 : a0.length ≤ 1048576) (h2 : a1.length ≤ 1048576) (h3 : ∀ l ∈ a0, l.length ≤ 1048576) : ∃ k, qV.sh k a0 a1 = some ((winner a0 a1).1, (winner a0 a1).2) := by
  refine ⟨a0.length + 1, ?_⟩
  unfold qV.sh winner
  have hlo := YB a0 a1
  have stp : ∀ n : Nat, vx a0 a1 + (n + 1) ≤ a0.length → inR ((vx a0 a1 + n : Nat) : Int) a0.length = true ∧ (a0.getD (vx a0 a1 + n) default).length ≤ 1048576 ∧ ((if ((jT a0 a1) < 1 : Prop) then (1 : Int) else jT a0 a1) ≤ ((vx a0 a1 + (n + 1) : Nat) : Int)) ∧ IntKind.wrap .i64 (((vx a0 a1 + (n + 1) : Nat) : Int) - 1) = ((vx a0 a1 + n : Nat) : Int) := by
    intro n hn
    have hlt : vx a0 a1 + n < a0.length := by omega
    have e1 := h3 a0[vx a0 a1 + n] (List.getElem_mem hlt)
    rw [← vY hlt] at e1
    exact ⟨qT hlt, e1, by rw [Gp]; omega, by rw [wrap_small (by omega) (by omega)]; omega⟩
  have stop : ¬ ((if ((jT a0 a1) < 1 : Prop) then (1 : Int) else jT a0 a1) ≤ ((vx a0 a1 : Nat) : Int)) := by rw [Gp]; omega
  have key2 : ∀ (n k : Nat) (f : Int) (y : Rec), f ≠ 0 → vx a0 a1 + n ≤ a0.length → n < k → ∃ z, qn (qV.b1 a0 a1) k (f, ((vx a0 a1 + n : Nat) : Int), y) = some z ∧ (match z with | .inl t => some t | .inr (x, y) => some (y, x)) = some ((if (ji a0 a1 (vx a0 a1) n).2.2 then ⟨y.kind, y.path, y.body, y.mode, decide (y.kind = 3)⟩ else y : Rec), f) := by
    intro n
    induction n with
    | zero =>
      intro k f y hf hn hk
      obtain ⟨k, rfl⟩ : ∃ j, k = j + 1 := ⟨k - 1, by omega⟩
      refine ⟨.inr (f, y), ?_, rfl⟩
      rw [qn]
      simp only [qV.b1, Nat.add_zero, stop, decide_false, cond_false]; rfl
    | succ n ih =>
      intro k f y hf hn hk
      obtain ⟨k, rfl⟩ : ∃ j, k = j + 1 := ⟨k - 1, by omega⟩
      obtain ⟨s1, s2, s3, s4⟩ := stp n hn
      obtain ⟨z, hz, hP⟩ := ih k f y hf (by omega) (by omega)
      rw [qn]
      simp only [qV.b1, s3, decide_true, cond_true, s4, s1, vJ, s2]
      by_cases hr : 0 ≤ qt (a0.getD (vx a0 a1 + n) default) a1
      · have es : ji a0 a1 (vx a0 a1) (n + 1) = (gt (a0.getD (vx a0 a1 + n) default) (qt (a0.getD (vx a0 a1 + n) default) a1), ((vx a0 a1 + n : Nat) : Int) + 1, (ji a0 a1 (vx a0 a1) n).2.2 || yC (gt (a0.getD (vx a0 a1 + n) default) (qt (a0.getD (vx a0 a1 + n) default) a1))) := by
          rw [ji, YQ, if_pos hr]
        have hr2 : ¬ qt (a0.getD (vx a0 a1 + n) default) a1 < 0 := by omega
        rw [es]
        simp only [hr2, decide_false, cond_false, Q0 hr, cond_true, hf, Option.bind_some]
        rcases qw (yC (gt (a0.getD (vx a0 a1 + n) default) (qt (a0.getD (vx a0 a1 + n) default) a1))) with hs | hs
        · exact ⟨.inl (⟨y.kind, y.path, y.body, y.mode, decide (y.kind = 3)⟩, f), by rw [hs]; rfl, by rw [hs, Bool.or_true]; rfl⟩
        · refine ⟨z, by rw [hs]; exact hz, ?_⟩
          rw [hs, Bool.or_false]; exact hP
      · have es : ji a0 a1 (vx a0 a1) (n + 1) = ji a0 a1 (vx a0 a1) n := by rw [ji, YQ, if_neg hr]
        have hr2 : qt (a0.getD (vx a0 a1 + n) default) a1 < 0 := by omega
        rw [es]
        simp only [hr2, decide_true, cond_true]
        exact ⟨z, hz, hP⟩
  have key1 : ∀ (n k : Nat), vx a0 a1 + n ≤ a0.length → n < k → ∃ z, qn (qV.b1 a0 a1) k (0, ((vx a0 a1 + n : Nat) : Int), jD) = some z ∧ (match z with | .inl t => some t | .inr (x, y) => some (y, x)) = some (Gd (ji a0 a1 (vx a0 a1) n), (ji a0 a1 (vx a0 a1) n).2.1) := by
    intro n
    induction n with
    | zero =>
      intro k hn hk
      obtain ⟨k, rfl⟩ : ∃ j, k = j + 1 := ⟨k - 1, by omega⟩
      refine ⟨.inr (0, jD), ?_, rfl⟩
      rw [qn]
      simp only [qV.b1, Nat.add_zero, stop, decide_false, cond_false]; rfl
    | succ n ih =>
      intro k hn hk
      obtain ⟨k, rfl⟩ : ∃ j, k = j + 1 := ⟨k - 1, by omega⟩
      obtain ⟨s1, s2, s3, s4⟩ := stp n hn
      rw [qn]
      simp only [qV.b1, s3, decide_true, cond_true, s4, s1, vJ, s2]
      by_cases hr : 0 ≤ qt (a0.getD (vx a0 a1 + n) default) a1
      · have es : ji a0 a1 (vx a0 a1) (n + 1) = (gt (a0.getD (vx a0 a1 + n) default) (qt (a0.getD (vx a0 a1 + n) default) a1), ((vx a0 a1 + n : Nat) : Int) + 1, (ji a0 a1 (vx a0 a1) n).2.2 || yC (gt (a0.getD (vx a0 a1 + n) default) (qt (a0.getD (vx a0 a1 + n) default) a1))) := by
          rw [ji, YQ, if_pos hr]
        have hr2 : ¬ qt (a0.getD (vx a0 a1 + n) default) a1 < 0 := by omega
        have ei : ((vx a0 a1 + (n + 1) : Nat) : Int) = ((vx a0 a1 + n : Nat) : Int) + 1 := by omega
        rw [es]
        simp only [hr2, decide_false, cond_false, Q0 hr, cond_true, decide_true, Option.bind_some]
        generalize gt (a0.getD (vx a0 a1 + n) default) (qt (a0.getD (vx a0 a1 + n) default) a1) = x
        rcases qw (yC x) with hs | hs
        · refine ⟨.inl (⟨x.kind, x.path, x.body, x.mode, decide (x.kind = 3)⟩, ((vx a0 a1 + (n + 1) : Nat) : Int)), by rw [hs]; rfl, ?_⟩
          simp only [Gd, hs, Bool.or_true, if_true]
          rw [ei]
        · obtain ⟨z, hz, hP⟩ := key2 n k ((vx a0 a1 + (n + 1) : Nat) : Int) x (by omega) (by omega) (by omega)
          refine ⟨z, by rw [hs]; exact hz, ?_⟩
          rw [hP]
          simp only [Gd, hs, Bool.or_false]
          rw [ei]
      · have es : ji a0 a1 (vx a0 a1) (n + 1) = ji a0 a1 (vx a0 a1) n := by rw [ji, YQ, if_neg hr]
        have hr2 : qt (a0.getD (vx a0 a1 + n) default) a1 < 0 := by omega
        rw [es]
        obtain ⟨z, hz, hP⟩ := ih k (by omega) (by omega)
        simp only [hr2, decide_true, cond_true]
        exact ⟨z, hz, hP⟩
  obtain ⟨z, hz, hP⟩ := key1 (a0.length - vx a0 a1) (a0.length + 1) (by omega) (by omega)
  have el : ((vx a0 a1 + (a0.length - vx a0 a1) : Nat) : Int) = (a0.length : Int) := by omega
  rw [el] at hz
  simp only [jD] at hz
  simp only [h0, h1, h2, decide_true, cond_true, decide_eq_true h3, hz, Option.bind_some]
  rw [closeS_eq h0 (by omega)] at hP
  exact hP
theorem winner_pos (a : List (List Rec)) (p : List UInt8) : 0 ≤ (winner a p).2 := by
 have h := JL a p (vx a p) (a.length - vx a p) (by have := YB a p; omega)
 show 0 ≤ (ji a p (vx a p) (a.length - vx a p)).2.1
 rcases h with h | ⟨h, _⟩
 ·rw [h]; exact Int.le_refl _
 ·omega
def yI.sh (a0 : List (List Rec)) (a1 : List UInt8) : Option (Rec × Int × Int) :=
 bif ((decide (4096 < (a0.length : Int))) || (decide (65536 < (a1.length : Int)))) then (some ((⟨0, ([] : List UInt8), ([] : List UInt8), 0, false⟩ : Rec), 0, 2)) else (bif decide (a0.length ≤ 1048576) then (bif decide (∀ l ∈ a0, l.length ≤ 1048576) then (bif decide (∀ l ∈ a0, ∀ x ∈ l, x.path.length ≤ 1048576) then (bif (!(qO a0)) then (some ((⟨0, ([] : List UInt8), ([] : List UInt8), 0, false⟩ : Rec), 0, 1)) else (bif (!(qy a1)) then (some ((⟨0, ([] : List UInt8), ([] : List UInt8), 0, false⟩ : Rec), 0, 10)) else (bif decide (qO a0 = true) then (bif decide (a0.length ≤ 1048576) then (bif decide (a1.length ≤ 1048576) then (bif decide (∀ l ∈ a0, l.length ≤ 1048576) then (bif (decide (((winner a0 a1).2) = 0)) then (some ((⟨0, ([] : List UInt8), ([] : List UInt8), 0, false⟩ : Rec), 0, 5)) else (some (((winner a0 a1).1), (winner a0 a1).2, 0))) else none) else none) else none) else none))) else none) else none) else none)
theorem yI.eq (a0 : List (List Rec)) (a1 : List UInt8) (h0 : a0.length ≤ 1048576) (h1 : ∀ l ∈ a0, l.length ≤ 1048576) (h2 : ∀ l ∈ a0, ∀ x ∈ l, x.path.length ≤ 1048576) : yI.sh a0 a1 = some ((vG a0 a1).1, (vG a0 a1).2.1, (vG a0 a1).2.2) := by
 unfold yI.sh vG pathCode stackCode
 rw [Vr, len_dec]
 by_cases h : 65536 < a1.length
 ·simp [h, jD]
 ·by_cases h4 : 4096 < a0.length
  ·simp [h, h4, jD]
  ·rcases qw (qO a0) with h3 | h3
   ·rcases qw (qy a1) with h5 | h5
    ·have hp := winner_pos a0 a1
     by_cases hw : (winner a0 a1).2 = 0
     ·simp [h, h4, h3, h5, h0, decide_eq_true h1, decide_eq_true h2, yi h5, hw, jD]
     ·have hw2 : 0 < (winner a0 a1).2 := by omega
      simp [h, h4, h3, h5, h0, decide_eq_true h1, decide_eq_true h2, yi h5, hw, hw2]
    ·simp [h, h4, h3, h5, h0, decide_eq_true h1, decide_eq_true h2, jD]
   ·simp [h, h4, h3, h0, decide_eq_true h1, decide_eq_true h2, jD]
def yK.sh (a0 : List (List Rec)) (a1 : List UInt8) : Option (Rec × Int × Int) :=
 bif decide (a0.length ≤ 1048576) then (bif decide (∀ l ∈ a0, l.length ≤ 1048576) then (bif decide (∀ l ∈ a0, ∀ x ∈ l, x.path.length ≤ 1048576) then (bif (!decide ((pathCode a0 a1) = 0)) then (some ((⟨0, ([] : List UInt8), ([] : List UInt8), 0, false⟩ : Rec), 0, (pathCode a0 a1))) else (bif decide (qO a0 = true) then (bif decide (a0.length ≤ 1048576) then (bif decide (a1.length ≤ 1048576) then (bif decide (∀ l ∈ a0, l.length ≤ 1048576) then (bif (!(decide ((0 : Int) < (winner a0 a1).2))) then (some ((⟨0, ([] : List UInt8), ([] : List UInt8), 0, false⟩ : Rec), 0, 5)) else (some (((winner a0 a1).1), (winner a0 a1).2, 0))) else none) else none) else none) else none)) else none) else none) else none
theorem yK.eq (a0 : List (List Rec)) (a1 : List UInt8) (h0 : a0.length ≤ 1048576) (h1 : ∀ l ∈ a0, l.length ≤ 1048576) (h2 : ∀ l ∈ a0, ∀ x ∈ l, x.path.length ≤ 1048576) : yK.sh a0 a1 = some ((vG a0 a1).1, (vG a0 a1).2.1, (vG a0 a1).2.2) := by
 unfold yK.sh vG
 by_cases hp : pathCode a0 a1 = 0
 ·have h3 := Yh hp
  have := yi h3.2
  by_cases hw : 0 < (winner a0 a1).2
  ·simp [h0, decide_eq_true h1, decide_eq_true h2, hp, this, h3.1, hw]
  ·simp [h0, decide_eq_true h1, decide_eq_true h2, hp, this, h3.1, hw, jD]
 ·simp [h0, decide_eq_true h1, decide_eq_true h2, hp, jD]
theorem bl_trans : ∀ a b c : List UInt8, Op.bytesLess a b = true → Op.bytesLess b c = true → Op.bytesLess a c = true := by
 intro a
 induction a with
 | nil => intro b c h1 h2; cases b with
  | nil => simp [Op.bytesLess] at h1
  | cons y b => cases c with
   | nil => simp [Op.bytesLess] at h2
   | cons z c => rfl
 | cons x a ih =>
  intro b c h1 h2
  cases b with
  | nil => simp [Op.bytesLess] at h1
  | cons y b => cases c with
   | nil => simp [Op.bytesLess] at h2
   | cons z c =>
    simp only [Op.bytesLess, Bool.or_eq_true, Bool.and_eq_true, decide_eq_true_eq, beq_iff_eq, UInt8.lt_iff_toNat_lt] at h1 h2 ⊢
    rcases h1 with h1 | ⟨rfl, h1⟩
    ·rcases h2 with h2 | ⟨rfl, h2⟩
     ·exact .inl (by omega)
     ·exact .inl h1
    ·rcases h2 with h2 | ⟨rfl, h2⟩
     ·exact .inl h2
     ·exact .inr ⟨rfl, ih b c h1 h2⟩
theorem bl_tri : ∀ a b : List UInt8, Op.bytesLess a b = false → Op.bytesLess b a = false → a = b := by
 intro a
 induction a with
 | nil => intro b h1 h2; cases b with
  | nil => rfl
  | cons y b => simp [Op.bytesLess] at h1
 | cons x a ih =>
  intro b h1 h2
  cases b with
  | nil => simp [Op.bytesLess] at h2
  | cons y b =>
   simp only [Op.bytesLess, Bool.or_eq_false_iff, Bool.and_eq_false_iff, decide_eq_false_iff_not, beq_eq_false_iff_ne, UInt8.lt_iff_toNat_lt] at h1 h2
   have hxy : x = y := UInt8.toNat_inj.1 (by omega)
   subst hxy
   rcases h1.2 with h | h
   ·exact absurd rfl h
   ·rcases h2.2 with h' | h'
    ·exact absurd rfl h'
    ·rw [ih b h h']
theorem lt8_trans {a b c : List UInt8} (h1 : lt8 a b = true) (h2 : lt8 b c = true) : lt8 a c = true := by
 simp only [lt8] at *
 exact bl_trans _ _ _ h1 h2
theorem lt8_tri {a b : List UInt8} (h1 : lt8 a b = false) (h2 : lt8 b a = false) : a = b := by
 simp only [lt8] at *
 exact bl_tri _ _ h1 h2
theorem G1 : ∀ a, vP a a = false := by
 intro a
 induction a with
 | nil => rfl
 | cons x a ih => simp [vP, ih]
theorem XM : ∀ a b c, vP a b = true → vP b c = true → vP a c = true := by
 intro a
 induction a with
 | nil =>
  intro b c h1 h2
  cases b with
  | nil => simp [vP] at h1
  | cons y b => cases c with
   | nil => simp [vP] at h2
   | cons z c => rfl
 | cons x a ih =>
  intro b c h1 h2
  cases b with
  | nil => simp [vP] at h1
  | cons y b => cases c with
   | nil => simp [vP] at h2
   | cons z c =>
    simp only [vP] at h1 h2 ⊢
    by_cases hxy : x = y
    ·subst hxy
     simp only [if_true] at h1
     by_cases hxz : x = z
     ·subst hxz
      simp only [if_true] at h2 ⊢
      exact ih b c h1 h2
     ·simp only [hxz, if_false] at h2 ⊢; exact h2
    ·simp only [hxy, if_false] at h1
     by_cases hyz : y = z
     ·subst hyz
      simp only [hxy, if_false]; exact h1
     ·simp only [hyz, if_false] at h2
      have h3 := lt8_trans h1 h2
      by_cases hxz : x = z
      ·subst hxz; rw [VB] at h3; cases h3
      ·simp only [hxz, if_false]; exact h3
theorem lessL_tri : ∀ a b, vP a b = false → vP b a = false → a = b := by
 intro a
 induction a with
 | nil =>
  intro b h1 h2
  cases b with
  | nil => rfl
  | cons y b => simp [vP] at h1
 | cons x a ih =>
  intro b h1 h2
  cases b with
  | nil => simp [vP] at h2
  | cons y b =>
   simp only [vP] at h1 h2
   by_cases hxy : x = y
   ·subst hxy
    simp only [if_true] at h1 h2
    rw [ih b h1 h2]
   ·have hyx : ¬ y = x := fun e => hxy e.symm
    simp only [hxy, hyx, if_false] at h1 h2
    exact absurd (lt8_tri h1 h2) hxy
def ltP (a b : List UInt8) : Bool := vP (cut 47 a) (cut 47 b)
theorem Q4 (a : List UInt8) : ltP a a = false := G1 _
theorem Qi {a b c : List UInt8} (h1 : ltP a b = true) (h2 : ltP b c = true) : ltP a c = true := XM _ _ _ h1 h2
theorem Vf {a b : List UInt8} (h1 : ltP a b = false) (h2 : ltP b a = false) : a = b := cut_inj (lessL_tri _ _ h1 h2)
theorem QJ {a b : List UInt8} (h : ltP a b = true) : ltP b a = false := by
 rcases qw (ltP b a) with h2 | h2
 ·have := Qi h h2; rw [Q4] at this; cases this
 ·exact h2
theorem Y2 {a b : List UInt8} (h : ltP a b = true) : a ≠ b := fun e => by subst e; rw [Q4] at h; cases h
def jk (l : List (List UInt8)) : Prop := l.Pairwise fun a b => ltP a b = true
theorem jk.uniq : ∀ {a b : List (List UInt8)}, jk a → jk b → (∀ x, x ∈ a ↔ x ∈ b) → a = b := by
 intro a
 induction a with
 | nil =>
  intro b _ _ h
  cases b with
  | nil => rfl
  | cons y b => exact absurd ((h y).2 (List.mem_cons_self ..)) (by simp)
 | cons x a ih =>
  intro b ha hb h
  cases b with
  | nil => exact absurd ((h x).1 (List.mem_cons_self ..)) (by simp)
  | cons y b =>
   have ha' := List.pairwise_cons.1 ha
   have hb' := List.pairwise_cons.1 hb
   have hxy : x = y := by
    rcases List.mem_cons.1 ((h x).1 (List.mem_cons_self ..)) with e | hx
    ·exact e
    ·rcases List.mem_cons.1 ((h y).2 (List.mem_cons_self ..)) with e | hy
     ·exact e.symm
     ·have h1 := hb'.1 x hx
      have h2 := ha'.1 y hy
      rw [QJ h1] at h2; cases h2
   subst hxy
   congr 1
   refine ih ha'.2 hb'.2 fun z => ?_
   constructor
   ·intro hz
    rcases List.mem_cons.1 ((h z).1 (List.mem_cons_of_mem _ hz)) with e | hz'
    ·subst e; exact absurd rfl (Y2 (ha'.1 z hz))
    ·exact hz'
   ·intro hz
    rcases List.mem_cons.1 ((h z).2 (List.mem_cons_of_mem _ hz)) with e | hz'
    ·subst e; exact absurd rfl (Y2 (hb'.1 z hz))
    ·exact hz'
theorem JI {x : List UInt8} {l : List (List UInt8)} (h : jk (x :: l)) : ∀ z ∈ l, ltP x z = true := (List.pairwise_cons.1 h).1
theorem JD {x : List UInt8} {l : List (List UInt8)} (h : jk (x :: l)) : jk l := (List.pairwise_cons.1 h).2
def Vi (l : List (List UInt8)) (p : List UInt8) : List (List UInt8) := l.filter (fun x => ltP x p) ++ p :: l.filter (fun x => ltP p x)
theorem Y5 {l : List (List UInt8)} (h : jk l) (p : List UInt8) : jk (Vi l p) := by
 unfold Vi jk
 rw [List.pairwise_append, List.pairwise_cons]
 refine ⟨List.Pairwise.filter _ h, ⟨fun z hz => (List.mem_filter.1 hz).2, List.Pairwise.filter _ h⟩, ?_⟩
 intro u hu v hv
 have h1 := (List.mem_filter.1 hu).2
 rcases List.mem_cons.1 hv with rfl | hv
 ·exact h1
 ·exact Qi h1 (List.mem_filter.1 hv).2
theorem Gi (l : List (List UInt8)) (p z : List UInt8) : z ∈ Vi l p ↔ z = p ∨ z ∈ l := by
 unfold Vi
 rw [List.mem_append, List.mem_cons, List.mem_filter, List.mem_filter]
 constructor
 ·rintro (h | h | h)
  ·exact .inr h.1
  ·exact .inl h
  ·exact .inr h.1
 ·rintro (h | h)
  ·exact .inr (.inl h)
  ·rcases qw (ltP z p) with h1 | h1
   ·exact .inl ⟨h, h1⟩
   ·rcases qw (ltP p z) with h2 | h2
    ·exact .inr (.inr ⟨h, h2⟩)
    ·exact .inr (.inl (Vf h1 h2))
def Vm (l : List (List UInt8)) : List (List UInt8) := l.foldl Vi []
theorem J0 : ∀ (l acc : List (List UInt8)), jk acc → jk (l.foldl Vi acc) ∧ ∀ z, z ∈ l.foldl Vi acc ↔ z ∈ l ∨ z ∈ acc := by
 intro l
 induction l with
 | nil => intro acc h; exact ⟨h, fun z => by simp⟩
 | cons x l ih =>
  intro acc h
  obtain ⟨h1, h2⟩ := ih (Vi acc x) (Y5 h x)
  refine ⟨h1, fun z => ?_⟩
  rw [List.foldl_cons, h2, Gi, List.mem_cons]
  constructor
  ·rintro (h | h | h)
   ·exact .inl (.inr h)
   ·exact .inl (.inl h)
   ·exact .inr h
  ·rintro ((h | h) | h)
   ·exact .inr (.inl h)
   ·exact .inl h
   ·exact .inr (.inr h)
theorem VW (l : List (List UInt8)) : jk (Vm l) := (J0 l [] List.Pairwise.nil).1
theorem JK (l : List (List UInt8)) (z : List UInt8) : z ∈ Vm l ↔ z ∈ l := by
 rw [Vm, (J0 l [] List.Pairwise.nil).2]; simp
theorem Xz (l : List (List UInt8)) (p : List UInt8) : (Vi l p).length ≤ l.length + 1 := by
 unfold Vi
 have : (l.filter fun x => ltP x p).length + (l.filter fun x => ltP p x).length ≤ l.length := by
  induction l with
  | nil => simp
  | cons x l ih =>
   rcases qw (ltP x p) with h1 | h1
   ·have h2 := QJ h1
    simp [h1, h2]; omega
   ·rcases qw (ltP p x) with h2 | h2 <;> simp [h1, h2] <;> omega
 simp only [List.length_append, List.length_cons]; omega
theorem riseOf_len (l : List (List UInt8)) : (Vm l).length ≤ l.length := by
 have : ∀ (l acc : List (List UInt8)), (l.foldl Vi acc).length ≤ l.length + acc.length := by
  intro l
  induction l with
  | nil => intro acc; simp
  | cons x l ih =>
   intro acc
   have h1 := ih (Vi acc x)
   have h2 := Xz acc x
   simp only [List.foldl_cons, List.length_cons]; omega
 have := this l []
 simpa [Vm] using this
def qK (ls : List (List Rec)) : List (List UInt8) := Vm (ls.flatten.map (·.path))
theorem JH {α : Type} [Inhabited α] {l : List α} {i : Nat} (h : i < l.length) : l.drop i = gt l (i : Int) :: l.drop (i + 1) := by
 rw [List.drop_eq_getElem_cons h, vJ, vY h]
def ve.b2 (a0 : List (List Rec)) (x11_9 : Int) : List (List UInt8) × Int → Option (Step (Step (List (List UInt8)) (List (List UInt8) × Int) (List (List UInt8))) (List (List UInt8) × Int) (List (List UInt8))) :=
 fun q => match q with
 | (x3_36, x17_38) => bif (decide (x17_38 < ((gt a0 x11_9).length : Int))) then (bif inR x17_38 (gt a0 x11_9).length then (bif decide ((x3_36.length + ([(gt (gt a0 x11_9) x17_38).path] : List (List UInt8)).length) * 16 ≤ 140737488355328) then (some (.nxt (x3_36 ++ ([(gt (gt a0 x11_9) x17_38).path] : List (List UInt8)), IntKind.wrap .i64 (x17_38 + 1)))) else none) else none) else (some (.brk x3_36))
def ve.b1 (k : Nat) (a0 : List (List Rec)) : List (List UInt8) × Int → Option (Step (List (List UInt8)) (List (List UInt8) × Int) (List (List UInt8))) :=
  fun q => match q with
  | (x3_7, x11_9) => bif (decide (x11_9 < (a0.length : Int))) then (bif inR x11_9 a0.length then ((qn (ve.b2 a0 x11_9) k (x3_7, 0)).bind fun z => match z with | .inl t => some t | .inr x3_42 => some (.nxt (x3_42, IntKind.wrap .i64 (x11_9 + 1)))) else none) else (some (.brk x3_7))
def ve.sh (k : Nat) (a0 : List (List Rec)) : Option (List (List UInt8)) :=
  (qn (ve.b1 k a0) k (([] : List (List UInt8)), 0)).bind fun z => match z with | .inl t => some t | .inr x3_13 => bif decide (∀ x ∈ x3_13, x.length ≤ 1048576) then (bif decide (x3_13.length ≤ 4611686018427387903) then (some (Vm x3_13)) else none) else none
theorem ve.in {a0 : List (List Rec)} {x : Nat} (hg : (gt a0 (x : Int)).length ≤ 1048576) : ∀ (m i K : Nat) (acc : List (List UInt8)), i + m = (gt a0 (x : Int)).length → m < K → acc.length + m ≤ 8000000 → qn (ve.b2 a0 (x : Int)) K (acc, (i : Int)) = some (.inr (acc ++ ((gt a0 (x : Int)).drop i).map (·.path))) := by
 intro m
 induction m with
 | zero =>
  intro i K acc hi hK _
  obtain ⟨K, rfl⟩ : ∃ j, K = j + 1 := ⟨K - 1, by omega⟩
  have d1 : decide ((i : Int) < ((gt a0 (x : Int)).length : Int)) = false := decide_eq_false (by omega)
  have hd : (gt a0 (x : Int)).drop i = [] := List.drop_eq_nil_of_le (by omega)
  rw [qn, hd]
  simp only [ve.b2, d1, cond_false, List.map_nil, List.append_nil]; rfl
 | succ m ih =>
  intro i K acc hi hK hb
  obtain ⟨K, rfl⟩ : ∃ j, K = j + 1 := ⟨K - 1, by omega⟩
  have hlt : i < (gt a0 (x : Int)).length := by omega
  have d1 : decide ((i : Int) < ((gt a0 (x : Int)).length : Int)) = true := decide_eq_true (by omega)
  have e1 : ∀ z : List UInt8, decide ((acc.length + ([z] : List (List UInt8)).length) * 16 ≤ 140737488355328) = true := fun z => decide_eq_true (by simp; omega)
  have w1 : IntKind.wrap .i64 ((i : Int) + 1) = ((i + 1 : Nat) : Int) := by rw [wrap_small (by omega) (by omega)]; omega
  have hI := ih (i + 1) K (acc ++ [(gt (gt a0 (x : Int)) (i : Int)).path]) (by omega) (by omega) (by simp; omega)
  rw [qn, JH hlt]
  simp only [ve.b2, d1, cond_true, qT hlt, e1, w1]
  refine hI.trans ?_
  simp
theorem ve.out {a0 : List (List Rec)} (h0 : a0.length ≤ 5) (h1 : ∀ l ∈ a0, l.length ≤ 1048576) : ∀ (m i K : Nat) (acc : List (List UInt8)), i + m = a0.length → m < K → acc.length ≤ i * 1048576 → qn (ve.b1 1048577 a0) K (acc, (i : Int)) = some (.inr (acc ++ ((a0.drop i).flatten).map (·.path))) := by
 intro m
 induction m with
 | zero =>
  intro i K acc hi hK _
  obtain ⟨K, rfl⟩ : ∃ j, K = j + 1 := ⟨K - 1, by omega⟩
  have d1 : decide ((i : Int) < (a0.length : Int)) = false := decide_eq_false (by omega)
  have hd : a0.drop i = [] := List.drop_eq_nil_of_le (by omega)
  rw [qn]
  simp only [ve.b1, d1, cond_false, hd, List.flatten_nil, List.map_nil, List.append_nil]; rfl
 | succ m ih =>
  intro i K acc hi hK hb
  obtain ⟨K, rfl⟩ : ∃ j, K = j + 1 := ⟨K - 1, by omega⟩
  have hlt : i < a0.length := by omega
  have hli : (gt a0 (i : Int)).length ≤ 1048576 := by rw [vJ, vY hlt]; exact h1 _ (List.getElem_mem hlt)
  have d1 : decide ((i : Int) < (a0.length : Int)) = true := decide_eq_true (by omega)
  have w1 : IntKind.wrap .i64 ((i : Int) + 1) = ((i + 1 : Nat) : Int) := by rw [wrap_small (by omega) (by omega)]; omega
  have hin := ve.in hli (gt a0 (i : Int)).length 0 1048577 acc (by omega) (by omega) (by omega)
  rw [List.drop_zero] at hin
  have hin' : qn (ve.b2 a0 (i : Int)) 1048577 (acc, 0) = some (.inr (acc ++ (gt a0 (i : Int)).map (·.path))) := hin
  have hI := ih (i + 1) K (acc ++ (gt a0 (i : Int)).map (·.path)) (by omega) (by omega) (by simp only [List.length_append, List.length_map]; omega)
  rw [qn]
  simp only [ve.b1, d1, cond_true, qT hlt, hin', Option.bind_some, w1]
  refine hI.trans ?_
  rw [JH hlt]
  simp
theorem ve.eq (a0 : List (List Rec)) (h0 : a0.length ≤ 5) (h1 : ∀ l ∈ a0, l.length ≤ 1048576) (h2 : ∀ l ∈ a0, ∀ x ∈ l, x.path.length ≤ 1048576) : ∃ k, ve.sh k a0 = some (qK a0) := by
 refine ⟨1048577, ?_⟩
 unfold ve.sh
 have ho := ve.out h0 h1 a0.length 0 1048577 [] (by omega) (by omega) (by simp)
 rw [List.drop_zero, List.nil_append] at ho
 have ho' : qn (ve.b1 1048577 a0) 1048577 ([], 0) = some (.inr (a0.flatten.map (·.path))) := ho
 have e1 : decide (∀ x ∈ a0.flatten.map (·.path), x.length ≤ 1048576) = true := decide_eq_true fun x hx => by
  obtain ⟨r, hr, rfl⟩ := List.mem_map.1 hx
  obtain ⟨l, hl, hrl⟩ := List.mem_flatten.1 hr
  exact h2 l hl r hrl
 have hlen : ∀ (ls : List (List Rec)), (∀ l ∈ ls, l.length ≤ 1048576) → ls.flatten.length ≤ ls.length * 1048576 := by
  intro ls
  induction ls with
  | nil => intro _; simp
  | cons l ls ih =>
   intro h
   have a1 := h l (List.mem_cons_self ..)
   have a2 := ih fun x hx => h x (List.mem_cons_of_mem _ hx)
   simp only [List.flatten_cons, List.length_append, List.length_cons]; omega
 have e2 : decide ((a0.flatten.map (·.path)).length ≤ 4611686018427387903) = true := decide_eq_true (by have := hlen a0 h1; rw [List.length_map]; omega)
 rw [ho']
 simp only [Option.bind_some, e1, e2, cond_true]
 rfl
section
variable {α : Type} (f : α → List UInt8)
def QA (l : List α) (p : List UInt8) : Option α := l.find? fun x => decide (f x = p)
theorem VF (x : α) (l : List α) (p : List UInt8) : QA f (x :: l) p = if f x = p then some x else QA f l p := by
 unfold QA
 by_cases h : f x = p <;> simp [h]
theorem JT {l : List α} {p : List UInt8} : QA f l p = none ↔ p ∉ l.map f := by
 induction l with
 | nil => simp [QA]
 | cons x l ih =>
  rw [VF]
  by_cases h : f x = p
  ·simp [h]
  ·rw [if_neg h, ih]
   simp [Ne.symm h]
theorem JY {l : List α} {p : List UInt8} {x : α} (h : QA f l p = some x) : x ∈ l ∧ f x = p := by
 have h1 := List.mem_of_find?_eq_some h
 have h2 := List.find?_some h
 exact ⟨h1, of_decide_eq_true h2⟩
theorem YD {l : List α} (h : jk (l.map f)) : ∀ x ∈ l, QA f l (f x) = some x := by
 induction l with
 | nil => intro x hx; cases hx
 | cons y l ih =>
  intro x hx
  rw [VF]
  rcases List.mem_cons.1 hx with rfl | hx
  ·rw [if_pos rfl]
  ·have hlt : ltP (f y) (f x) = true := JI h (f x) (List.mem_map_of_mem hx)
   rw [if_neg (Y2 hlt)]
   exact ih (JD h) x hx
theorem Xx {l : List α} {p : List UInt8} : p ∈ l.map f ↔ QA f l p ≠ none := by
 constructor
 ·intro h e; exact (JT f).1 e h
 ·intro h
  by_cases h2 : p ∈ l.map f
  ·exact h2
  ·exact absurd ((JT f).2 h2) h
theorem pick_spec {ps : List (List UInt8)} (hp : jk ps) (g : List UInt8 → Option α) (hg : ∀ p x, g p = some x → f x = p) :
  jk ((ps.filterMap g).map f) ∧ ∀ p, QA f (ps.filterMap g) p = if p ∈ ps then g p else none := by
 induction ps with
 | nil => exact ⟨List.Pairwise.nil, fun p => by simp [QA]⟩
 | cons q ps ih =>
  obtain ⟨i1, i2⟩ := ih (JD hp)
  have hq := JI hp
  have hnot : q ∉ ps := fun hm => Y2 (hq q hm) rfl
  cases hgq : g q with
  | none =>
   rw [List.filterMap_cons, hgq]
   refine ⟨i1, fun p => ?_⟩
   simp only
   rw [i2]
   by_cases e : p = q
   ·subst e; simp [hnot, hgq]
   ·simp [e]
  | some x =>
   rw [List.filterMap_cons, hgq]
   have hx := hg q x hgq
   refine ⟨?_, fun p => ?_⟩
   ·simp only [List.map_cons]
    refine List.pairwise_cons.2 ⟨fun z hz => ?_, i1⟩
    rw [hx]
    have : QA f (ps.filterMap g) z ≠ none := (Xx f).1 hz
    rw [i2] at this
    by_cases hm : z ∈ ps
    ·exact hq z hm
    ·rw [if_neg hm] at this; exact absurd rfl this
   ·simp only
    rw [VF, i2, hx]
    by_cases e : q = p
    ·subst e; simp [hgq]
    ·have e' : ¬ p = q := fun h => e h.symm
     simp [e, e']
theorem Gg [Inhabited α] (l : List α) (p : List UInt8) : (0 ≤ jf (fun x => decide (f x = p)) l ↔ QA f l p ≠ none) ∧ ∀ x, QA f l p = some x → gt l (jf (fun x => decide (f x = p)) l) = x := by
 induction l with
 | nil => simp [jf, QA]
 | cons y l ih =>
  rw [VF]
  by_cases h : f y = p
  ·simp only [jf, h, decide_true, if_true]
   exact ⟨by simp, fun x hx => by rw [← Option.some.inj hx]; rfl⟩
  ·simp only [jf, h, decide_false, Bool.false_eq_true, if_false]
   have hge := XZ (fun x => decide (f x = p)) l
   by_cases hm : jf (fun x => decide (f x = p)) l = -1
   ·rw [if_pos hm]
    rw [hm] at ih
    refine ⟨ih.1, fun x hx => ?_⟩
    have : QA f l p = none := by
     by_cases e : QA f l p = none
     ·exact e
     ·have := ih.1.2 e; omega
    rw [this] at hx; cases hx
   ·rw [if_neg hm]
    obtain ⟨n, hn⟩ : ∃ n : Nat, jf (fun x => decide (f x = p)) l = n := ⟨(jf (fun x => decide (f x = p)) l).toNat, by omega⟩
    rw [hn] at ih ⊢
    refine ⟨⟨fun _ => ih.1.1 (by omega), fun _ => by omega⟩, fun x hx => ?_⟩
    have := ih.2 x hx
    have e : ((n : Int) + 1) = ((n + 1 : Nat) : Int) := by omega
    rw [e, vJ, List.getD_cons_succ]
    exact this
end
section
variable {α : Type} (f : α → List UInt8) (hl hu : α → Option α) (hb : α → α → Option α)
end
def j2 (l : List Rec) : Bool := l.all (fun r => qy r.path) && decide (l.Pairwise fun a b => ltP a.path b.path = true)
theorem V4 {l : List Rec} (h : j2 l = true) : ∀ x ∈ l, qy x.path = true := by
 simp only [j2, Bool.and_eq_true] at h
 exact fun x hx => List.all_eq_true.1 h.1 x hx
theorem Jl {l : List Rec} (h : j2 l = true) : jk (l.map (·.path)) := by
 simp only [j2, Bool.and_eq_true] at h
 exact List.pairwise_map.2 (of_decide_eq_true h.2)
theorem Ja {l : List Rec} (h1 : ∀ x ∈ l, qy x.path = true) (h2 : jk (l.map (·.path))) : j2 l = true := by
 simp only [j2, Bool.and_eq_true]
 exact ⟨List.all_eq_true.2 h1, decide_eq_true (List.pairwise_map.1 h2)⟩
end Go.UL
