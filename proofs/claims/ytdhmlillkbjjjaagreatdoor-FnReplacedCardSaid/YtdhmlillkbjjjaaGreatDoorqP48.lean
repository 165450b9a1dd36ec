import Derived.Test.YtdhmlillkbjjjaaGreatDoorqP42
set_option linter.unusedVariables false
set_option linter.unusedSimpArgs false
namespace Go.UL
open Go.RowKit
theorem found {t : List Nd} {p : List UInt8} {m : Nd} (ht : Wood t) (hp : qE p = true) (hm : yb t p = some m) : findNd t p = (m, 0) := by
 rw [resolve_down hp, resolve_there ht hp hm]
 simp [(look_pos hm).2.1]
def yd.b1 (a0 : List Int) : List (List Rec) × Int × DSrc → Option (Step (List (List Rec) × DSrc) (List (List Rec) × Int × DSrc) (List (List Rec) × DSrc)) :=
 fun q => match q with
 | (x3_14, x4_16, y17) => bif (decide (0 < x4_16)) then (((yg.sh 12 a0 y17)).bind fun z41 => bif decide ((x3_14.length + 1) * 24 ≤ 140737488355328) then (some (.nxt (x3_14 ++ [z41.1], IntKind.wrap .i64 (x4_16 - 1), z41.2))) else none) else (some (.brk (x3_14, y17)))
def yd.sh (k : Nat) (a0 : List Int) (a1 : DSrc) : Option (List (List Rec) × DSrc) :=
  ((vw.sh a0 a1 4)).bind fun z7 => (qn (yd.b1 a0) k (([] : List (List Rec)), z7.1, z7.2)).bind fun z => match z with | .inl t => some t | .inr (x3_21, y23) => some (x3_21, y23)
theorem yd.eq (a0 : List Int) (a1 : DSrc) {r : List (List Rec) × DSrc} (H : yd.sh 8 a0 a1 = some r) : ∃ k, yd.sh k a0 a1 = some r := ⟨8, H⟩
def Stk (L : List (List Rec)) : Prop := ∀ l ∈ L, Lay l
theorem stack_loop {code : List Int} (hc : ∀ x ∈ code, okB x) (hl : code.length ≤ 1048577) : ∀ (i : Nat) (k : Nat) (n : Int) (L : List (List Rec)) (s : DSrc), n + 300 * i ≤ 200000000 → i < k → L.length + i ≤ 100 → i ≤ 4 → Stk L → SrcOK n s →
  ∃ L' s', qn (yd.b1 code) k (L, (i : Int), s) = some (.inr (L', s')) ∧ Stk L' ∧ L'.length ≤ L.length + i ∧ SrcOK (n + 300 * i) s' := by
 intro i
 induction i with
 | zero =>
  intro k n L s hn hk h100 hi hs hS
  obtain ⟨k, rfl⟩ : ∃ k', k = k' + 1 := ⟨k - 1, by omega⟩
  exact ⟨L, s, by simp [qn, yd.b1], hs, by omega, hS.mono (by omega)⟩
 | succ i ih =>
  intro k n L s hn hk h100 hi hs hS
  obtain ⟨k, rfl⟩ : ∃ k', k = k' + 1 := ⟨k - 1, by omega⟩
  have hd : decide ((0 : Int) < ((i + 1 : Nat) : Int)) = true := decide_eq_true (by omega)
  have hw : IntKind.wrap .i64 (((i + 1 : Nat) : Int) - 1) = (i : Int) := by rw [show ((i + 1 : Nat) : Int) - 1 = (i : Int) by omega]; exact wrap_small (by omega) (by omega)
  obtain ⟨l, s1, e1, hs1, hL⟩ := layer_ok hc hl (by omega) hS
  have d1 : decide ((L.length + 1) * 24 ≤ 140737488355328) = true := decide_eq_true (by omega)
  obtain ⟨L', s', e, q1, q2, q3⟩ := ih k (n + 300) (L ++ [l]) s1 (by omega) (by omega) (by simp; omega) (by omega) (fun x hx => by
   rcases List.mem_append.1 hx with h | h
   ·exact hs x h
   ·simp at h; subst h; exact hL) (hs1.mono (by omega))
  rw [qn]
  simp only [yd.b1, hd, cond_true, e1, Option.bind_some, d1, hw]
  exact ⟨L', s', e, q1, by simp at q2; omega, q3.mono (by omega)⟩
theorem stackD_ok {code : List Int} (hc : ∀ x ∈ code, okB x) (hl : code.length ≤ 1048577) {n : Int} (hn : n ≤ 100000000) {s : DSrc} (h : SrcOK n s) : Dr (yd.sh 8 code s) (n + 2000) (fun L => Stk L ∧ L.length ≤ 3) := by
 unfold yd.sh
 obtain ⟨i, s2, e, hs2, hi0, hi1⟩ := Yf hc hl (by omega) h (m := 4) (by omega)
 rw [e]; simp only [Option.bind_some]
 obtain ⟨j, rfl⟩ : ∃ j : Nat, i = j := ⟨i.toNat, by omega⟩
 obtain ⟨L', s', e, q1, q2, q3⟩ := stack_loop hc hl j 8 (n + 3) [] s2 (by omega) (by omega) (by simp; omega) (by omega) (fun l hl => by cases hl) hs2
 rw [e]; simp only [Option.bind_some]
 exact ⟨_, _, rfl, q3.mono (by omega), q1, by simp at q2; omega⟩
def vQ.sh (a0 : List Int) : Option (List (List Rec)) :=
 ((yo.sh a0)).bind fun z1 => ((yd.sh 8 a0 z1)).bind fun z8 => some z8.1
theorem vQ.eq (a0 : List Int) {r : List (List Rec)} (H : vQ.sh a0 = some r) : vQ.sh a0 = some r := H
theorem X5 {code : List Int} (hc : ∀ x ∈ code, okB x) (hl : code.length ≤ 1048577) : ∃ L, vQ.sh code = some L ∧ Stk L ∧ L.length ≤ 3 := by
 obtain ⟨s, e, hs⟩ := source_ok code
 obtain ⟨L, s', e2, _, h⟩ := stackD_ok hc hl (by omega) hs
 exact ⟨L, by simp [vQ.sh, e, e2], h⟩
theorem Stk.ok {L : List (List Rec)} (h : Stk L) (h5 : L.length ≤ 5) : vi L = true := stack_mk (fun l hl => ⟨(h l hl).sheet, (h l hl).len⟩) h5
theorem Gb {L : List (List Rec)} (h : vi L = true) (h5 : L.length ≤ 5) : stackCode L = 0 := by
 have n1 : ¬ 4096 < L.length := by omega
 simp [stackCode, n1, h]
theorem fitC_cases (l : List Rec) : (l.length ≤ 16 ∧ YW l = l ∧ VW l = 0) ∨ (16 < l.length ∧ YW l = [] ∧ VW l = 7) := by
 by_cases h : l.length ≤ 16
 ·exact .inl ⟨h, fitL_ok h⟩
 ·exact .inr ⟨by omega, fitL_no (by omega)⟩
theorem sub_take {α : Type} (l : List α) (k : Nat) : sub l 0 (k : Int) = l.take k := by simp [sub]
theorem sub_drop {α : Type} (l : List α) (k : Nat) : sub l (k : Int) (l.length : Int) = l.drop k := by simp [sub]
theorem stk_guards {L : List (List Rec)} (h : Stk L) (h5 : L.length ≤ 5) : decide (L.length ≤ 1048576) = true ∧ decide (∀ l ∈ L, l.length ≤ 1048576) = true ∧ decide (∀ l ∈ L, ∀ x ∈ l, x.path.length ≤ 1048576) = true :=
 ⟨decide_eq_true (by omega), decide_eq_true fun l hl => by have := (h l hl).len; omega, decide_eq_true fun l hl => GL (h l hl).sheet⟩
def VU (a : List (List Rec)) (i j : Int) : List (List Rec) × Int :=
 if (within i 0 (a.length : Int) && within j i (a.length : Int)) = true then
  if 5 < (a.length : Int) - (j - i) + 1 then ([], 6)
  else if VW (qD (sub a i j)) = 0 then (Yd a i.toNat j.toNat (qD (sub a i j)), 0) else ([], VW (qD (sub a i j)))
 else ([], 4)
def qQ (a : List (List Rec)) (i j : Int) : List (List Rec) × Int := if stackCode a = 0 then VU a i j else ([], stackCode a)
theorem putL_len {L : List (List Rec)} {i j : Nat} {x : List Rec} (h : i ≤ L.length) : (Yd L i j x).length = i + 1 + (L.length - j) := by simp [Yd]; omega
theorem XZ {i j : Int} {n : Nat} (h : (within i 0 (n : Int) && within j i (n : Int)) = true) : ∃ i' j' : Nat, i = i' ∧ j = j' ∧ i' ≤ j' ∧ j' ≤ n := by
 simp only [within, Bool.and_eq_true, decide_eq_true_eq] at h
 exact ⟨i.toNat, j.toNat, by omega, by omega, by omega, by omega⟩
theorem subS_nat {α : Type} (l : List α) (i j : Nat) : sub l (i : Int) (j : Int) = (l.take j).drop i := by simp [sub]
theorem sub_stack {a : List (List Rec)} (h : vi a = true) (i j : Nat) : vi (sub a (i : Int) (j : Int)) = true := by
 rw [subS_nat]
 refine stack_part h (fun l hl => List.mem_of_mem_take (List.mem_of_mem_drop hl)) ?_
 have := (jU h).1
 rw [List.length_drop, List.length_take]; omega
theorem fitC_le {l : List Rec} (h : VW l = 0) : l.length ≤ 16 ∧ YW l = l := by
 unfold VW at h
 by_cases c : 16 < l.length
 ·rw [if_pos c] at h; cases h
 ·exact ⟨by omega, by unfold YW; rw [if_neg c]⟩
def vx.b1 (a0 : List (List Rec)) : List (List Rec) × Int → Option (Step (List (List Rec)) (List (List Rec) × Int) (List (List Rec))) :=
 fun q => match q with
 | (x3_7, x9_9) => bif (decide (x9_9 < (a0.length : Int))) then (bif inR x9_9 a0.length then (bif decide ((gt a0 x9_9).length ≤ 1048576) then (bif decide ((x3_7.length + 1) * 24 ≤ 140737488355328) then (some (.nxt (x3_7 ++ [(gt a0 x9_9)], IntKind.wrap .i64 (x9_9 + 1)))) else none) else none) else none) else (some (.brk x3_7))
def vx.sh (k : Nat) (a0 : List (List Rec)) : Option (List (List Rec)) :=
  (qn (vx.b1 a0) k (([] : List (List Rec)), 0)).bind fun z => match z with | .inl t => some t | .inr x3_13 => some x3_13
theorem vx.eq (a0 : List (List Rec)) (h0 : a0.length ≤ 100) (h1 : ∀ l ∈ a0, l.length ≤ 1048576) : ∃ k, vx.sh k a0 = some a0 := by
 refine ⟨a0.length + 1, ?_⟩
 unfold vx.sh
 rw [VH a0 some (vx.b1 a0) (fun i hi acc ha => by
  have e1 : decide ((acc.length + 1) * 24 ≤ 140737488355328) = true := decide_eq_true (by omega)
  have e2 : decide (a0[i].length ≤ 1048576) = true := decide_eq_true (h1 _ (List.getElem_mem hi))
  simp only [vx.b1, y9, hi, decide_true, cond_true, qP hi, vK, vr hi, e1, e2, vF hi (by omega), Option.toList_some]) (fun acc => by simp [vx.b1])]
 simp
def vl.sh (a0 : List (List Rec)) (a1 : Int) (a2 : Int) : Option (List (List Rec) × Int) :=
 bif decide (([.inl ((!(within a1 0 (a0.length : Int))) || (!(within a2 a1 (a0.length : Int)))), .inr 4, .inl (decide (5 < (IntKind.wrap .i64 ((IntKind.wrap .i64 ((a0.length : Int) - (IntKind.wrap .i64 (a2 - a1)))) + 1)))), .inr 6] : List (Bool ⊕ Int)).length ≤ 4611686018427387904) then ((some (vO ([.inl ((!(within a1 0 (a0.length : Int))) || (!(within a2 a1 (a0.length : Int)))), .inr 4, .inl (decide (5 < (IntKind.wrap .i64 ((IntKind.wrap .i64 ((a0.length : Int) - (IntKind.wrap .i64 (a2 - a1)))) + 1)))), .inr 6] : List (Bool ⊕ Int)))).bind fun z18 => bif (!decide (z18 = 0)) then (some ([], z18)) else (bif inS a1 a2 (a0.length : Int) then (bif decide (vi (sub a0 a1 a2) = true) then (bif (!decide ((VW (qD (sub a0 a1 a2))) = 0)) then (some ([], (VW (qD (sub a0 a1 a2))))) else (bif inS 0 a1 (a0.length : Int) then (bif inS a2 (a0.length : Int) (a0.length : Int) then (bif decide (([sub a0 0 a1, ([(YW (qD (sub a0 a1 a2)))] : List (List Rec)), sub a0 a2 (a0.length : Int)] : List (List (List Rec))).length ≤ 1000) then (bif decide (([sub a0 0 a1, ([(YW (qD (sub a0 a1 a2)))] : List (List Rec)), sub a0 a2 (a0.length : Int)] : List (List (List Rec))).flatten.length ≤ 1000) then (bif decide ((([sub a0 0 a1, ([(YW (qD (sub a0 a1 a2)))] : List (List Rec)), sub a0 a2 (a0.length : Int)] : List (List (List Rec))).flatten).length ≤ 100) then (bif decide (∀ l ∈ (([sub a0 0 a1, ([(YW (qD (sub a0 a1 a2)))] : List (List Rec)), sub a0 a2 (a0.length : Int)] : List (List (List Rec))).flatten), l.length ≤ 1048576) then (some ((([sub a0 0 a1, ([(YW (qD (sub a0 a1 a2)))] : List (List Rec)), sub a0 a2 (a0.length : Int)] : List (List (List Rec))).flatten), 0)) else none) else none) else none) else none) else none) else none)) else none) else none)) else none
theorem vl.eq (a0 : List (List Rec)) (a1 a2 : Int) (h0 : vi a0 = true) : vl.sh a0 a1 a2 = some ((VU a0 a1 a2).1, (VU a0 a1 a2).2) := by
 have h5 := (jU h0).1
 have h16 := stack_lens h0
 unfold vl.sh VU
 rcases ql (within a1 0 (a0.length : Int) && within a2 a1 (a0.length : Int)) with hw | hw
 ·rw [if_pos hw]
  have hw2 : ((!within a1 0 (a0.length : Int)) || !within a2 a1 (a0.length : Int)) = false := by rw [← Bool.not_and, hw]; rfl
  obtain ⟨i, j, rfl, rfl, hij, hj⟩ := XZ hw
  have w1 : IntKind.wrap .i64 ((j : Int) - (i : Int)) = (j : Int) - (i : Int) := wrap_small (by omega) (by omega)
  have w2 : IntKind.wrap .i64 ((a0.length : Int) - ((j : Int) - (i : Int))) = (a0.length : Int) - ((j : Int) - (i : Int)) := wrap_small (by omega) (by omega)
  have w3 : IntKind.wrap .i64 ((a0.length : Int) - ((j : Int) - (i : Int)) + 1) = (a0.length : Int) - ((j : Int) - (i : Int)) + 1 := wrap_small (by omega) (by omega)
  rw [hw2, w1, w2, w3]
  by_cases hc : 5 < (a0.length : Int) - ((j : Int) - (i : Int)) + 1
  ·rw [if_pos hc, decide_eq_true hc]; simp [vO, J1, Gz]
  ·rw [if_neg hc, decide_eq_false hc]
   have i1 : inS (i : Int) (j : Int) (a0.length : Int) = true := QP (by omega) (by omega) (by omega)
   have i2 : inS 0 (i : Int) (a0.length : Int) = true := QP (by omega) (by omega) (by omega)
   have i3 : inS (j : Int) (a0.length : Int) (a0.length : Int) = true := QP (by omega) (by omega) (by omega)
   have hs := sub_stack h0 i j
   by_cases hf : VW (qD (sub a0 (i : Int) (j : Int))) = 0
   ·rw [if_pos hf]
    obtain ⟨f1, f2⟩ := fitC_le hf
    have hX : ([a0.take i, [qD (sub a0 (i : Int) (j : Int))], a0.drop j] : List (List (List Rec))).flatten = Yd a0 i j (qD (sub a0 (i : Int) (j : Int))) := by simp [Yd]
    have hpl := putL_len (L := a0) (i := i) (j := j) (x := qD (sub a0 (i : Int) (j : Int))) (by omega)
    have d1 : decide ((Yd a0 i j (qD (sub a0 (i : Int) (j : Int)))).length ≤ 1000) = true := decide_eq_true (by omega)
    have d2 : decide ((Yd a0 i j (qD (sub a0 (i : Int) (j : Int)))).length ≤ 100) = true := decide_eq_true (by omega)
    have d3 : decide (∀ l ∈ Yd a0 i j (qD (sub a0 (i : Int) (j : Int))), l.length ≤ 1048576) = true := decide_eq_true fun l hl => by
     rcases Xh hl with hl | rfl
     ·have := h16 l hl; omega
     ·omega
    have d0 : decide (([a0.take i, [qD (sub a0 (i : Int) (j : Int))], a0.drop j] : List (List (List Rec))).length ≤ 1000) = true := decide_eq_true (by simp)
    simp only [List.length_cons, List.length_nil, vO, J1, Gz, cond_true, cond_false, decide_true, Option.bind_some, Bool.not_true, i1, decide_eq_true hs, hf, i2, i3, sub_take, sub_drop, f2, d0, hX, d1, d2, d3, Int.toNat_natCast, Bool.false_eq_true, if_false, Nat.reduceAdd, Nat.reduceLeDiff]
   ·rw [if_neg hf]
    simp [vO, J1, Gz, i1, hs, hf]
 ·rw [if_neg (by rw [hw]; simp)]
  have hw2 : ((!within a1 0 (a0.length : Int)) || !within a2 a1 (a0.length : Int)) = true := by rw [← Bool.not_and, hw]; rfl
  rw [hw2]
  simp [vO, J1, Gz]
def jd.sh (a0 : List (List Rec)) (a1 : Int) (a2 : Int) : Option (List (List Rec) × Int) :=
 bif decide (a0.length ≤ 1048576) then (bif decide (∀ l ∈ a0, l.length ≤ 1048576) then (bif decide (∀ l ∈ a0, ∀ x ∈ l, x.path.length ≤ 1048576) then (bif (!decide ((stackCode a0) = 0)) then (some ([], (stackCode a0))) else (bif decide (vi a0 = true) then (some ((VU a0 a1 a2).1, (VU a0 a1 a2).2)) else none)) else none) else none) else none
theorem jd.eq (a0 : List (List Rec)) (a1 a2 : Int) (h0 : a0.length ≤ 1048576) (h1 : ∀ l ∈ a0, l.length ≤ 1048576) (h2 : ∀ l ∈ a0, ∀ x ∈ l, x.path.length ≤ 1048576) : jd.sh a0 a1 a2 = some ((qQ a0 a1 a2).1, (qQ a0 a1 a2).2) := by
 unfold jd.sh qQ
 by_cases h : stackCode a0 = 0
 ·simp [h0, decide_eq_true h1, decide_eq_true h2, h, V1 h]
 ·simp [h0, decide_eq_true h1, decide_eq_true h2, h]
def je.sh (a0 : List (List Rec)) (a1 : Int) (a2 : Int) : Option (List (List Rec) × Int) :=
 bif (decide (4096 < (a0.length : Int))) then (some (([] : List (List Rec)), 2)) else (bif decide (a0.length ≤ 1048576) then (bif decide (∀ l ∈ a0, l.length ≤ 1048576) then (bif decide (∀ l ∈ a0, ∀ x ∈ l, x.path.length ≤ 1048576) then (bif (!(vi a0)) then (some (([] : List (List Rec)), 1)) else (bif ((!(within a1 0 (a0.length : Int))) || (!(within a2 a1 (a0.length : Int)))) then (some (([] : List (List Rec)), 4)) else (bif ((decide (a1 = a2)) && (decide ((a0.length : Int) = 5))) then (some (([] : List (List Rec)), 6)) else (bif inS a1 a2 (a0.length : Int) then (bif decide (vi (sub a0 a1 a2) = true) then (bif (decide (16 < ((qD (sub a0 a1 a2)).length : Int))) then (some (([] : List (List Rec)), 7)) else (bif decide (a0.length ≤ 100) then (bif decide (∀ l ∈ a0, l.length ≤ 1048576) then (bif decide ((0 : Int) ≤ a1) then (bif decide (a1 ≤ (a0.length : Int)) then (bif decide ((0 : Int) ≤ a2) then (bif decide (a2 ≤ (a0.length : Int)) then (some (Yd a0 (a1).toNat (a2).toNat (qD (sub a0 a1 a2)), 0)) else none) else none) else none) else none) else none) else none)) else none) else none)))) else none) else none) else none)
theorem je.eq (a0 : List (List Rec)) (a1 a2 : Int) (h0 : a0.length ≤ 1048576) (h1 : ∀ l ∈ a0, l.length ≤ 1048576) (h2 : ∀ l ∈ a0, ∀ x ∈ l, x.path.length ≤ 1048576) : je.sh a0 a1 a2 = some ((qQ a0 a1 a2).1, (qQ a0 a1 a2).2) := by
 unfold je.sh qQ stackCode
 rw [Gx]
 by_cases h : 4096 < a0.length
 ·simp [h]
 ·rcases ql (vi a0) with c1 | c1
  ·have h5 := (jU c1).1
   simp only [h, decide_false, cond_false, h0, decide_true, cond_true, decide_eq_true h1, decide_eq_true h2, c1, Bool.not_true, if_false, Bool.false_eq_true, if_true]
   unfold VU
   rcases ql (within a1 0 (a0.length : Int) && within a2 a1 (a0.length : Int)) with hw | hw
   ·rw [if_pos hw]
    have hw2 : ((!within a1 0 (a0.length : Int)) || !within a2 a1 (a0.length : Int)) = false := by rw [← Bool.not_and, hw]; rfl
    obtain ⟨i, j, rfl, rfl, hij, hj⟩ := XZ hw
    rw [hw2]
    by_cases hc : 5 < (a0.length : Int) - ((j : Int) - (i : Int)) + 1
    ·have e1 : (i : Int) = (j : Int) := by omega
     have e2 : (a0.length : Int) = 5 := by omega
     rw [if_pos hc, decide_eq_true e1, decide_eq_true e2]; rfl
    ·have e1 : (decide ((i : Int) = (j : Int)) && decide ((a0.length : Int) = 5)) = false := by
      by_cases q1 : (i : Int) = (j : Int)
      ·have : ¬ (a0.length : Int) = 5 := by omega
       rw [decide_eq_false this, Bool.and_false]
      ·rw [decide_eq_false q1, Bool.false_and]
     have i1 : inS (i : Int) (j : Int) (a0.length : Int) = true := QP (by omega) (by omega) (by omega)
     rw [if_neg hc, e1, i1, sub_stack c1 i j, fit_dec]
     have d1 : decide (a0.length ≤ 100) = true := decide_eq_true (by omega)
     have d2 : decide ((0 : Int) ≤ (i : Int)) = true := decide_eq_true (by omega)
     have d3 : decide ((i : Int) ≤ (a0.length : Int)) = true := decide_eq_true (by omega)
     have d4 : decide ((0 : Int) ≤ (j : Int)) = true := decide_eq_true (by omega)
     have d5 : decide ((j : Int) ≤ (a0.length : Int)) = true := decide_eq_true (by omega)
     by_cases hf : 16 < (qD (sub a0 (i : Int) (j : Int))).length
     ·have hf2 : VW (qD (sub a0 (i : Int) (j : Int))) = 7 := (fitL_no hf).2
      simp [hf, hf2]
     ·have hf2 : VW (qD (sub a0 (i : Int) (j : Int))) = 0 := (fitL_ok (by omega)).2
      simp only [hf, decide_false, cond_false, decide_true, cond_true, hf2, d1, decide_eq_true h1, d2, d3, d4, d5, if_true]
   ·rw [if_neg (by rw [hw]; simp)]
    have hw2 : ((!within a1 0 (a0.length : Int)) || !within a2 a1 (a0.length : Int)) = true := by rw [← Bool.not_and, hw]; rfl
    rw [hw2]; rfl
  ·simp [h, h0, decide_eq_true h1, decide_eq_true h2, c1]
def law_FnReplaced.sh (a0 : List Int) (a1 : List Int) : Option (Bool) :=
 ((bif (decide (1048576 < (a0.length : Int))) then some true else (some (decide (1048576 < (a1.length : Int)))))).bind fun z2 => bif z2 then (some true) else (((vQ.sh a0)).bind fun z11 => ((jv.sh a1 0 (IntKind.wrap .i64 ((z11.length : Int) + 1)))).bind fun z17 => ((jv.sh a1 1 (IntKind.wrap .i64 ((IntKind.wrap .i64 ((z11.length : Int) - z17)) + 1)))).bind fun z21 => bif decide (z11.length ≤ 1048576) then (bif decide (∀ l ∈ z11, l.length ≤ 1048576) then (bif decide (∀ l ∈ z11, ∀ x ∈ l, x.path.length ≤ 1048576) then ((some ((qQ z11 z17 (IntKind.wrap .i64 (z17 + z21))).2)).bind fun z30 => bif decide (z11.length ≤ 1048576) then (bif decide (∀ l ∈ z11, l.length ≤ 1048576) then (bif decide (∀ l ∈ z11, ∀ x ∈ l, x.path.length ≤ 1048576) then ((some ((qQ z11 z17 (IntKind.wrap .i64 (z17 + z21))).2)).bind fun z39 => ((bif (!decide (z30 = z39)) then some true else (bif decide (((qQ z11 z17 (IntKind.wrap .i64 (z17 + z21))).1).length ≤ 4611686018427387904) then (bif decide (∀ l ∈ ((qQ z11 z17 (IntKind.wrap .i64 (z17 + z21))).1), l.length ≤ 4611686018427387904) then (some (!(decide (((qQ z11 z17 (IntKind.wrap .i64 (z17 + z21))).1) = ((qQ z11 z17 (IntKind.wrap .i64 (z17 + z21))).1))))) else none) else none))).bind fun z44 => bif z44 then (some false) else (bif (!decide (z39 = 0)) then (some (decide (z39 = 7))) else (bif decide (((qQ z11 z17 (IntKind.wrap .i64 (z17 + z21))).1).length ≤ 1048576) then (bif decide (∀ l ∈ ((qQ z11 z17 (IntKind.wrap .i64 (z17 + z21))).1), l.length ≤ 1048576) then (bif decide (∀ l ∈ ((qQ z11 z17 (IntKind.wrap .i64 (z17 + z21))).1), ∀ x ∈ l, x.path.length ≤ 1048576) then ((some ((yy ((qQ z11 z17 (IntKind.wrap .i64 (z17 + z21))).1)).1)).bind fun z59 => (some ((yy ((qQ z11 z17 (IntKind.wrap .i64 (z17 + z21))).1)).2)).bind fun z61 => bif decide (z11.length ≤ 1048576) then (bif decide (∀ l ∈ z11, l.length ≤ 1048576) then (bif decide (∀ l ∈ z11, ∀ x ∈ l, x.path.length ≤ 1048576) then (bif decide (z11.length ≤ 1048576) then (bif decide (∀ l ∈ z11, l.length ≤ 1048576) then (bif decide (∀ l ∈ z11, ∀ x ∈ l, x.path.length ≤ 1048576) then (bif decide (((qQ z11 z17 (IntKind.wrap .i64 (z17 + z21))).1).length ≤ 1048576) then (bif decide (∀ l ∈ ((qQ z11 z17 (IntKind.wrap .i64 (z17 + z21))).1), l.length ≤ 1048576) then (bif decide (∀ l ∈ ((qQ z11 z17 (IntKind.wrap .i64 (z17 + z21))).1), ∀ x ∈ l, x.path.length ≤ 1048576) then ((some (vi ((qQ z11 z17 (IntKind.wrap .i64 (z17 + z21))).1))).bind fun z84 => ((bif z84 then (some (decide ((((qQ z11 z17 (IntKind.wrap .i64 (z17 + z21))).1).length : Int) = (IntKind.wrap .i64 ((IntKind.wrap .i64 ((z11.length : Int) - (IntKind.wrap .i64 ((IntKind.wrap .i64 (z17 + z21)) - z17)))) + 1))))) else some false)).bind fun z87 => ((bif (z87 && (decide (z61 = 0))) then (some (decide (((yy z11).2) = 0))) else some false)).bind fun z102 => ((bif z102 then (bif decide (z59.length ≤ 4611686018427387904) then (some (decide (z59 = ((yy z11).1)))) else none) else some false)).bind fun z111 => ((bif z111 then (bif decide (((yy z11).1).length ≤ 4611686018427387904) then (some (decide (((yy z11).1) = ((yy z11).1)))) else none) else some false)).bind fun z120 => some z120) else none) else none) else none) else none) else none) else none) else none) else none) else none) else none) else none) else none))) else none) else none) else none) else none) else none) else none)
theorem Gw {L : List (List Rec)} (h : vi L = true) (h5 : L.length ≤ 5) : yy L = (yx L [], 0) := by simp [yy, Gb h h5]
theorem law_FnReplaced.eq (a0 a1 : List Int) (h2 : ∀ x ∈ a0, okB x) (h3 : a0.length ≤ 9223372036854775807) (h4 : ∀ x ∈ a1, okB x) (h5 : a1.length ≤ 9223372036854775807) : law_FnReplaced.sh a0 a1 = some true := by
 unfold law_FnReplaced.sh
 rcases guard_of a0 a1 with hg | ⟨hg, l0, l1⟩
 ·rw [hg]; rfl
 ·rw [hg]
  obtain ⟨L, e1, hL, hn⟩ := X5 h2 (by omega)
  have hs := hL.ok (by omega)
  obtain ⟨i, e2, hi0, hi1⟩ := at_ok h4 l1 (i := 0) (n := (L.length : Int) + 1) (by omega) (by omega) (by omega)
  obtain ⟨d, e3, hd0, hd1⟩ := at_ok h4 l1 (i := 1) (n := (L.length : Int) - i + 1) (by omega) (by omega) (by omega)
  obtain ⟨i, rfl⟩ : ∃ k : Nat, i = k := ⟨i.toNat, by omega⟩
  obtain ⟨d, rfl⟩ : ∃ k : Nat, d = k := ⟨d.toNat, by omega⟩
  have w1 : IntKind.wrap .i64 ((L.length : Int) + 1) = (L.length : Int) + 1 := wrap_small (by omega) (by omega)
  have w2 : IntKind.wrap .i64 ((L.length : Int) - (i : Int)) = (L.length : Int) - (i : Int) := wrap_small (by omega) (by omega)
  have w3 : IntKind.wrap .i64 ((L.length : Int) - (i : Int) + 1) = (L.length : Int) - (i : Int) + 1 := wrap_small (by omega) (by omega)
  have w4 : IntKind.wrap .i64 ((i : Int) + (d : Int)) = ((i + d : Nat) : Int) := by rw [wrap_small (by omega) (by omega)]; omega
  have w5 : IntKind.wrap .i64 (((i + d : Nat) : Int) - (i : Int)) = (d : Int) := by rw [wrap_small (by omega) (by omega)]; omega
  have w6 : IntKind.wrap .i64 ((L.length : Int) - (d : Int)) = (L.length : Int) - (d : Int) := wrap_small (by omega) (by omega)
  have w7 : IntKind.wrap .i64 ((L.length : Int) - (d : Int) + 1) = (L.length : Int) - (d : Int) + 1 := wrap_small (by omega) (by omega)
  obtain ⟨g1, g2, g3⟩ := stk_guards hL (by omega)
  have hr : qQ L (i : Int) ((i + d : Nat) : Int) = VU L (i : Int) ((i + d : Nat) : Int) := by simp [qQ, Gb hs (by omega : L.length ≤ 5)]
  have hw : (within (i : Int) 0 (L.length : Int) && within ((i + d : Nat) : Int) (i : Int) (L.length : Int)) = true := by
   simp only [within, Bool.and_eq_true, decide_eq_true_eq]; omega
  have hm : ¬ 5 < (L.length : Int) - (((i + d : Nat) : Int) - (i : Int)) + 1 := by omega
  simp only [e1, Option.bind_some, cond_false, w1, e2, w2, w3, e3, w4, w5, w6, w7, g1, g2, g3, cond_true, hr]
  have hS : sub L (i : Int) ((i + d : Nat) : Int) = (L.take (i + d)).drop i := subS_nat L i (i + d)
  by_cases hf : VW (qD (sub L (i : Int) ((i + d : Nat) : Int))) = 0
  ·have hv : VU L (i : Int) ((i + d : Nat) : Int) = (Yd L i (i + d) (qD ((L.take (i + d)).drop i)), 0) := by
    unfold VU
    rw [if_pos hw, if_neg hm, if_pos hf, hS]; rfl
   rw [hS] at hf
   have hx16 := (fitC_le hf).1
   have hL2 : ∀ l ∈ L, Sheet l ∧ l.length ≤ 16 := fun l hl => ⟨(hL l hl).sheet, (hL l hl).len⟩
   have hsq : Sheet (qD ((L.take (i + d)).drop i)) := YV fun l hl => (hL2 l (List.mem_of_mem_take (List.mem_of_mem_drop hl))).1
   obtain ⟨X, hX⟩ : ∃ X, Yd L i (i + d) (qD ((L.take (i + d)).drop i)) = X := ⟨_, rfl⟩
   have hXa : ∀ l ∈ X, Sheet l ∧ l.length ≤ 16 := fun l hl => by
    rw [← hX] at hl
    rcases Xh hl with hl | rfl
    ·exact hL2 l hl
    ·exact ⟨hsq, hx16⟩
   have hXl : X.length = L.length - d + 1 := by rw [← hX, putL_len (by omega)]; omega
   have hXs : vi X = true := stack_mk hXa (by omega)
   have hvX : yy X = yy L := by
    rw [Gw hXs (by omega), Gw hs (by omega), ← hX, XG hs (by omega) ⟨by simp [yi], by simp, by simp⟩]
   have hvl := viewOf_len L
   have q1 : decide (X.length ≤ 4611686018427387904) = true := decide_eq_true (by omega)
   have q2 : decide (∀ l ∈ X, l.length ≤ 4611686018427387904) = true := decide_eq_true fun l hl => by have := (hXa l hl).2; omega
   have q3 : decide (X.length ≤ 1048576) = true := decide_eq_true (by omega)
   have q4 : decide (∀ l ∈ X, l.length ≤ 1048576) = true := decide_eq_true fun l hl => by have := (hXa l hl).2; omega
   have q5 : decide (∀ l ∈ X, ∀ x ∈ l, x.path.length ≤ 1048576) = true := decide_eq_true fun l hl => GL (hXa l hl).1
   have q6 : decide ((yy L).1.length ≤ 4611686018427387904) = true := decide_eq_true (by omega)
   have q7 : decide ((X.length : Int) = (L.length : Int) - (d : Int) + 1) = true := decide_eq_true (by omega)
   have q8 : (yy L).2 = 0 := by rw [Gw hs (by omega)]
   rw [hv, hX]
   simp only [decide_true, Bool.not_true, cond_false, q1, q2, cond_true, Option.bind_some, q3, q4, q5, hvX, hXs, q7, q8, Bool.and_self, q6]
  ·have hv : VU L (i : Int) ((i + d : Nat) : Int) = ([], 7) := by
    unfold VU
    rw [if_pos hw, if_neg hm, if_neg hf]
    rcases fitC_cases (qD (sub L (i : Int) ((i + d : Nat) : Int))) with ⟨_, _, h⟩ | ⟨_, _, h⟩
    ·exact absurd h hf
    ·rw [h]
   rw [hv]
   simp
end Go.UL
