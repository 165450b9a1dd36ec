import Derived.Test.YtdhmlillkbjjjaaGreatDoorpP41
set_option linter.unusedVariables false
set_option linter.unusedSimpArgs false
namespace Go.UL
open Go.RowKit
theorem stack_mk {L : List (List Rec)} (h : ∀ l ∈ L, Sheet l ∧ l.length ≤ 16) (h5 : L.length ≤ 5) : vr L = true := by
 simp only [vr, Bool.and_eq_true, decide_eq_true_eq, List.all_eq_true]
 exact ⟨h5, fun l hl => Xg (h l hl).1 (h l hl).2⟩
theorem fitL_ok {l : List Rec} (h : l.length ≤ 16) : VY l = l ∧ Vb l = 0 := by
 have : ¬ 16 < l.length := by omega
 simp [VY, Vb, this]
theorem fitL_no {l : List Rec} (h : 16 < l.length) : VY l = [] ∧ Vb l = 7 := by simp [VY, Vb, h]
theorem found {t : List Nd} {p : List UInt8} {m : Nd} (ht : Wood t) (hp : qK p = true) (hm : V7 t p = some m) : Xy t p = (m, 0) := by
 rw [Gx hp, JU ht hp hm]
 simp [(look_pos hm).2.1]
def Stk (L : List (List Rec)) : Prop := ∀ l ∈ L, Lay l
theorem Stk.ok {L : List (List Rec)} (h : Stk L) (h5 : L.length ≤ 5) : vr L = true := stack_mk (fun l hl => ⟨(h l hl).sheet, (h l hl).len⟩) h5
theorem sub_take {α : Type} (l : List α) (k : Nat) : sub l 0 (k : Int) = l.take k := by simp [sub]
theorem sub_drop {α : Type} (l : List α) (k : Nat) : sub l (k : Int) (l.length : Int) = l.drop k := by simp [sub]
def Q7 (a : List (List Rec)) (i j : Int) : List (List Rec) × Int :=
 if (within i 0 (a.length : Int) && within j i (a.length : Int)) = true then
  if 5 < (a.length : Int) - (j - i) + 1 then ([], 6)
  else if Vb (qB (sub a i j)) = 0 then (Yi a i.toNat j.toNat (qB (sub a i j)), 0) else ([], Vb (qB (sub a i j)))
 else ([], 4)
def qf (a : List (List Rec)) (i j : Int) : List (List Rec) × Int := if stackCode a = 0 then Q7 a i j else ([], stackCode a)
theorem Xi {L : List (List Rec)} {i j : Nat} {x : List Rec} (h : i ≤ L.length) : (Yi L i j x).length = i + 1 + (L.length - j) := by simp [Yi]; omega
theorem Yd {i j : Int} {n : Nat} (h : (within i 0 (n : Int) && within j i (n : Int)) = true) : ∃ i' j' : Nat, i = i' ∧ j = j' ∧ i' ≤ j' ∧ j' ≤ n := by
 simp only [within, Bool.and_eq_true, decide_eq_true_eq] at h
 exact ⟨i.toNat, j.toNat, by omega, by omega, by omega, by omega⟩
theorem subS_nat {α : Type} (l : List α) (i j : Nat) : sub l (i : Int) (j : Int) = (l.take j).drop i := by simp [sub]
theorem Gk {a : List (List Rec)} (h : vr a = true) (i j : Nat) : vr (sub a (i : Int) (j : Int)) = true := by
 rw [subS_nat]
 refine XI h (fun l hl => List.mem_of_mem_take (List.mem_of_mem_drop hl)) ?_
 have := (jH h).1
 rw [List.length_drop, List.length_take]; omega
theorem XV {l : List Rec} (h : Vb l = 0) : l.length ≤ 16 ∧ VY l = l := by
 unfold Vb at h
 by_cases c : 16 < l.length
 ·rw [if_pos c] at h; cases h
 ·exact ⟨by omega, by unfold VY; rw [if_neg c]⟩
theorem XR {a : List (List Rec)} (h : vr a = true) (i j : Int) : (Q7 a i j).1.length ≤ 5 ∧ ∀ l ∈ (Q7 a i j).1, l.length ≤ 16 := by
 unfold Q7
 split
 ·rename_i hw
  obtain ⟨i, j, rfl, rfl, hij, hj⟩ := Yd hw
  split
  ·simp
  ·rename_i h5
   split
   ·rename_i hf
    have h6 := (jH h).1
    have h16 := JM h
    simp only [Int.toNat_natCast]
    refine ⟨by rw [Xi (by omega)]; omega, fun l hl => ?_⟩
    rcases Xe hl with hl | rfl
    ·exact h16 l hl
    ·exact (XV hf).1
   ·simp
 ·simp
theorem Ja (a : List (List Rec)) (i j : Int) : (qf a i j).1.length ≤ 5 ∧ ∀ l ∈ (qf a i j).1, l.length ≤ 16 := by
 unfold qf
 split
 ·rename_i h; exact XR (VH h) i j
 ·simp
def vh.b1 (a0 : List (List Rec)) : List (List Rec) × Int → Option (Step (List (List Rec)) (List (List Rec) × Int) (List (List Rec))) :=
 fun q => match q with
 | (x3_7, x9_9) => bif (decide (x9_9 < (a0.length : Int))) then (bif inR x9_9 a0.length then (bif decide ((gt a0 x9_9).length ≤ 1048576) then (bif decide ((x3_7.length + 1) * 24 ≤ 140737488355328) then (some (.nxt (x3_7 ++ [(gt a0 x9_9)], IntKind.wrap .i64 (x9_9 + 1)))) else none) else none) else none) else (some (.brk x3_7))
def vh.sh (k : Nat) (a0 : List (List Rec)) : Option (List (List Rec)) :=
  (qp (vh.b1 a0) k (([] : List (List Rec)), 0)).bind fun z => match z with | .inl t => some t | .inr x3_13 => some x3_13
theorem vh.eq (a0 : List (List Rec)) (h0 : a0.length ≤ 100) (h1 : ∀ l ∈ a0, l.length ≤ 1048576) : ∃ k, vh.sh k a0 = some a0 := by
 refine ⟨a0.length + 1, ?_⟩
 unfold vh.sh
 rw [Q4 a0 some (vh.b1 a0) (fun i hi acc ha => by
  have e1 : decide ((acc.length + 1) * 24 ≤ 140737488355328) = true := decide_eq_true (by omega)
  have e2 : decide (a0[i].length ≤ 1048576) = true := decide_eq_true (h1 _ (List.getElem_mem hi))
  simp only [vh.b1, yn, hi, decide_true, cond_true, qR hi, vI, ya hi, e1, e2, vd hi (by omega), Option.toList_some]) (fun acc => by simp [vh.b1])]
 simp
def q4.sh (a0 : List (List Rec)) (a1 : Int) (a2 : Int) : Option (List (List Rec) × Int) :=
 bif decide (([.inl ((!(within a1 0 (a0.length : Int))) || (!(within a2 a1 (a0.length : Int)))), .inr 4, .inl (decide (5 < (IntKind.wrap .i64 ((IntKind.wrap .i64 ((a0.length : Int) - (IntKind.wrap .i64 (a2 - a1)))) + 1)))), .inr 6] : List (Bool ⊕ Int)).length ≤ 4611686018427387904) then ((some (vp ([.inl ((!(within a1 0 (a0.length : Int))) || (!(within a2 a1 (a0.length : Int)))), .inr 4, .inl (decide (5 < (IntKind.wrap .i64 ((IntKind.wrap .i64 ((a0.length : Int) - (IntKind.wrap .i64 (a2 - a1)))) + 1)))), .inr 6] : List (Bool ⊕ Int)))).bind fun z18 => bif (!decide (z18 = 0)) then (some ([], z18)) else (bif inS a1 a2 (a0.length : Int) then (bif decide (vr (sub a0 a1 a2) = true) then (bif (!decide ((Vb (qB (sub a0 a1 a2))) = 0)) then (some ([], (Vb (qB (sub a0 a1 a2))))) else (bif inS 0 a1 (a0.length : Int) then (bif inS a2 (a0.length : Int) (a0.length : Int) then (bif decide (([sub a0 0 a1, ([(VY (qB (sub a0 a1 a2)))] : List (List Rec)), sub a0 a2 (a0.length : Int)] : List (List (List Rec))).length ≤ 1000) then (bif decide (([sub a0 0 a1, ([(VY (qB (sub a0 a1 a2)))] : List (List Rec)), sub a0 a2 (a0.length : Int)] : List (List (List Rec))).flatten.length ≤ 1000) then (bif decide ((([sub a0 0 a1, ([(VY (qB (sub a0 a1 a2)))] : List (List Rec)), sub a0 a2 (a0.length : Int)] : List (List (List Rec))).flatten).length ≤ 100) then (bif decide (∀ l ∈ (([sub a0 0 a1, ([(VY (qB (sub a0 a1 a2)))] : List (List Rec)), sub a0 a2 (a0.length : Int)] : List (List (List Rec))).flatten), l.length ≤ 1048576) then (some ((([sub a0 0 a1, ([(VY (qB (sub a0 a1 a2)))] : List (List Rec)), sub a0 a2 (a0.length : Int)] : List (List (List Rec))).flatten), 0)) else none) else none) else none) else none) else none) else none)) else none) else none)) else none
theorem q4.eq (a0 : List (List Rec)) (a1 a2 : Int) (h0 : vr a0 = true) : q4.sh a0 a1 a2 = some ((Q7 a0 a1 a2).1, (Q7 a0 a1 a2).2) := by
 have h5 := (jH h0).1
 have h16 := JM h0
 unfold q4.sh Q7
 rcases qF (within a1 0 (a0.length : Int) && within a2 a1 (a0.length : Int)) with hw | hw
 ·rw [if_pos hw]
  have hw2 : ((!within a1 0 (a0.length : Int)) || !within a2 a1 (a0.length : Int)) = false := by rw [← Bool.not_and, hw]; rfl
  obtain ⟨i, j, rfl, rfl, hij, hj⟩ := Yd hw
  have w1 : IntKind.wrap .i64 ((j : Int) - (i : Int)) = (j : Int) - (i : Int) := wrap_small (by omega) (by omega)
  have w2 : IntKind.wrap .i64 ((a0.length : Int) - ((j : Int) - (i : Int))) = (a0.length : Int) - ((j : Int) - (i : Int)) := wrap_small (by omega) (by omega)
  have w3 : IntKind.wrap .i64 ((a0.length : Int) - ((j : Int) - (i : Int)) + 1) = (a0.length : Int) - ((j : Int) - (i : Int)) + 1 := wrap_small (by omega) (by omega)
  rw [hw2, w1, w2, w3]
  by_cases hc : 5 < (a0.length : Int) - ((j : Int) - (i : Int)) + 1
  ·rw [if_pos hc, decide_eq_true hc]; simp [vp, Yp, YS]
  ·rw [if_neg hc, decide_eq_false hc]
   have i1 : inS (i : Int) (j : Int) (a0.length : Int) = true := QK (by omega) (by omega) (by omega)
   have i2 : inS 0 (i : Int) (a0.length : Int) = true := QK (by omega) (by omega) (by omega)
   have i3 : inS (j : Int) (a0.length : Int) (a0.length : Int) = true := QK (by omega) (by omega) (by omega)
   have hs := Gk h0 i j
   by_cases hf : Vb (qB (sub a0 (i : Int) (j : Int))) = 0
   ·rw [if_pos hf]
    obtain ⟨f1, f2⟩ := XV hf
    have hX : ([a0.take i, [qB (sub a0 (i : Int) (j : Int))], a0.drop j] : List (List (List Rec))).flatten = Yi a0 i j (qB (sub a0 (i : Int) (j : Int))) := by simp [Yi]
    have hpl := Xi (L := a0) (i := i) (j := j) (x := qB (sub a0 (i : Int) (j : Int))) (by omega)
    have d1 : decide ((Yi a0 i j (qB (sub a0 (i : Int) (j : Int)))).length ≤ 1000) = true := decide_eq_true (by omega)
    have d2 : decide ((Yi a0 i j (qB (sub a0 (i : Int) (j : Int)))).length ≤ 100) = true := decide_eq_true (by omega)
    have d3 : decide (∀ l ∈ Yi a0 i j (qB (sub a0 (i : Int) (j : Int))), l.length ≤ 1048576) = true := decide_eq_true fun l hl => by
     rcases Xe hl with hl | rfl
     ·have := h16 l hl; omega
     ·omega
    have d0 : decide (([a0.take i, [qB (sub a0 (i : Int) (j : Int))], a0.drop j] : List (List (List Rec))).length ≤ 1000) = true := decide_eq_true (by simp)
    simp only [List.length_cons, List.length_nil, vp, Yp, YS, cond_true, cond_false, decide_true, Option.bind_some, Bool.not_true, i1, decide_eq_true hs, hf, i2, i3, sub_take, sub_drop, f2, d0, hX, d1, d2, d3, Int.toNat_natCast, Bool.false_eq_true, if_false, Nat.reduceAdd, Nat.reduceLeDiff]
   ·rw [if_neg hf]
    simp [vp, Yp, YS, i1, hs, hf]
 ·rw [if_neg (by rw [hw]; simp)]
  have hw2 : ((!within a1 0 (a0.length : Int)) || !within a2 a1 (a0.length : Int)) = true := by rw [← Bool.not_and, hw]; rfl
  rw [hw2]
  simp [vp, Yp, YS]
def yo.sh (a0 : List (List Rec)) (a1 : Int) (a2 : Int) : Option (List (List Rec) × Int) :=
 bif decide (a0.length ≤ 1048576) then (bif decide (∀ l ∈ a0, l.length ≤ 1048576) then (bif decide (∀ l ∈ a0, ∀ x ∈ l, x.path.length ≤ 1048576) then (bif (!decide ((stackCode a0) = 0)) then (some ([], (stackCode a0))) else (bif decide (vr a0 = true) then (some ((Q7 a0 a1 a2).1, (Q7 a0 a1 a2).2)) else none)) else none) else none) else none
theorem yo.eq (a0 : List (List Rec)) (a1 a2 : Int) (h0 : a0.length ≤ 1048576) (h1 : ∀ l ∈ a0, l.length ≤ 1048576) (h2 : ∀ l ∈ a0, ∀ x ∈ l, x.path.length ≤ 1048576) : yo.sh a0 a1 a2 = some ((qf a0 a1 a2).1, (qf a0 a1 a2).2) := by
 unfold yo.sh qf
 by_cases h : stackCode a0 = 0
 ·simp [h0, decide_eq_true h1, decide_eq_true h2, h, VH h]
 ·simp [h0, decide_eq_true h1, decide_eq_true h2, h]
def yv.sh (a0 : List (List Rec)) (a1 : Int) (a2 : Int) : Option (List (List Rec) × Int) :=
 bif (decide (4096 < (a0.length : Int))) then (some (([] : List (List Rec)), 2)) else (bif decide (a0.length ≤ 1048576) then (bif decide (∀ l ∈ a0, l.length ≤ 1048576) then (bif decide (∀ l ∈ a0, ∀ x ∈ l, x.path.length ≤ 1048576) then (bif (!(vr a0)) then (some (([] : List (List Rec)), 1)) else (bif ((!(within a1 0 (a0.length : Int))) || (!(within a2 a1 (a0.length : Int)))) then (some (([] : List (List Rec)), 4)) else (bif ((decide (a1 = a2)) && (decide ((a0.length : Int) = 5))) then (some (([] : List (List Rec)), 6)) else (bif inS a1 a2 (a0.length : Int) then (bif decide (vr (sub a0 a1 a2) = true) then (bif (decide (16 < ((qB (sub a0 a1 a2)).length : Int))) then (some (([] : List (List Rec)), 7)) else (bif decide (a0.length ≤ 100) then (bif decide (∀ l ∈ a0, l.length ≤ 1048576) then (bif decide ((0 : Int) ≤ a1) then (bif decide (a1 ≤ (a0.length : Int)) then (bif decide ((0 : Int) ≤ a2) then (bif decide (a2 ≤ (a0.length : Int)) then (some (Yi a0 (a1).toNat (a2).toNat (qB (sub a0 a1 a2)), 0)) else none) else none) else none) else none) else none) else none)) else none) else none)))) else none) else none) else none)
theorem yv.eq (a0 : List (List Rec)) (a1 a2 : Int) (h0 : a0.length ≤ 1048576) (h1 : ∀ l ∈ a0, l.length ≤ 1048576) (h2 : ∀ l ∈ a0, ∀ x ∈ l, x.path.length ≤ 1048576) : yv.sh a0 a1 a2 = some ((qf a0 a1 a2).1, (qf a0 a1 a2).2) := by
 unfold yv.sh qf stackCode
 rw [Ge]
 by_cases h : 4096 < a0.length
 ·simp [h]
 ·rcases qF (vr a0) with c1 | c1
  ·have h5 := (jH c1).1
   simp only [h, decide_false, cond_false, h0, decide_true, cond_true, decide_eq_true h1, decide_eq_true h2, c1, Bool.not_true, if_false, Bool.false_eq_true, if_true]
   unfold Q7
   rcases qF (within a1 0 (a0.length : Int) && within a2 a1 (a0.length : Int)) with hw | hw
   ·rw [if_pos hw]
    have hw2 : ((!within a1 0 (a0.length : Int)) || !within a2 a1 (a0.length : Int)) = false := by rw [← Bool.not_and, hw]; rfl
    obtain ⟨i, j, rfl, rfl, hij, hj⟩ := Yd hw
    rw [hw2]
    by_cases hc : 5 < (a0.length : Int) - ((j : Int) - (i : Int)) + 1
    ·have e1 : (i : Int) = (j : Int) := by omega
     have e2 : (a0.length : Int) = 5 := by omega
     rw [if_pos hc, decide_eq_true e1, decide_eq_true e2]; rfl
    ·have e1 : (decide ((i : Int) = (j : Int)) && decide ((a0.length : Int) = 5)) = false := by
      by_cases q1 : (i : Int) = (j : Int)
      ·have : ¬ (a0.length : Int) = 5 := by omega
       rw [decide_eq_false this, Bool.and_false]
      ·rw [decide_eq_false q1, Bool.false_and]
     have i1 : inS (i : Int) (j : Int) (a0.length : Int) = true := QK (by omega) (by omega) (by omega)
     rw [if_neg hc, e1, i1, Gk c1 i j, fit_dec]
     have d1 : decide (a0.length ≤ 100) = true := decide_eq_true (by omega)
     have d2 : decide ((0 : Int) ≤ (i : Int)) = true := decide_eq_true (by omega)
     have d3 : decide ((i : Int) ≤ (a0.length : Int)) = true := decide_eq_true (by omega)
     have d4 : decide ((0 : Int) ≤ (j : Int)) = true := decide_eq_true (by omega)
     have d5 : decide ((j : Int) ≤ (a0.length : Int)) = true := decide_eq_true (by omega)
     by_cases hf : 16 < (qB (sub a0 (i : Int) (j : Int))).length
     ·have hf2 : Vb (qB (sub a0 (i : Int) (j : Int))) = 7 := (fitL_no hf).2
      simp [hf, hf2]
     ·have hf2 : Vb (qB (sub a0 (i : Int) (j : Int))) = 0 := (fitL_ok (by omega)).2
      simp only [hf, decide_false, cond_false, decide_true, cond_true, hf2, d1, decide_eq_true h1, d2, d3, d4, d5, if_true]
   ·rw [if_neg (by rw [hw]; simp)]
    have hw2 : ((!within a1 0 (a0.length : Int)) || !within a2 a1 (a0.length : Int)) = true := by rw [← Bool.not_and, hw]; rfl
    rw [hw2]; rfl
  ·simp [h, h0, decide_eq_true h1, decide_eq_true h2, c1]
def law_Replaced.sh (a0 : List (List Rec)) (a1 : Int) (a2 : Int) : Option (Bool) :=
 bif decide ((0 : Int) ≤ 1048576) then (bif decide ((1048576 : Int) ≤ 1048576) then (bif decide (a0.length ≤ 9223372036854775807) then (bif decide (∀ l ∈ a0, l.length ≤ 9223372036854775807) then (bif decide (∀ l ∈ a0, ∀ x ∈ l, Vt x) then (bif (decide ((jR a0 1048576) < 0)) then (some true) else (bif decide (a0.length ≤ 1048576) then (bif decide (∀ l ∈ a0, l.length ≤ 1048576) then (bif decide (a0.length ≤ 1048576) then (bif decide (∀ l ∈ a0, l.length ≤ 1048576) then (bif decide (∀ l ∈ a0, ∀ x ∈ l, x.path.length ≤ 1048576) then (bif decide (a0.length ≤ 1048576) then (bif decide (∀ l ∈ a0, l.length ≤ 1048576) then (bif decide (a0.length ≤ 1048576) then (bif decide (∀ l ∈ a0, l.length ≤ 1048576) then (bif decide (∀ l ∈ a0, ∀ x ∈ l, x.path.length ≤ 1048576) then (bif decide (((qf a0 a1 a2).1).length ≤ 1048576) then (bif decide (∀ l ∈ ((qf a0 a1 a2).1), l.length ≤ 1048576) then (bif ((!(decide (((qf a0 a1 a2).1) = ((qf a0 a1 a2).1)))) || (!decide (((qf a0 a1 a2).2) = ((qf a0 a1 a2).2)))) then (some false) else (bif decide (a0.length ≤ 1048576) then (bif decide (∀ l ∈ a0, l.length ≤ 1048576) then (bif decide (a0.length ≤ 1048576) then (bif decide (∀ l ∈ a0, l.length ≤ 1048576) then (bif (!(decide (a0 = a0))) then (some false) else (bif decide (a0.length ≤ 1048576) then (bif decide (∀ l ∈ a0, l.length ≤ 1048576) then (bif decide ((0 : Int) ≤ 1) then (bif decide ((1 : Int) ≤ 4611686018427387904 - 5 * (jq a0 : Int)) then (((bif (decide ((1 + 5 * (jq a0 : Int)) < 0)) then some true else (bif decide (((qf a0 a1 a2).1).length ≤ 1048576) then (bif decide (∀ l ∈ ((qf a0 a1 a2).1), l.length ≤ 1048576) then (some (!(decide (((qf a0 a1 a2).1) = ((qf a0 a1 a2).1))))) else none) else none))).bind fun z65 => bif (z65 || (!decide (((qf a0 a1 a2).2) = ((qf a0 a1 a2).2)))) then (some false) else (bif decide (((qf a0 a1 a2).1).length ≤ 1048576) then (bif decide (∀ l ∈ ((qf a0 a1 a2).1), l.length ≤ 1048576) then (bif decide ((0 : Int) ≤ 1) then (bif decide ((1 : Int) ≤ 4611686018427387904 - 5 * (jq ((qf a0 a1 a2).1) : Int)) then (bif decide ((vQ ((qf a0 a1 a2).1) 1).length ≤ 1048576) then (bif decide (∀ l ∈ (vQ ((qf a0 a1 a2).1) 1), l.length ≤ 1048576) then (bif decide ((0 : Int) ≤ 1) then (bif decide ((1 : Int) ≤ 4611686018427387904 - 5 * (jq (vQ ((qf a0 a1 a2).1) 1) : Int)) then (bif (decide ((jf (vQ ((qf a0 a1 a2).1) 1) 1) < 0)) then (some false) else (bif (!decide ((jf (vQ ((qf a0 a1 a2).1) 1) 1) = (1 + 5 * (jq ((qf a0 a1 a2).1) : Int)))) then (some false) else (bif decide (a0.length ≤ 1048576) then (bif decide (∀ l ∈ a0, l.length ≤ 1048576) then (bif decide (a0.length ≤ 1048576) then (bif decide (∀ l ∈ a0, l.length ≤ 1048576) then (bif decide (∀ l ∈ a0, ∀ x ∈ l, x.path.length ≤ 1048576) then (bif decide (((qf a0 a1 a2).1).length ≤ 1048576) then (bif decide (∀ l ∈ ((qf a0 a1 a2).1), l.length ≤ 1048576) then (bif ((!(decide (((qf a0 a1 a2).1) = ((qf a0 a1 a2).1)))) || (!decide (((qf a0 a1 a2).2) = ((qf a0 a1 a2).2)))) then (some false) else (bif decide ((vQ ((qf a0 a1 a2).1) 1).length ≤ 1048576) then (bif decide (∀ l ∈ (vQ ((qf a0 a1 a2).1) 1), l.length ≤ 1048576) then (bif decide ((0 : Int) ≤ 1) then (bif decide ((1 : Int) ≤ 4611686018427387904 - 5 * (jq (vQ ((qf a0 a1 a2).1) 1) : Int)) then (bif (decide ((jf (vQ ((qf a0 a1 a2).1) 1) 1) < 0)) then (some false) else (bif (!decide ((jf (vQ ((qf a0 a1 a2).1) 1) 1) = (1 + 5 * (jq ((qf a0 a1 a2).1) : Int)))) then (some false) else (some true))) else none) else none) else none) else none)) else none) else none) else none) else none) else none) else none) else none))) else none) else none) else none) else none) else none) else none) else none) else none)) else none) else none) else none) else none)) else none) else none) else none) else none)) else none) else none) else none) else none) else none) else none) else none) else none) else none) else none) else none) else none)) else none) else none) else none) else none) else none
theorem law_Replaced.eq (a0 : List (List Rec)) (a1 a2 : Int) (h2 : ∀ l ∈ a0, ∀ x ∈ l, Vt x) (h3 : a0.length ≤ 9223372036854775807) (h4 : ∀ l ∈ a0, l.length ≤ 9223372036854775807) : law_Replaced.sh a0 a1 a2 = some true := by
 unfold law_Replaced.sh
 by_cases hs : jR a0 1048576 < 0
 ·simp [h3, decide_eq_true h2, decide_eq_true h4, hs]
 ·obtain ⟨k1, k2, k3, _, k4, k5⟩ := szSS_of hs (by omega) (by omega)
  obtain ⟨l1, l2⟩ := Ja a0 a1 a2
  have hT := J7 k1 k2
  have b1 : (qf a0 a1 a2).1.length ≤ 1048576 := by omega
  have b2 : ∀ l ∈ (qf a0 a1 a2).1, l.length ≤ 1048576 := fun l hl => by have := l2 l hl; omega
  have hT2 := J7 b1 b2
  have b3 := Gz (qf a0 a1 a2).1 1 1048576 b2
  have b4 : (1 : Int) ≤ 4611686018427387904 - 5 * (jq a0 : Int) := by omega
  have b7 : ¬ (1 + 5 * (jq a0 : Int)) < 0 := by omega
  have b8 : (1 : Int) ≤ 4611686018427387904 - 5 * (jq (qf a0 a1 a2).1 : Int) := by omega
  have b9 : ¬ (1 + 5 * (jq (qf a0 a1 a2).1 : Int)) < 0 := by omega
  simp [h3, decide_eq_true h2, decide_eq_true h4, hs, k1, decide_eq_true k2, decide_eq_true k3, Jr, GK, XM, b1, decide_eq_true b2, decide_eq_true b3, b4, b7, b8, b9]
end Go.UL
