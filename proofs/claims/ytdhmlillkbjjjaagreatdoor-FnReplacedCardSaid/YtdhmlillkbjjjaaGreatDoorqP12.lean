import Derived.Test.YtdhmlillkbjjjaaGreatDoorqP6
set_option linter.unusedVariables false
set_option linter.unusedSimpArgs false
namespace Go.UL
open Go.RowKit
def qB (l : List Rec) (p : List UInt8) : Int := yT (fun r => decide (r.path = p)) l
def yQ.b1 (a0 : List Rec) (a1 : List UInt8) : Int → Option (Step (Int) (Int) (Unit)) :=
 fun x5_1 => bif (decide (x5_1 < (a0.length : Int))) then (bif inR x5_1 a0.length then (bif (decide (((gt a0 x5_1).path) = a1)) then (some (.ret x5_1)) else (some (.nxt (IntKind.wrap .i64 (x5_1 + 1))))) else none) else (some (.brk ()))
def yQ.sh (k : Nat) (a0 : List Rec) (a1 : List UInt8) : Option (Int) :=
  (qn (yQ.b1 a0 a1) k 0).bind fun z => match z with | .inl t => some t | .inr _ => some (-1)
theorem yQ.eq (a0 : List Rec) (a1 : List UInt8) (h : a0.length ≤ 1048576) : ∃ k, yQ.sh k a0 a1 = some (qB a0 a1) := by
 refine ⟨a0.length + 1, ?_⟩
 unfold yQ.sh qB
 rw [findI_run (fun r : Rec => decide (r.path = a1)) a0 (yQ.b1 a0 a1) (fun i hi => by
  simp only [yQ.b1, y9, hi, decide_true, cond_true, qP hi, vK, vF hi (by omega)]
  rfl) (by simp [yQ.b1])]
 by_cases hm : yT (fun r : Rec => decide (r.path = a1)) a0 = -1
 ·simp [hm]
 ·simp [hm]
def jr.sh (a0 : List Rec) : Option (Bool) :=
 some (decide (4096 < (a0.length : Int)))
theorem jr.eq (a0 : List Rec) : jr.sh a0 = some (decide (4096 < a0.length)) := by
 have : (4096 : Int) < (a0.length : Int) ↔ 4096 < a0.length := by omega
 simp [jr.sh, this]
def Q2.sh (a0 : Rec) (a1 : List UInt8) : Option (Bool) :=
 some (decide (a0.path = a1))
theorem Q2.eq (a0 : Rec) (a1 : List UInt8) : Q2.sh a0 a1 = some (decide (a0.path = a1)) := rfl
def qX.b1 (a0 : List Rec) (a1 : Rec → Option Bool) : Int → Option (Step (Int) (Int) (Unit)) :=
 fun x8_1 => bif (decide (x8_1 < (a0.length : Int))) then (bif inR x8_1 a0.length then ((a1 (gt a0 x8_1)).bind fun z22 => bif z22 then (some (.ret x8_1)) else (some (.nxt (IntKind.wrap .i64 (x8_1 + 1))))) else none) else (some (.brk ()))
def qX.sh (k : Nat) (a0 : List Rec) (a1 : Rec → Option Bool) : Option (Int) :=
  (qn (qX.b1 a0 a1) k 0).bind fun z => match z with | .inl t => some t | .inr _ => some (-1)
theorem qX.eq (a0 : List Rec) (a1 : Rec → Option Bool) (h : a0.length ≤ 4611686018427387904) {r : Int} (H : VV a1 a0 = some r) : ∃ k, qX.sh k a0 a1 = some r := by
 refine ⟨a0.length + 1, ?_⟩
 have := Yx a0 a0.length 0 (by omega) r (by simpa using H) (qX.b1 a0 a1) (fun i hi => by
  simp only [qX.b1, y9, hi, decide_true, cond_true, qP hi, vK, vF hi h]) (by simp [qX.b1]) (a0.length + 1) (by omega)
 simp only [Int.natCast_zero] at this
 unfold qX.sh
 rw [this]
 by_cases hr : r = -1
 ·simp [hr]
 ·simp [hr]
def QE.sh (a0 : List Rec) (a1 : List UInt8) : Option (Int) :=
 bif decide (a0.length ≤ 4611686018427387904) then (((VV (fun (x0_ : Rec) => some (decide (x0_.path = a1))) a0)).bind fun z12 => some z12) else none
theorem QE.eq (a0 : List Rec) (a1 : List UInt8) (h : a0.length ≤ 1048576) : QE.sh a0 a1 = some (qB a0 a1) := by
 have h1 : a0.length ≤ 4611686018427387904 := by omega
 have h2 := VZ (p := fun (x0_ : Rec) => some (decide (x0_.path = a1))) (q := fun r => decide (r.path = a1)) (l := a0) (fun _ _ => rfl)
 simp only [QE.sh, h1, decide_true, cond_true, h2, Option.bind_some, qB]
def ji (l : List Rec) (i : Nat) : Int :=
 if i = 16 then 6 else if qz (l.getD i default) ≠ 0 then qz (l.getD i default)
 else if 0 < i ∧ (l.getD i default).path = (l.getD (i - 1) default).path then 18
 else if 0 < i ∧ vA (cut 47 (l.getD (i - 1) default).path) (cut 47 (l.getD i default).path) = false then 11
 else if qe (l.getD i default).path = [] then 0
 else if qB (l.take i) (qe (l.getD i default).path) < 0 then 12
 else if (gt l (qB (l.take i) (qe (l.getD i default).path))).kind ≠ 3 then 13 else 0
def qC (l : List Rec) : Int × Int := match (List.range l.length).findSome? (fun i => if ji l i = 0 then none else some ((i : Int), ji l i)) with
 | some x => x
 | none => (0, 0)
def vU (l : List Rec) : Int × Int := if 4096 < l.length then (0, 2) else qC l
theorem Gh {α : Type} [Inhabited α] (l : List α) (i : Nat) : gt l (i : Int) = l.getD i default := rfl
theorem XK {l : List Rec} {i : Nat} (h : i < l.length) : l.getD i default ∈ l := by
 have : l.getD i default = l[i] := by simp [List.getD_eq_getElem?_getD, List.getElem?_eq_getElem h]
 rw [this]; exact List.getElem_mem h
theorem Xa {l : List Rec} {p : List UInt8} {i : Nat} (hi : i ≤ l.length) (h : ¬ qB (l.take i) p < 0) : inR (qB (l.take i) p) l.length = true := by
 have h1 : qB (l.take i) p < (l.take i).length := Je _ _
 have h2 : (l.take i).length ≤ i := by simp; omega
 exact Vi (by omega) (by omega)
def vG.b1 (a0 : List Rec) : Int → Option (Step (Int × Int) (Int) (Unit)) :=
 fun x4_1 => bif (decide (x4_1 < (a0.length : Int))) then (bif (decide (x4_1 = 16)) then (some (.ret (x4_1, 6))) else (bif inR x4_1 a0.length then (bif (!decide ((qz (gt a0 x4_1)) = 0)) then (some (.ret (x4_1, (qz (gt a0 x4_1))))) else (bif (!(decide (0 < x4_1)) || (inR x4_1 a0.length)) then (bif (!(decide (0 < x4_1)) || (inR (IntKind.wrap .i64 (x4_1 - 1)) a0.length)) then (bif ((decide (0 < x4_1)) && (decide (((gt a0 x4_1).path) = ((gt a0 (IntKind.wrap .i64 (x4_1 - 1))).path)))) then (some (.ret (x4_1, 18))) else (bif (!(decide (0 < x4_1)) || (inR (IntKind.wrap .i64 (x4_1 - 1)) a0.length)) then (bif (!(decide (0 < x4_1)) || (inR x4_1 a0.length)) then (bif (!(decide (0 < x4_1)) || (decide (((gt a0 (IntKind.wrap .i64 (x4_1 - 1))).path).length ≤ 1048576))) then (bif (!(decide (0 < x4_1)) || (decide (((gt a0 x4_1).path).length ≤ 1048576))) then (bif ((decide (0 < x4_1)) && (!(vA (cut 47 ((gt a0 (IntKind.wrap .i64 (x4_1 - 1))).path)) (cut 47 ((gt a0 x4_1).path))))) then (some (.ret (x4_1, 11))) else (bif inR x4_1 a0.length then (bif decide (((gt a0 x4_1).path).length ≤ 4611686018427387904) then (bif (decide ((qe ((gt a0 x4_1).path)) = ([] : List UInt8))) then (some (.nxt (IntKind.wrap .i64 (x4_1 + 1)))) else (bif inS 0 x4_1 (a0.length : Int) then (bif decide ((sub a0 0 x4_1).length ≤ 1048576) then (bif (decide ((qB (sub a0 0 x4_1) (qe ((gt a0 x4_1).path))) < 0)) then (some (.ret (x4_1, 12))) else (bif inR (qB (sub a0 0 x4_1) (qe ((gt a0 x4_1).path))) a0.length then (bif (!decide (((gt a0 (qB (sub a0 0 x4_1) (qe ((gt a0 x4_1).path)))).kind) = 3)) then (some (.ret (x4_1, 13))) else (some (.nxt (IntKind.wrap .i64 (x4_1 + 1))))) else none)) else none) else none)) else none) else none)) else none) else none) else none) else none)) else none) else none)) else none)) else (some (.brk ()))
def vG.sh (k : Nat) (a0 : List Rec) : Option (Int × Int) :=
  (qn (vG.b1 a0) k 0).bind fun z => match z with | .inl t => some t | .inr _ => some (0, 0)
theorem vG.eq (a0 : List Rec) (h0 : a0.length ≤ 1048576) (h1 : ∀ x ∈ a0, x.path.length ≤ 1048576) : ∃ k, vG.sh k a0 = some ((qC a0).1, (qC a0).2) := by
 refine ⟨a0.length + 1, ?_⟩
 unfold vG.sh
 have hb : ∀ i : Nat, i < a0.length → vG.b1 a0 i = some (sc (if ji a0 i = 0 then none else some ((i : Int), ji a0 i) : Option (Int × Int)) ((i : Int) + 1)) := by
  intro i hi
  have hp := h1 _ (XK hi)
  have hp2 : (a0.getD i default).path.length ≤ 4611686018427387904 := by omega
  simp only [vG.b1, y9, hi, decide_true, cond_true, qP hi, Gh, vF hi (by omega), Bool.or_true, hp, hp2]
  have e16 : decide ((i : Int) = 16) = decide (i = 16) := by rw [decide_eq_decide]; omega
  rw [e16]
  unfold ji
  obtain ⟨r, hr⟩ : ∃ r, a0.getD i default = r := ⟨_, rfl⟩
  simp only [hr] at hp hp2 ⊢
  by_cases h16 : i = 16
  ·subst h16; simp
  ·simp only [h16, decide_false, cond_false, if_false]
   by_cases hf : qz r = 0
   ·simp only [hf, decide_true, Bool.not_true, cond_false, ne_eq, not_true_eq_false, if_false]
    by_cases hz : i = 0
    ·subst hz
     simp only [Int.natCast_zero, Int.lt_irrefl, decide_false, Bool.not_false, Bool.true_or, cond_true, Bool.false_and, cond_false, Nat.lt_irrefl, false_and, if_false]
     by_cases hpp : qe r.path = []
     ·simp [hpp]
     ·simp only [hpp, decide_false, cond_false, if_false]
      have hs : sub a0 0 ((0 : Nat) : Int) = a0.take 0 := rfl
      simp only [Int.natCast_zero] at hs
      rw [QP (l := 0) (h := 0) (n := (a0.length : Int)) (by omega) (by omega) (by omega)]
      simp only [hs]
      simp [qB, yT]
    ·have hi1 : i - 1 < a0.length := by omega
     have hw : IntKind.wrap .i64 ((i : Int) - 1) = ((i - 1 : Nat) : Int) := by rw [wrap_small (by omega) (by omega)]; omega
     have hpos : (0 : Int) < (i : Int) := by omega
     have hpos' : 0 < i := by omega
     have hp3 := h1 _ (XK hi1)
     simp only [hw, Gh, qP hi1, hpos, hpos', hp3, decide_true, Bool.not_true, Bool.false_or, Bool.or_true, cond_true, Bool.true_and, true_and]
     obtain ⟨q, hq0⟩ : ∃ q, a0.getD (i - 1) default = q := ⟨_, rfl⟩
     simp only [hq0]
     by_cases hq : r.path = q.path
     ·simp [hq]
     ·simp only [hq, decide_false, cond_false, if_false]
      cases hL : vA (cut 47 q.path) (cut 47 r.path) with
      | false => simp
      | true =>
       simp only [Bool.not_true, cond_false, Bool.true_eq_false, if_false]
       by_cases hpp : qe r.path = []
       ·simp [hpp]
       ·simp only [hpp, decide_false, cond_false, if_false]
        have hs : sub a0 0 (i : Int) = a0.take i := by simp [sub]
        have hl : (a0.take i).length ≤ 1048576 := by simp; omega
        rw [QP (l := 0) (h := (i : Int)) (n := (a0.length : Int)) (by omega) (by omega) (by omega)]
        simp only [hs, cond_true, hl, decide_true]
        by_cases hk : qB (a0.take i) (qe r.path) < 0
        ·simp [hk]
        ·simp only [hk, decide_false, cond_false, if_false, Xa (Nat.le_of_lt hi) hk, cond_true]
         by_cases hd : (gt a0 (qB (a0.take i) (qe r.path))).kind = 3
         ·simp [hd]
         ·simp [hd]
   ·simp [hf]
 have hn : vG.b1 a0 a0.length = some (.brk ()) := by simp [vG.b1]
 rw [jT a0.length _ hb hn _ (by omega)]
 unfold qC
 cases (List.range a0.length).findSome? _ <;> rfl
def QX.sh (a0 : List Rec) : Option (Bool) :=
 bif decide (a0.length ≤ 1048576) then (bif decide (∀ x ∈ a0, x.path.length ≤ 1048576) then (some (decide (((qC a0).2) = 0))) else none) else none
theorem QX.eq (a0 : List Rec) (h0 : a0.length ≤ 1048576) (h1 : ∀ x ∈ a0, x.path.length ≤ 1048576) : QX.sh a0 = some (decide ((qC a0).2 = 0)) := by
 simp only [QX.sh, h0, decide_true, cond_true, decide_eq_true h1]
def faultAt (l : List Rec) (i : Int) : Int :=
 if 16 ≤ i then 6 else if qz (gt l i) ≠ 0 then qz (gt l i) else if 0 < i ∧ (gt l (i - 1)).path = (gt l i).path then 18
 else if 0 < i ∧ y4 (gt l (i - 1)).path (gt l i).path = false then 11 else if qe (gt l i).path = [] then 0
 else if qB (l.take i.toNat) (qe (gt l i).path) < 0 then 12 else if (gt l (qB (l.take i.toNat) (qe (gt l i).path))).kind ≠ 3 then 13 else 0
def qt.sh (a0 : List Rec) (a1 : Int) : Option (Int) :=
  bif inR a1 a0.length then (bif decide (((gt a0 a1).path).length ≤ 1048576) then ((bif (!decide ((qe ((gt a0 a1).path)) = ([] : List UInt8))) then (bif inS 0 a1 (a0.length : Int) then (bif decide ((sub a0 0 a1).length ≤ 1048576) then (some (.inr (qB (sub a0 0 a1) (qe ((gt a0 a1).path))))) else none) else none) else (some (.inr 0)) : Option ((Int) ⊕ (Int))).bind fun z => match z with | .inl t => some t | .inr x6_19 => bif (!(decide (0 < a1)) || (inR (if ((IntKind.wrap .i64 (a1 - 1)) < 0 : Prop) then 0 else (IntKind.wrap .i64 (a1 - 1))) a0.length)) then (bif (!(decide (0 < a1)) || (inR (if ((IntKind.wrap .i64 (a1 - 1)) < 0 : Prop) then 0 else (IntKind.wrap .i64 (a1 - 1))) a0.length)) then (bif decide (((gt a0 a1).path).length ≤ 1048576) then (bif (!(!decide ((qe ((gt a0 a1).path)) = ([] : List UInt8))) || (inR (if (x6_19 < 0 : Prop) then 0 else x6_19) a0.length)) then (bif decide (([.inl (!(decide (qz (gt a0 a1) = 0))), .inr (qz (gt a0 a1)), .inl ((decide (0 < a1)) && (decide (((gt a0 (if ((IntKind.wrap .i64 (a1 - 1)) < 0 : Prop) then 0 else (IntKind.wrap .i64 (a1 - 1)))).path) = ((gt a0 a1).path)))), .inr 18, .inl ((decide (0 < a1)) && (!(y4 ((gt a0 (if ((IntKind.wrap .i64 (a1 - 1)) < 0 : Prop) then 0 else (IntKind.wrap .i64 (a1 - 1)))).path) ((gt a0 a1).path)))), .inr 11, .inl (decide (x6_19 < 0)), .inr 12, .inl ((!decide ((qe ((gt a0 a1).path)) = ([] : List UInt8))) && (!decide (((gt a0 (if (x6_19 < 0 : Prop) then 0 else x6_19)).kind) = 3))), .inr 13] : List (Bool ⊕ Int)).length ≤ 4611686018427387904) then (bif decide (([.inl (decide (16 ≤ a1)), .inr 6, .inl true, .inr (vO ([.inl (!(decide (qz (gt a0 a1) = 0))), .inr (qz (gt a0 a1)), .inl ((decide (0 < a1)) && (decide (((gt a0 (if ((IntKind.wrap .i64 (a1 - 1)) < 0 : Prop) then 0 else (IntKind.wrap .i64 (a1 - 1)))).path) = ((gt a0 a1).path)))), .inr 18, .inl ((decide (0 < a1)) && (!(y4 ((gt a0 (if ((IntKind.wrap .i64 (a1 - 1)) < 0 : Prop) then 0 else (IntKind.wrap .i64 (a1 - 1)))).path) ((gt a0 a1).path)))), .inr 11, .inl (decide (x6_19 < 0)), .inr 12, .inl ((!decide ((qe ((gt a0 a1).path)) = ([] : List UInt8))) && (!decide (((gt a0 (if (x6_19 < 0 : Prop) then 0 else x6_19)).kind) = 3))), .inr 13] : List (Bool ⊕ Int)))] : List (Bool ⊕ Int)).length ≤ 4611686018427387904) then (some (vO ([.inl (decide (16 ≤ a1)), .inr 6, .inl true, .inr (vO ([.inl (!(decide (qz (gt a0 a1) = 0))), .inr (qz (gt a0 a1)), .inl ((decide (0 < a1)) && (decide (((gt a0 (if ((IntKind.wrap .i64 (a1 - 1)) < 0 : Prop) then 0 else (IntKind.wrap .i64 (a1 - 1)))).path) = ((gt a0 a1).path)))), .inr 18, .inl ((decide (0 < a1)) && (!(y4 ((gt a0 (if ((IntKind.wrap .i64 (a1 - 1)) < 0 : Prop) then 0 else (IntKind.wrap .i64 (a1 - 1)))).path) ((gt a0 a1).path)))), .inr 11, .inl (decide (x6_19 < 0)), .inr 12, .inl ((!decide ((qe ((gt a0 a1).path)) = ([] : List UInt8))) && (!decide (((gt a0 (if (x6_19 < 0 : Prop) then 0 else x6_19)).kind) = 3))), .inr 13] : List (Bool ⊕ Int)))] : List (Bool ⊕ Int)))) else none) else none) else none) else none) else none) else none) else none) else none
theorem firstOf_c (b : Bool) (n : Int) (l : List (Bool ⊕ Int)) : vO (.inl b :: .inr n :: l) = if b then n else vO l := rfl
theorem qt.eq (a0 : List Rec) (a1 : Int) (h0 : a0.length ≤ 1048576) (h1 : ∀ x ∈ a0, x.path.length ≤ 1048576) (h2 : inR a1 a0.length = true) : qt.sh a0 a1 = some (faultAt a0 a1) := by
 obtain ⟨i, rfl⟩ : ∃ i : Nat, a1 = i := ⟨a1.toNat, by have := Qt h2; omega⟩
 have hi : i < a0.length := by have := Qb h2; omega
 have hp := h1 _ (XK hi)
 obtain ⟨r, hr⟩ : ∃ r, a0.getD i default = r := ⟨_, rfl⟩
 have hs : sub a0 0 (i : Int) = a0.take i := by simp [sub]
 have hl : (a0.take i).length ≤ 1048576 := by simp; omega
 have hm : (if (IntKind.wrap .i64 ((i : Int) - 1) < 0 : Prop) then (0 : Int) else IntKind.wrap .i64 ((i : Int) - 1)) = ((i - 1 : Nat) : Int) := by
  rw [wrap_small (by omega) (by omega)]; split <;> omega
 have hi1 : i - 1 < a0.length := by omega
 obtain ⟨q, hq⟩ : ∃ q, a0.getD (i - 1) default = q := ⟨_, rfl⟩
 have hq2 : ∀ _ : 0 < i, gt a0 ((i : Int) - 1) = q := fun h => by
  have : ((i : Int) - 1) = ((i - 1 : Nat) : Int) := by omega
  rw [this, Gh, hq]
 rw [hr] at hp
 have e16 : decide ((16 : Int) ≤ (i : Int)) = decide (16 ≤ i) := by rw [decide_eq_decide]; omega
 have epos : decide ((0 : Int) < (i : Int)) = decide (0 < i) := by rw [decide_eq_decide]; omega
 have e16' : ((16 : Int) ≤ (i : Int)) = (16 ≤ i) := propext (by omega)
 have epos' : ((0 : Int) < (i : Int)) = (0 < i) := propext (by omega)
 unfold qt.sh faultAt
 simp only [qP hi, Gh, hr, hp, hs, hl, hm, hq, qP hi1, e16, epos, decide_true, cond_true, Bool.or_true, Int.toNat_natCast, QP (l := 0) (h := (i : Int)) (n := (a0.length : Int)) (by omega) (by omega) (by omega), firstOf_c, List.length_cons, List.length_nil]
 simp only [e16', epos']
 by_cases hpp : qe r.path = []
 ·have h00 : inR (if (0 : Int) < 0 then 0 else 0) a0.length = true := Vi (by omega) (by simp; omega)
  by_cases c0 : 0 < i
  ·simp only [hq2 c0]
   by_cases c16 : 16 ≤ i <;> by_cases cf : qz r = 0 <;> by_cases cq : q.path = r.path <;> cases cl : y4 q.path r.path <;> simp [hpp, c16, cf, cq, cl, c0, vO]
  ·by_cases c16 : 16 ≤ i <;> by_cases cf : qz r = 0 <;> simp [hpp, c16, cf, c0, vO]
 ·by_cases ck : qB (a0.take i) (qe r.path) < 0
  ·have h00 : inR 0 a0.length = true := Vi (by omega) (by omega)
   by_cases c0 : 0 < i
   ·simp only [hq2 c0]
    by_cases c16 : 16 ≤ i <;> by_cases cf : qz r = 0 <;> by_cases cq : q.path = r.path <;> cases cl : y4 q.path r.path <;> simp [hpp, c16, cf, cq, cl, c0, ck, h00]
   ·by_cases c16 : 16 ≤ i <;> by_cases cf : qz r = 0 <;> simp [hpp, c16, cf, c0, ck, h00]
  ·have hk := Xa (Nat.le_of_lt hi) ck
   by_cases cd : (gt a0 (qB (a0.take i) (qe r.path))).kind = 3
   ·by_cases c0 : 0 < i
    ·simp only [hq2 c0]
     by_cases c16 : 16 ≤ i <;> by_cases cf : qz r = 0 <;> by_cases cq : q.path = r.path <;> cases cl : y4 q.path r.path <;> simp [hpp, c16, cf, cq, cl, c0, ck, hk, cd, vO]
    ·by_cases c16 : 16 ≤ i <;> by_cases cf : qz r = 0 <;> simp [hpp, c16, cf, c0, ck, hk, cd, vO]
   ·by_cases c0 : 0 < i
    ·simp only [hq2 c0]
     by_cases c16 : 16 ≤ i <;> by_cases cf : qz r = 0 <;> by_cases cq : q.path = r.path <;> cases cl : y4 q.path r.path <;> simp [hpp, c16, cf, cq, cl, c0, ck, hk, cd, vO]
    ·by_cases c16 : 16 ≤ i <;> by_cases cf : qz r = 0 <;> simp [hpp, c16, cf, c0, ck, hk, cd, vO]
theorem yr {r : Rec} (h : qz r = 0) : qE r.path = true := by
 unfold qz at h
 split at h
 ·cases h
 ·split at h
  ·cases h
  ·rename_i h2; simpa using h2
theorem XL {l : List Rec} {i : Nat} (h : ji l i = 0) : qz (l.getD i default) = 0 := by
 unfold ji at h
 split at h
 ·cases h
 ·split at h
  ·rename_i h1; exact absurd h h1
  ·rename_i h1; simpa using h1
theorem faultAt_code (l : List Rec) (i : Nat) (hp : ∀ j, j < i → ji l j = 0) : faultAt l (i : Int) = ji l i := by
 have h16 : ¬ 16 < i := fun h => by have := hp 16 h; simp [ji] at this
 unfold faultAt ji
 have e : ((16 : Int) ≤ (i : Int)) = (i = 16) := propext (by omega)
 have epos : ((0 : Int) < (i : Int)) = (0 < i) := propext (by omega)
 simp only [e, epos, Gh, Int.toNat_natCast]
 by_cases c16 : i = 16
 ·simp [c16]
 ·simp only [c16, if_false]
  obtain ⟨r, hr⟩ : ∃ r, l.getD i default = r := ⟨_, rfl⟩
  simp only [hr]
  by_cases cf : qz r = 0
  ·simp only [cf, ne_eq, not_true_eq_false, if_false]
   by_cases c0 : 0 < i
   ·have hg : gt l ((i : Int) - 1) = l.getD (i - 1) default := by
     have : ((i : Int) - 1) = ((i - 1 : Nat) : Int) := by omega
     rw [this, Gh]
    obtain ⟨q, hq⟩ : ∃ q, l.getD (i - 1) default = q := ⟨_, rfl⟩
    have hqok : qE q.path = true := by rw [← hq]; exact yr (XL (hp (i - 1) (by omega)))
    have hrok := yr cf
    have e1 : y4 q.path r.path = vA (cut 47 q.path) (cut 47 r.path) := by simp [y4, hqok, hrok]
    have e2 : (q.path = r.path) = (r.path = q.path) := propext ⟨Eq.symm, Eq.symm⟩
    simp only [hg, hq, e1, e2, c0, true_and]
   ·simp only [c0, false_and, if_false]
  ·simp only [cf, ne_eq, not_false_eq_true, if_true]
def yF.b1 (a0 : List Rec) : Int → Option (Step (Int × Int) (Int) (Unit)) :=
 fun x8_1 => bif (decide (x8_1 < (a0.length : Int))) then (bif decide (a0.length ≤ 1048576) then (bif decide (∀ x ∈ a0, x.path.length ≤ 1048576) then (bif decide (inR x8_1 a0.length = true) then (bif (!decide ((faultAt a0 x8_1) = 0)) then (some (.ret (x8_1, (faultAt a0 x8_1)))) else (some (.nxt (IntKind.wrap .i64 (x8_1 + 1))))) else none) else none) else none) else (some (.brk ()))
def yF.sh (k : Nat) (a0 : List Rec) : Option (Int × Int) :=
  (qn (yF.b1 a0) k 0).bind fun z => match z with | .inl t => some t | .inr _ => some (0, 0)
theorem yF.eq (a0 : List Rec) (h0 : a0.length ≤ 1048576) (h1 : ∀ x ∈ a0, x.path.length ≤ 1048576) : ∃ k, yF.sh k a0 = some ((qC a0).1, (qC a0).2) := by
 refine ⟨a0.length + 1, ?_⟩
 unfold yF.sh
 have hb : ∀ i : Nat, i < a0.length → yF.b1 a0 i = some (sc (if faultAt a0 i = 0 then none else some ((i : Int), faultAt a0 i) : Option (Int × Int)) ((i : Int) + 1)) := by
  intro i hi
  simp only [yF.b1, y9, hi, decide_true, cond_true, qP hi, h0, decide_eq_true h1, vF hi (by omega)]
  by_cases hf : faultAt a0 i = 0 <;> simp [hf]
 have hn : yF.b1 a0 a0.length = some (.brk ()) := by simp [yF.b1]
 rw [jT a0.length _ hb hn _ (by omega)]
 have hag := X7 (f := fun i => if ji a0 i = 0 then none else some ((i : Int), ji a0 i)) (g := fun i => if faultAt a0 i = 0 then none else some ((i : Int), faultAt a0 i)) a0.length a0.length 0 (by omega) (fun j hj => by omega) (fun i _ hp => by
  have : faultAt a0 i = ji a0 i := faultAt_code a0 i fun j hj => by
   have := hp j hj
   by_cases h : ji a0 j = 0
   ·exact h
   ·simp [h] at this
  simp only [this])
 rw [List.range_eq_range', hag, ← List.range_eq_range']
 unfold qC
 cases (List.range a0.length).findSome? _ <;> rfl
def yR.sh (a0 : List Rec) : Option (Int × Int) :=
 bif (decide (4096 < a0.length)) then (some (0, 2)) else (bif decide (a0.length ≤ 1048576) then (bif decide (∀ x ∈ a0, x.path.length ≤ 1048576) then (some ((qC a0).1, (qC a0).2)) else none) else none)
theorem yR.eq (a0 : List Rec) (h0 : a0.length ≤ 1048576) (h1 : ∀ x ∈ a0, x.path.length ≤ 1048576) : yR.sh a0 = some ((vU a0).1, (vU a0).2) := by
 unfold yR.sh vU
 by_cases h : 4096 < a0.length
 ·simp [h]
 ·simp only [h, h0, decide_false, decide_true, cond_false, cond_true, if_false, decide_eq_true h1]
def Qs.sh (a0 : List Rec) : Option (Bool) :=
 bif decide (a0.length ≤ 1048576) then (bif decide (∀ x ∈ a0, x.path.length ≤ 1048576) then (some (decide (((vU a0).2) = 0))) else none) else none
theorem Qs.eq (a0 : List Rec) (h0 : a0.length ≤ 1048576) (h1 : ∀ x ∈ a0, x.path.length ≤ 1048576) : Qs.sh a0 = some (decide ((vU a0).2 = 0)) := by
 simp only [Qs.sh, h0, decide_true, cond_true, decide_eq_true h1]
theorem findR_in {l : List Rec} {p : List UInt8} (h : ¬ qB l p < 0) : inR (qB l p) l.length = true := (findI_get _ l (by unfold qB at h; omega)).1
def vm (l : List Nd) (p : List UInt8) : Int := yT (fun r => decide (r.path = p)) l
def jf.b1 (a0 : List Nd) (a1 : List UInt8) : Int → Option (Step (Int) (Int) (Unit)) :=
 fun x5_1 => bif (decide (x5_1 < (a0.length : Int))) then (bif inR x5_1 a0.length then (bif (decide (((gt a0 x5_1).path) = a1)) then (some (.ret x5_1)) else (some (.nxt (IntKind.wrap .i64 (x5_1 + 1))))) else none) else (some (.brk ()))
def jf.sh (k : Nat) (a0 : List Nd) (a1 : List UInt8) : Option (Int) :=
  (qn (jf.b1 a0 a1) k 0).bind fun z => match z with | .inl t => some t | .inr _ => some (-1)
theorem jf.eq (a0 : List Nd) (a1 : List UInt8) (h : a0.length ≤ 1048576) : ∃ k, jf.sh k a0 a1 = some (vm a0 a1) := by
 refine ⟨a0.length + 1, ?_⟩
 unfold jf.sh vm
 rw [findI_run (fun r : Nd => decide (r.path = a1)) a0 (jf.b1 a0 a1) (fun i hi => by
  simp only [jf.b1, y9, hi, decide_true, cond_true, qP hi, vK, vF hi (by omega)]
  rfl) (by simp [jf.b1])]
 by_cases hm : yT (fun r : Nd => decide (r.path = a1)) a0 = -1
 ·simp [hm]
 ·simp [hm]
def VY.sh (a0 : Nd) (a1 : List UInt8) : Option (Bool) :=
 some (decide (a0.path = a1))
theorem VY.eq (a0 : Nd) (a1 : List UInt8) : VY.sh a0 a1 = some (decide (a0.path = a1)) := rfl
def qT.b1 (a0 : List Nd) (a1 : Nd → Option Bool) : Int → Option (Step (Int) (Int) (Unit)) :=
 fun x8_1 => bif (decide (x8_1 < (a0.length : Int))) then (bif inR x8_1 a0.length then ((a1 (gt a0 x8_1)).bind fun z22 => bif z22 then (some (.ret x8_1)) else (some (.nxt (IntKind.wrap .i64 (x8_1 + 1))))) else none) else (some (.brk ()))
def qT.sh (k : Nat) (a0 : List Nd) (a1 : Nd → Option Bool) : Option (Int) :=
  (qn (qT.b1 a0 a1) k 0).bind fun z => match z with | .inl t => some t | .inr _ => some (-1)
theorem qT.eq (a0 : List Nd) (a1 : Nd → Option Bool) (h : a0.length ≤ 4611686018427387904) {r : Int} (H : VV a1 a0 = some r) : ∃ k, qT.sh k a0 a1 = some r := by
 refine ⟨a0.length + 1, ?_⟩
 have := Yx a0 a0.length 0 (by omega) r (by simpa using H) (qT.b1 a0 a1) (fun i hi => by
  simp only [qT.b1, y9, hi, decide_true, cond_true, qP hi, vK, vF hi h]) (by simp [qT.b1]) (a0.length + 1) (by omega)
 simp only [Int.natCast_zero] at this
 unfold qT.sh
 rw [this]
 by_cases hr : r = -1
 ·simp [hr]
 ·simp [hr]
def YQ.sh (a0 : List Nd) (a1 : List UInt8) : Option (Int) :=
 bif decide (a0.length ≤ 4611686018427387904) then (((VV (fun (x0_ : Nd) => some (decide (x0_.path = a1))) a0)).bind fun z12 => some z12) else none
theorem YQ.eq (a0 : List Nd) (a1 : List UInt8) (h : a0.length ≤ 1048576) : YQ.sh a0 a1 = some (vm a0 a1) := by
 have h1 : a0.length ≤ 4611686018427387904 := by omega
 have h2 := VZ (p := fun (x0_ : Nd) => some (decide (x0_.path = a1))) (q := fun r => decide (r.path = a1)) (l := a0) (fun _ _ => rfl)
 simp only [YQ.sh, h1, decide_true, cond_true, h2, Option.bind_some, vm]
def recOf (n : Nd) : Rec := ⟨n.kind, n.path, n.body, n.mode, false⟩
def Qy (r : Rec) : Nd := ⟨r.kind, r.path, r.body, r.mode⟩
def Y1 (n : Nd) : Bool := decide (qz (recOf n) = 0) && !decide (n.kind = 4)
def isDirN (t : List Nd) (p : List UInt8) : Bool := decide (p = []) || (decide (0 ≤ vm t p) && decide ((gt t (vm t p)).kind = 3))
def Yy (l : List Nd) (i : Nat) : Bool :=
 Y1 (l.getD i default) && (decide (i = 0) || vA (cut 47 (l.getD (i - 1) default).path) (cut 47 (l.getD i default).path)) && isDirN (l.take i) (qe (l.getD i default).path)
theorem VJ {n : Nd} (h : Y1 n = true) : qE n.path = true := by
 simp only [Y1, Bool.and_eq_true, decide_eq_true_eq] at h
 exact yr h.1
theorem gtake {α : Type} [Inhabited α] (l : List α) (i : Nat) (k : Int) (h0 : 0 ≤ k) (h : k < (l.take i).length) : gt (l.take i) k = gt l k := by
 obtain ⟨n, rfl⟩ : ∃ n : Nat, k = n := ⟨k.toNat, by omega⟩
 have : n < i ∧ n < l.length := by simp at h; omega
 simp only [vK, List.getD_eq_getElem?_getD, List.getElem?_take, this.1, if_true]
theorem findN_lt (l : List Nd) (p : List UInt8) : vm l p < l.length := Je _ _
theorem VH {α β T : Type} (xs : List α) (g : α → Option β) (b : List β × Int → Option (Step T (List β × Int) (List β)))
  (hb : ∀ (i : Nat) (h : i < xs.length) (acc : List β), acc.length ≤ i → b (acc, (i : Int)) = some (.nxt (acc ++ (g xs[i]).toList, (i : Int) + 1))) (hn : ∀ acc : List β, b (acc, (xs.length : Int)) = some (.brk acc)) :
  qn b (xs.length + 1) ([], 0) = some (.inr (xs.filterMap g)) := by
 have key : ∀ d i k (acc : List β), i + d = xs.length → d < k → acc.length ≤ i → qn b k (acc, (i : Int)) = some (.inr (acc ++ (xs.drop i).filterMap g)) := by
  intro d
  induction d with
  | zero =>
   intro i k acc hi hk _
   obtain ⟨k, rfl⟩ : ∃ j, k = j + 1 := ⟨k - 1, by omega⟩
   have : i = xs.length := by omega
   subst this
   simp [qn, hn]
  | succ d ih =>
   intro i k acc hi hk ha
   obtain ⟨k, rfl⟩ : ∃ j, k = j + 1 := ⟨k - 1, by omega⟩
   have hlt : i < xs.length := by omega
   rw [qn, hb i hlt acc ha]
   simp only [Option.bind_some]
   have hl : (acc ++ (g xs[i]).toList).length ≤ i + 1 := by cases g xs[i] <;> simp <;> omega
   have := ih (i + 1) k (acc ++ (g xs[i]).toList) (by omega) (by omega) hl
   rw [Int.natCast_add, Int.natCast_one] at this
   have e : (xs.drop i).filterMap g = (g xs[i]).toList ++ (xs.drop (i + 1)).filterMap g := by
    rw [List.drop_eq_getElem_cons hlt, List.filterMap_cons]
    cases g xs[i] <;> rfl
   rw [e, ← List.append_assoc]
   exact this
 have := key xs.length 0 (xs.length + 1) [] (by omega) (by omega) (by simp)
 simpa using this
theorem filterMap_if {α β : Type} (q : α → Bool) (f : α → β) (l : List α) : l.filterMap (fun x => if q x then some (f x) else none) = (l.filter q).map f := by
 induction l with
 | nil => rfl
 | cons x l ih =>
  rcases ql (q x) with h | h <;> simp [h, ih]
theorem vr {α : Type} [Inhabited α] {l : List α} {i : Nat} (h : i < l.length) : l.getD i default = l[i] := by simp [List.getD_eq_getElem?_getD, List.getElem?_eq_getElem h]
theorem QJ {t : List UInt8} (h : t ≠ []) : (qe t).length < t.length := by
 have h1 := J5 t
 have h2 := J4 t
 have h3 : 0 < t.length := by cases t with | nil => exact absurd rfl h | cons _ _ => simp
 simp [qe]; omega
def JL : Nat → List UInt8 → List (List UInt8)
 | 0, _ => []
 | n + 1, t => if qe t = [] then [] else qe t :: JL n (qe t)
def jo (t : List UInt8) : List (List UInt8) := JL t.length t
theorem jR : qe [] = [] := rfl
theorem ancsF_succ : ∀ (c : Nat) (v : List UInt8), v.length ≤ c → JL c v = JL (c + 1) v := by
 intro c
 induction c with
 | zero => intro v hv; have : v = [] := List.eq_nil_of_length_eq_zero (by omega); subst this; simp [JL, jR]
 | succ c ihc =>
  intro v hv
  rw [JL, JL]
  by_cases hpv : qe v = []
  ·simp [hpv]
  ·simp only [hpv, if_false]
   have hvne : v ≠ [] := by intro e; subst e; exact hpv jR
   have := QJ hvne
   rw [ihc (qe v) (by omega)]
theorem JO (d : Nat) (t : List UInt8) : JL (t.length + d) t = jo t := by
 induction d with
 | zero => rfl
 | succ d ih => rw [← ih, show t.length + (d + 1) = (t.length + d) + 1 by omega]; exact (ancsF_succ _ _ (by omega)).symm
theorem Qj (t : List UInt8) : jo t = if qe t = [] then [] else qe t :: jo (qe t) := by
 have h := JO 1 t
 rw [← h, JL]
 by_cases hp : qe t = []
 ·simp [hp]
 ·simp only [hp, if_false]
  have hne : t ≠ [] := by intro e; subst e; exact hp jR
  have := QJ hne
  have h2 := JO (t.length - (qe t).length) (qe t)
  rw [show (qe t).length + (t.length - (qe t).length) = t.length by omega] at h2
  rw [h2]
theorem ancs_bound : ∀ (n : Nat) (t : List UInt8), t.length ≤ n → (jo t).length ≤ t.length ∧ ∀ x ∈ jo t, x.length ≤ t.length ∧ x ≠ [] := by
 intro n
 induction n with
 | zero => intro t h; have : t = [] := List.eq_nil_of_length_eq_zero (by omega); subst this; exact ⟨by decide, by intro x hx; have e : jo [] = [] := rfl; rw [e] at hx; cases hx⟩
 | succ n ih =>
  intro t h
  rw [Qj]
  by_cases hp : qe t = []
  ·simp [hp]
  ·have hne : t ≠ [] := by intro e; subst e; exact hp jR
   have hlt := QJ hne
   obtain ⟨h1, h2⟩ := ih (qe t) (by omega)
   simp only [hp, if_false, List.length_cons, List.mem_cons]
   refine ⟨by omega, ?_⟩
   rintro x (rfl | hx)
   ·exact ⟨by omega, hp⟩
   ·have := h2 x hx; exact ⟨by omega, this.2⟩
theorem ancs_len (t : List UInt8) : (jo t).length ≤ t.length := (ancs_bound _ t (Nat.le_refl _)).1
theorem anc_run (q : List UInt8 → Bool) (b : List UInt8 → Option (Step Bool (List UInt8) Unit)) (hb : ∀ x : List UInt8, x ≠ [] → x.length ≤ 1048576 → b x = some (if q x then .ret true else .nxt (qe x))) (hn : b [] = some (.brk ())) :
  ∀ (n : Nat) (t : List UInt8) (k : Nat), (qe t).length ≤ n → n < k → (qe t).length ≤ 1048576 → qn b k (qe t) = some (if (jo t).any q then .inl true else .inr ()) := by
 intro n
 induction n with
 | zero =>
  intro t k h hk _
  obtain ⟨k, rfl⟩ : ∃ j, k = j + 1 := ⟨k - 1, by omega⟩
  have hp : qe t = [] := List.eq_nil_of_length_eq_zero (by omega)
  rw [Qj, hp, qn, hn]; simp
 | succ n ih =>
  intro t k h hk hl
  obtain ⟨k, rfl⟩ : ∃ j, k = j + 1 := ⟨k - 1, by omega⟩
  by_cases hp : qe t = []
  ·rw [Qj, hp, qn, hn]; simp
  ·rw [Qj, qn, hb _ hp hl]
   have hlt := QJ hp
   simp only [hp, if_false, List.any_cons]
   rcases ql (q (qe t)) with hq | hq
   ·simp [hq]
   ·simp only [hq, Bool.false_eq_true, if_false, Option.bind_some, Bool.false_or]
    exact ih (qe t) k (by omega) (by omega) (by omega)
def vB (r : Rec) : Bool := !decide (r.kind = 3) || r.opq
def jg (l : List Rec) (p : List UInt8) : Bool := (jo p).any fun x => decide (0 ≤ qB l x) && (gt l (qB l x)).opq
def yc (l : List Rec) (p : List UInt8) : Bool := (jo p).any fun x => decide (0 ≤ qB l x) && vB (gt l (qB l x))
def Yt (l : List Rec) (h : Rec → Option Bool) (p : List UInt8) : Option Bool := (h (gt l (qB l p))).bind fun z => some (decide (0 ≤ qB l p) && z)
theorem V0 {l : List Rec} {p : List UInt8} (h : 0 ≤ qB l p) : inR (qB l p) l.length = true := findR_in (by omega)
def yw.b1 (a0 : List Rec) : List UInt8 → Option (Step (Bool) (List UInt8) (Unit)) :=
 fun x5_4 => bif (!decide (x5_4 = ([] : List UInt8))) then (bif decide (a0.length ≤ 1048576) then (((bif (decide (0 ≤ (qB a0 x5_4))) then (bif inR (qB a0 x5_4) a0.length then (some ((gt a0 (qB a0 x5_4)).opq)) else none) else some false)).bind fun z26 => bif z26 then (some (.ret true)) else (bif decide (x5_4.length ≤ 4611686018427387904) then (some (.nxt (qe x5_4))) else none)) else none) else (some (.brk ()))
def yw.sh (k : Nat) (a0 : List Rec) (a1 : List UInt8) : Option (Bool) :=
  bif decide (a1.length ≤ 4611686018427387904) then ((qn (yw.b1 a0) k (qe a1)).bind fun z => match z with | .inl t => some t | .inr _ => some false) else none
theorem yw.eq (a0 : List Rec) (a1 : List UInt8) (h0 : a0.length ≤ 1048576) (h1 : a1.length ≤ 1048576) : ∃ k, yw.sh k a0 a1 = some (jg a0 a1) := by
 refine ⟨a1.length + 1, ?_⟩
 have hl := Y0 a1
 have h2 : a1.length ≤ 4611686018427387904 := by omega
 unfold yw.sh
 rw [anc_run (fun x => decide (0 ≤ qB a0 x) && (gt a0 (qB a0 x)).opq) (yw.b1 a0) (fun x hx hx2 => by
  have h3 : x.length ≤ 4611686018427387904 := by omega
  simp only [yw.b1, hx, decide_false, Bool.not_false, cond_true, h0, decide_true, h3]
  by_cases hk : 0 ≤ qB a0 x
  ·simp only [hk, decide_true, cond_true, V0 hk, Bool.true_and, Option.bind_some]
   cases (gt a0 (qB a0 x)).opq <;> simp
  ·simp [hk]) (by simp [yw.b1]) a1.length a1 (a1.length + 1) hl (by omega) (by omega)]
 simp only [h2, decide_true, cond_true, Option.bind_some]
 unfold jg
 cases (jo a1).any fun x => decide (0 ≤ qB a0 x) && (gt a0 (qB a0 x)).opq <;> simp
def Qf.sh (a0 : Rec) : Option (Bool) :=
 some ((!decide (a0.kind = 3)) || a0.opq)
theorem Qf.eq (a0 : Rec) : Qf.sh a0 = some (vB a0) := rfl
def yI.b1 (a0 : List Rec) : List UInt8 → Option (Step (Bool) (List UInt8) (Unit)) :=
 fun x5_4 => bif (!decide (x5_4 = ([] : List UInt8))) then (bif decide (a0.length ≤ 1048576) then (((bif (decide (0 ≤ (qB a0 x5_4))) then (bif inR (qB a0 x5_4) a0.length then (some (vB (gt a0 (qB a0 x5_4)))) else none) else some false)).bind fun z26 => bif z26 then (some (.ret true)) else (bif decide (x5_4.length ≤ 4611686018427387904) then (some (.nxt (qe x5_4))) else none)) else none) else (some (.brk ()))
def yI.sh (k : Nat) (a0 : List Rec) (a1 : List UInt8) : Option (Bool) :=
  bif decide (a1.length ≤ 4611686018427387904) then ((qn (yI.b1 a0) k (qe a1)).bind fun z => match z with | .inl t => some t | .inr _ => some false) else none
theorem yI.eq (a0 : List Rec) (a1 : List UInt8) (h0 : a0.length ≤ 1048576) (h1 : a1.length ≤ 1048576) : ∃ k, yI.sh k a0 a1 = some (yc a0 a1) := by
 refine ⟨a1.length + 1, ?_⟩
 have hl := Y0 a1
 have h2 : a1.length ≤ 4611686018427387904 := by omega
 unfold yI.sh
 rw [anc_run (fun x => decide (0 ≤ qB a0 x) && vB (gt a0 (qB a0 x))) (yI.b1 a0) (fun x hx hx2 => by
  have h3 : x.length ≤ 4611686018427387904 := by omega
  simp only [yI.b1, hx, decide_false, Bool.not_false, cond_true, h0, decide_true, h3]
  by_cases hk : 0 ≤ qB a0 x
  ·simp only [hk, decide_true, cond_true, V0 hk, Bool.true_and, Option.bind_some]
   cases vB (gt a0 (qB a0 x)) <;> simp
  ·simp [hk]) (by simp [yI.b1]) a1.length a1 (a1.length + 1) hl (by omega) (by omega)]
 simp only [h2, decide_true, cond_true, Option.bind_some]
 unfold yc
 cases (jo a1).any fun x => decide (0 ≤ qB a0 x) && vB (gt a0 (qB a0 x)) <;> simp
def vL.b1  : List UInt8 × List (List UInt8) → Option (Step (List (List UInt8)) (List UInt8 × List (List UInt8)) (List (List UInt8))) :=
 fun q => match q with
 | (x0_10, x3_11) => bif (!decide (x0_10 = ([] : List UInt8))) then (bif decide ((x3_11.length + ([x0_10] : List (List UInt8)).length) * 16 ≤ 140737488355328) then (bif decide (x0_10.length ≤ 1048576) then (some (.nxt ((qe x0_10), x3_11 ++ ([x0_10] : List (List UInt8))))) else none) else none) else (some (.brk x3_11))
def vL.sh (k : Nat) (a0 : List UInt8) : Option (List (List UInt8)) :=
  bif decide (a0.length ≤ 1048576) then ((qn (vL.b1) k ((qe a0), ([] : List (List UInt8)))).bind fun z => match z with | .inl t => some t | .inr x3_16 => some x3_16) else none
theorem vL.eq (a0 : List UInt8) (h0 : a0.length ≤ 1048576) : ∃ k, vL.sh k a0 = some (jo a0) := by
 refine ⟨a0.length + 1, ?_⟩
 have key : ∀ (n : Nat) (t : List UInt8) (k : Nat) (acc : List (List UInt8)), (qe t).length ≤ n → n < k → acc.length + (qe t).length ≤ 1048576 → qn vL.b1 k (qe t, acc) = some (.inr (acc ++ jo t)) := by
  intro n
  induction n with
  | zero =>
   intro t k acc h hk _
   obtain ⟨k, rfl⟩ : ∃ j, k = j + 1 := ⟨k - 1, by omega⟩
   have hp : qe t = [] := List.eq_nil_of_length_eq_zero (by omega)
   rw [Qj, hp, qn]; simp [vL.b1]
  | succ n ih =>
   intro t k acc h hk hl
   obtain ⟨k, rfl⟩ : ∃ j, k = j + 1 := ⟨k - 1, by omega⟩
   by_cases hp : qe t = []
   ·rw [Qj, hp, qn]; simp [vL.b1]
   ·have hlt := QJ hp
    have e1 : (acc.length + ([qe t] : List (List UInt8)).length) * 16 ≤ 140737488355328 := by simp; omega
    have e2 : (qe t).length ≤ 1048576 := by omega
    rw [Qj t, qn]
    simp only [vL.b1, hp, decide_false, Bool.not_false, cond_true, e1, e2, decide_true, if_false, Option.bind_some]
    have := ih (qe t) k (acc ++ [qe t]) (by omega) (by omega) (by simp; omega)
    rw [show qn vL.b1 k (qe (qe t), acc ++ [qe t]) = _ from this]
    simp
 have hl := Y0 a0
 unfold vL.sh
 rw [key a0.length a0 (a0.length + 1) [] hl (by omega) (by simp; omega)]
 simp [h0]
def jw.sh (a0 : List UInt8) (a1 : List Rec) (a2 : Rec → Option Bool) : Option (Bool) :=
 bif decide (a1.length ≤ 1048576) then (bif (!(decide (0 ≤ (qB a1 a0))) || (inR (qB a1 a0) a1.length)) then ((a2 (gt a1 (qB a1 a0))).bind fun z7 => some ((decide (0 ≤ (qB a1 a0))) && z7)) else none) else none
theorem jw.eq (a0 : List UInt8) (a1 : List Rec) (a2 : Rec → Option Bool) (h0 : a1.length ≤ 1048576) {r : Bool} (H : Yt a1 a2 a0 = some r) : jw.sh a0 a1 a2 = some r := by
 unfold jw.sh
 have h1 : (!decide (0 ≤ qB a1 a0) || inR (qB a1 a0) a1.length) = true := by
  by_cases hk : 0 ≤ qB a1 a0
  ·simp [V0 hk]
  ·simp [hk]
 rw [h1]
 simp only [h0, decide_true, cond_true]
 exact H
def jV.sh (a0 : List Rec) (a1 : List UInt8) (a2 : Rec → Option Bool) : Option (Bool) :=
 bif decide (a1.length ≤ 1048576) then (bif decide ((jo a1).length ≤ 4611686018427387904) then (((VP (fun (x0_ : List UInt8) => bif decide (a0.length ≤ 1048576) then (Yt a0 a2 x0_) else none) (jo a1))).bind fun z23 => some z23) else none) else none
theorem jV.eq (a0 : List Rec) (a1 : List UInt8) (a2 : Rec → Option Bool) (h0 : a0.length ≤ 1048576) (h1 : a1.length ≤ 1048576) {r : Bool} (H : VP (Yt a0 a2) (jo a1) = some r) : jV.sh a0 a1 a2 = some r := by
 have hl := ancs_len a1
 have h2 : (jo a1).length ≤ 4611686018427387904 := by omega
 unfold jV.sh
 simp only [h0, h1, h2, decide_true, cond_true]
 rw [show (VP (fun (x0_ : List UInt8) => Yt a0 a2 x0_) (jo a1)) = some r from H]; rfl
theorem XO (l : List Rec) (q : Rec → Bool) (p : List UInt8) : VP (Yt l (fun x => some (q x))) (jo p) = some ((jo p).any fun x => decide (0 ≤ qB l x) && q (gt l (qB l x))) := anyO_some fun x _ => rfl
def yz.sh (a0 : Rec) : Option (Bool) :=
 some a0.opq
theorem yz.eq (a0 : Rec) : yz.sh a0 = some a0.opq := rfl
def ju.sh (a0 : List Rec) (a1 : List UInt8) : Option (Bool) :=
 bif decide (a0.length ≤ 1048576) then (bif decide (a1.length ≤ 1048576) then (((VP (Yt a0 (fun (x0_ : Rec) => some x0_.opq)) (jo a1))).bind fun z7 => some z7) else none) else none
theorem ju.eq (a0 : List Rec) (a1 : List UInt8) (h0 : a0.length ≤ 1048576) (h1 : a1.length ≤ 1048576) : ju.sh a0 a1 = some (jg a0 a1) := by
 unfold ju.sh
 simp only [h0, h1, decide_true, cond_true, XO a0 (fun x => x.opq) a1, Option.bind_some]; rfl
def QW.sh (a0 : Rec) : Option (Bool) :=
 some ((!decide (a0.kind = 3)) || a0.opq)
theorem QW.eq (a0 : Rec) : QW.sh a0 = some (vB a0) := rfl
def Vz.sh (a0 : List Rec) (a1 : List UInt8) : Option (Bool) :=
 bif decide (a0.length ≤ 1048576) then (bif decide (a1.length ≤ 1048576) then (((VP (Yt a0 (fun (x0_ : Rec) => some (vB x0_))) (jo a1))).bind fun z7 => some z7) else none) else none
theorem Vz.eq (a0 : List Rec) (a1 : List UInt8) (h0 : a0.length ≤ 1048576) (h1 : a1.length ≤ 1048576) : Vz.sh a0 a1 = some (yc a0 a1) := by
 unfold Vz.sh
 simp only [h0, h1, decide_true, cond_true, XO a0 vB a1, Option.bind_some]; rfl
theorem yG {p : List UInt8} (h : qE p = true) : p.length ≤ 1048576 := by have := JD h; omega
end Go.UL
