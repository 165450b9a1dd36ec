import Derived.Test.YtfefjaohlhkmaaaGreatDoorxP6
set_option linter.unusedVariables false
set_option linter.unusedSimpArgs false
namespace Go.UL
open Go.RowKit
def qD (l : List Rec) (p : List UInt8) : Int := y8 (fun r => decide (r.path = p)) l
def y4.b1 (a0 : List Rec) (a1 : List UInt8) : Int → Option (Step (Int) (Int) (Unit)) :=
 fun x5_1 => bif (decide (x5_1 < (a0.length : Int))) then (bif inR x5_1 a0.length then (bif (decide (((gt a0 x5_1).path) = a1)) then (some (.ret x5_1)) else (some (.nxt (IntKind.wrap .i64 (x5_1 + 1))))) else none) else (some (.brk ()))
def y4.sh (k : Nat) (a0 : List Rec) (a1 : List UInt8) : Option (Int) :=
  (qp (y4.b1 a0 a1) k 0).bind fun z => match z with | .inl t => some t | .inr _ => some (-1)
theorem y4.eq (a0 : List Rec) (a1 : List UInt8) (h : a0.length ≤ 1048576) : ∃ k, y4.sh k a0 a1 = some (qD a0 a1) := by
 refine ⟨a0.length + 1, ?_⟩
 unfold y4.sh qD
 rw [findI_run (fun r : Rec => decide (r.path = a1)) a0 (y4.b1 a0 a1) (fun i hi => by
  simp only [y4.b1, yY, hi, decide_true, cond_true, qV hi, vZ, vr hi (by omega)]
  rfl) (by simp [y4.b1])]
 by_cases hm : y8 (fun r : Rec => decide (r.path = a1)) a0 = -1
 ·simp [hm]
 ·simp [hm]
def yO.sh (a0 : List Rec) : Option (Bool) :=
 some (decide (4096 < (a0.length : Int)))
theorem yO.eq (a0 : List Rec) : yO.sh a0 = some (decide (4096 < a0.length)) := by
 have : (4096 : Int) < (a0.length : Int) ↔ 4096 < a0.length := by omega
 simp [yO.sh, this]
def Vt.sh (a0 : Rec) (a1 : List UInt8) : Option (Bool) :=
 some (decide (a0.path = a1))
theorem Vt.eq (a0 : Rec) (a1 : List UInt8) : Vt.sh a0 a1 = some (decide (a0.path = a1)) := rfl
def vg.b1 (a0 : List Rec) (a1 : Rec → Option Bool) : Int → Option (Step (Int) (Int) (Unit)) :=
 fun x8_1 => bif (decide (x8_1 < (a0.length : Int))) then (bif inR x8_1 a0.length then ((a1 (gt a0 x8_1)).bind fun z22 => bif z22 then (some (.ret x8_1)) else (some (.nxt (IntKind.wrap .i64 (x8_1 + 1))))) else none) else (some (.brk ()))
def vg.sh (k : Nat) (a0 : List Rec) (a1 : Rec → Option Bool) : Option (Int) :=
  (qp (vg.b1 a0 a1) k 0).bind fun z => match z with | .inl t => some t | .inr _ => some (-1)
theorem vg.eq (a0 : List Rec) (a1 : Rec → Option Bool) (h : a0.length ≤ 4611686018427387904) {r : Int} (H : Yo a1 a0 = some r) : ∃ k, vg.sh k a0 a1 = some r := by
 refine ⟨a0.length + 1, ?_⟩
 have := Y1 a0 a0.length 0 (by omega) r (by simpa using H) (vg.b1 a0 a1) (fun i hi => by
  simp only [vg.b1, yY, hi, decide_true, cond_true, qV hi, vZ, vr hi h]) (by simp [vg.b1]) (a0.length + 1) (by omega)
 simp only [Int.natCast_zero] at this
 unfold vg.sh
 rw [this]
 by_cases hr : r = -1
 ·simp [hr]
 ·simp [hr]
def QT.sh (a0 : List Rec) (a1 : List UInt8) : Option (Int) :=
 bif decide (a0.length ≤ 4611686018427387904) then (((Yo (fun (x0_ : Rec) => some (decide (x0_.path = a1))) a0)).bind fun z12 => some z12) else none
theorem QT.eq (a0 : List Rec) (a1 : List UInt8) (h : a0.length ≤ 1048576) : QT.sh a0 a1 = some (qD a0 a1) := by
 have h1 : a0.length ≤ 4611686018427387904 := by omega
 have h2 := Yr (p := fun (x0_ : Rec) => some (decide (x0_.path = a1))) (q := fun r => decide (r.path = a1)) (l := a0) (fun _ _ => rfl)
 simp only [QT.sh, h1, decide_true, cond_true, h2, Option.bind_some, qD]
theorem eq_run {α : Type} [DecidableEq α] [Inhabited α] (a b : List α) (f : Int → Option (Step Bool Int Unit)) (hl : a.length = b.length)
  (hb : ∀ i : Nat, i < a.length → f i = some (if a.getD i default = b.getD i default then .nxt ((i : Int) + 1) else .ret false)) (hn : f a.length = some (.brk ())) :
  qp f (a.length + 1) 0 = some (if a = b then .inr () else .inl false) := by
 have hb' : ∀ i : Nat, i < a.length → f i = some (sc (if !decide (a.getD i default = b.getD i default) then some false else none : Option Bool) ((i : Int) + 1)) := by
  intro i hi
  rw [hb i hi]
  by_cases he : a.getD i default = b.getD i default
  ·simp only [he, if_true, decide_true, Bool.not_true, Bool.false_eq_true, if_false, Y9]
  ·simp only [he, if_false, decide_false, Bool.not_false, if_true, Jc]
 rw [jw a.length _ hb' hn (a.length + 1) (by omega), Xc a b hl]
 by_cases he : a = b <;> simp [he]
def yE.b1 (a0 : List Rec) (a1 : List Rec) : Int → Option (Step (Bool) (Int) (Unit)) :=
 fun x13_2 => bif (decide (x13_2 < (a0.length : Int))) then (bif inR x13_2 a0.length then (bif inR x13_2 a1.length then (bif (!decide ((gt a0 x13_2) = (gt a1 x13_2))) then (some (.ret false)) else (some (.nxt (IntKind.wrap .i64 (x13_2 + 1))))) else none) else none) else (some (.brk ()))
def yE.sh (k : Nat) (a0 : List Rec) (a1 : List Rec) : Option (Bool) :=
  bif (!decide ((a0.length : Int) = (a1.length : Int))) then (some false) else ((qp (yE.b1 a0 a1) k 0).bind fun z => match z with | .inl t => some t | .inr _ => some true)
theorem yE.eq (a0 a1 : List Rec) (h : a0.length ≤ 1048576) : ∃ k, yE.sh k a0 a1 = some (decide (a0 = a1)) := by
 refine ⟨a0.length + 1, ?_⟩
 unfold yE.sh
 by_cases hl : a0.length = a1.length
 ·rw [eq_run a0 a1 (yE.b1 a0 a1) hl (fun i hi => by
   have hi2 : i < a1.length := by omega
   simp only [yE.b1, yY, hi, decide_true, cond_true, qV hi, qV hi2, vZ, vr hi (by omega)]
   by_cases he : a0.getD i default = a1.getD i default
   ·simp only [he, decide_true, Bool.not_true, cond_false, if_true]
   ·simp only [he, decide_false, Bool.not_false, cond_true, if_false]) (by simp [yE.b1])]
  have : (a0.length : Int) = (a1.length : Int) := by omega
  by_cases he : a0 = a1 <;> simp [this, he]
 ·have h1 : ¬ (a0.length : Int) = (a1.length : Int) := by omega
  have h2 : a0 ≠ a1 := fun e => hl (by rw [e])
  simp [h1, h2]
def ju (l : List Rec) (i : Nat) : Int :=
 if i = 16 then 6 else if qx (l.getD i default) ≠ 0 then qx (l.getD i default)
 else if 0 < i ∧ (l.getD i default).path = (l.getD (i - 1) default).path then 18
 else if 0 < i ∧ vw (cut 47 (l.getD (i - 1) default).path) (cut 47 (l.getD i default).path) = false then 11
 else if qc (l.getD i default).path = [] then 0
 else if qD (l.take i) (qc (l.getD i default).path) < 0 then 12
 else if (gt l (qD (l.take i) (qc (l.getD i default).path))).kind ≠ 3 then 13 else 0
def qv (l : List Rec) : Int × Int := match (List.range l.length).findSome? (fun i => if ju l i = 0 then none else some ((i : Int), ju l i)) with
 | some x => x
 | none => (0, 0)
def qU (l : List Rec) : Int × Int := if 4096 < l.length then (0, 2) else qv l
theorem YR {α : Type} [Inhabited α] (l : List α) (i : Nat) : gt l (i : Int) = l.getD i default := rfl
theorem XA {l : List Rec} {i : Nat} (h : i < l.length) : l.getD i default ∈ l := by
 have : l.getD i default = l[i] := by simp [List.getD_eq_getElem?_getD, List.getElem?_eq_getElem h]
 rw [this]; exact List.getElem_mem h
theorem X1 {l : List Rec} {p : List UInt8} {i : Nat} (hi : i ≤ l.length) (h : ¬ qD (l.take i) p < 0) : inR (qD (l.take i) p) l.length = true := by
 have h1 : qD (l.take i) p < (l.take i).length := JE _ _
 have h2 : (l.take i).length ≤ i := by simp; omega
 exact Q4 (by omega) (by omega)
def vP.b1 (a0 : List Rec) : Int → Option (Step (Int × Int) (Int) (Unit)) :=
 fun x4_1 => bif (decide (x4_1 < (a0.length : Int))) then (bif (decide (x4_1 = 16)) then (some (.ret (x4_1, 6))) else (bif inR x4_1 a0.length then (bif (!decide ((qx (gt a0 x4_1)) = 0)) then (some (.ret (x4_1, (qx (gt a0 x4_1))))) else (bif (!(decide (0 < x4_1)) || (inR x4_1 a0.length)) then (bif (!(decide (0 < x4_1)) || (inR (IntKind.wrap .i64 (x4_1 - 1)) a0.length)) then (bif ((decide (0 < x4_1)) && (decide (((gt a0 x4_1).path) = ((gt a0 (IntKind.wrap .i64 (x4_1 - 1))).path)))) then (some (.ret (x4_1, 18))) else (bif (!(decide (0 < x4_1)) || (inR (IntKind.wrap .i64 (x4_1 - 1)) a0.length)) then (bif (!(decide (0 < x4_1)) || (inR x4_1 a0.length)) then (bif (!(decide (0 < x4_1)) || (decide (((gt a0 (IntKind.wrap .i64 (x4_1 - 1))).path).length ≤ 1048576))) then (bif (!(decide (0 < x4_1)) || (decide (((gt a0 x4_1).path).length ≤ 1048576))) then (bif ((decide (0 < x4_1)) && (!(vw (cut 47 ((gt a0 (IntKind.wrap .i64 (x4_1 - 1))).path)) (cut 47 ((gt a0 x4_1).path))))) then (some (.ret (x4_1, 11))) else (bif inR x4_1 a0.length then (bif decide (((gt a0 x4_1).path).length ≤ 4611686018427387904) then (bif (decide ((qc ((gt a0 x4_1).path)) = ([] : List UInt8))) then (some (.nxt (IntKind.wrap .i64 (x4_1 + 1)))) else (bif inS 0 x4_1 (a0.length : Int) then (bif decide ((sub a0 0 x4_1).length ≤ 1048576) then (bif (decide ((qD (sub a0 0 x4_1) (qc ((gt a0 x4_1).path))) < 0)) then (some (.ret (x4_1, 12))) else (bif inR (qD (sub a0 0 x4_1) (qc ((gt a0 x4_1).path))) a0.length then (bif (!decide (((gt a0 (qD (sub a0 0 x4_1) (qc ((gt a0 x4_1).path)))).kind) = 3)) then (some (.ret (x4_1, 13))) else (some (.nxt (IntKind.wrap .i64 (x4_1 + 1))))) else none)) else none) else none)) else none) else none)) else none) else none) else none) else none)) else none) else none)) else none)) else (some (.brk ()))
def vP.sh (k : Nat) (a0 : List Rec) : Option (Int × Int) :=
  (qp (vP.b1 a0) k 0).bind fun z => match z with | .inl t => some t | .inr _ => some (0, 0)
theorem vP.eq (a0 : List Rec) (h0 : a0.length ≤ 1048576) (h1 : ∀ x ∈ a0, x.path.length ≤ 1048576) : ∃ k, vP.sh k a0 = some ((qv a0).1, (qv a0).2) := by
 refine ⟨a0.length + 1, ?_⟩
 unfold vP.sh
 have hb : ∀ i : Nat, i < a0.length → vP.b1 a0 i = some (sc (if ju a0 i = 0 then none else some ((i : Int), ju a0 i) : Option (Int × Int)) ((i : Int) + 1)) := by
  intro i hi
  have hp := h1 _ (XA hi)
  have hp2 : (a0.getD i default).path.length ≤ 4611686018427387904 := by omega
  simp only [vP.b1, yY, hi, decide_true, cond_true, qV hi, YR, vr hi (by omega), Bool.or_true, hp, hp2]
  have e16 : decide ((i : Int) = 16) = decide (i = 16) := by rw [decide_eq_decide]; omega
  rw [e16]
  unfold ju
  obtain ⟨r, hr⟩ : ∃ r, a0.getD i default = r := ⟨_, rfl⟩
  simp only [hr] at hp hp2 ⊢
  by_cases h16 : i = 16
  ·subst h16; simp
  ·simp only [h16, decide_false, cond_false, if_false]
   by_cases hf : qx r = 0
   ·simp only [hf, decide_true, Bool.not_true, cond_false, ne_eq, not_true_eq_false, if_false]
    by_cases hz : i = 0
    ·subst hz
     simp only [Int.natCast_zero, Int.lt_irrefl, decide_false, Bool.not_false, Bool.true_or, cond_true, Bool.false_and, cond_false, Nat.lt_irrefl, false_and, if_false]
     by_cases hpp : qc r.path = []
     ·simp [hpp]
     ·simp only [hpp, decide_false, cond_false, if_false]
      have hs : sub a0 0 ((0 : Nat) : Int) = a0.take 0 := rfl
      simp only [Int.natCast_zero] at hs
      rw [Vg (l := 0) (h := 0) (n := (a0.length : Int)) (by omega) (by omega) (by omega)]
      simp only [hs]
      simp [qD, y8]
    ·have hi1 : i - 1 < a0.length := by omega
     have hw : IntKind.wrap .i64 ((i : Int) - 1) = ((i - 1 : Nat) : Int) := by rw [wrap_small (by omega) (by omega)]; omega
     have hpos : (0 : Int) < (i : Int) := by omega
     have hpos' : 0 < i := by omega
     have hp3 := h1 _ (XA hi1)
     simp only [hw, YR, qV hi1, hpos, hpos', hp3, decide_true, Bool.not_true, Bool.false_or, Bool.or_true, cond_true, Bool.true_and, true_and]
     obtain ⟨q, hq0⟩ : ∃ q, a0.getD (i - 1) default = q := ⟨_, rfl⟩
     simp only [hq0]
     by_cases hq : r.path = q.path
     ·simp [hq]
     ·simp only [hq, decide_false, cond_false, if_false]
      cases hL : vw (cut 47 q.path) (cut 47 r.path) with
      | false => simp
      | true =>
       simp only [Bool.not_true, cond_false, Bool.true_eq_false, if_false]
       by_cases hpp : qc r.path = []
       ·simp [hpp]
       ·simp only [hpp, decide_false, cond_false, if_false]
        have hs : sub a0 0 (i : Int) = a0.take i := by simp [sub]
        have hl : (a0.take i).length ≤ 1048576 := by simp; omega
        rw [Vg (l := 0) (h := (i : Int)) (n := (a0.length : Int)) (by omega) (by omega) (by omega)]
        simp only [hs, cond_true, hl, decide_true]
        by_cases hk : qD (a0.take i) (qc r.path) < 0
        ·simp [hk]
        ·simp only [hk, decide_false, cond_false, if_false, X1 (Nat.le_of_lt hi) hk, cond_true]
         by_cases hd : (gt a0 (qD (a0.take i) (qc r.path))).kind = 3
         ·simp [hd]
         ·simp [hd]
   ·simp [hf]
 have hn : vP.b1 a0 a0.length = some (.brk ()) := by simp [vP.b1]
 rw [jw a0.length _ hb hn _ (by omega)]
 unfold qv
 cases (List.range a0.length).findSome? _ <;> rfl
theorem len4096 (l : List Rec) : decide ((4096 : Int) < (l.length : Int)) = decide (4096 < l.length) := by rw [decide_eq_decide]; omega
def jU.sh (a0 : List Rec) : Option (Bool) :=
 bif decide (a0.length ≤ 1048576) then (bif decide (∀ x ∈ a0, x.path.length ≤ 1048576) then (some (decide (((qv a0).2) = 0))) else none) else none
theorem jU.eq (a0 : List Rec) (h0 : a0.length ≤ 1048576) (h1 : ∀ x ∈ a0, x.path.length ≤ 1048576) : jU.sh a0 = some (decide ((qv a0).2 = 0)) := by
 simp only [jU.sh, h0, decide_true, cond_true, decide_eq_true h1]
def faultAt (l : List Rec) (i : Int) : Int :=
 if 16 ≤ i then 6 else if qx (gt l i) ≠ 0 then qx (gt l i) else if 0 < i ∧ (gt l (i - 1)).path = (gt l i).path then 18
 else if 0 < i ∧ vM (gt l (i - 1)).path (gt l i).path = false then 11 else if qc (gt l i).path = [] then 0
 else if qD (l.take i.toNat) (qc (gt l i).path) < 0 then 12 else if (gt l (qD (l.take i.toNat) (qc (gt l i).path))).kind ≠ 3 then 13 else 0
def qy.sh (a0 : List Rec) (a1 : Int) : Option (Int) :=
  bif inR a1 a0.length then (bif decide (((gt a0 a1).path).length ≤ 1048576) then ((bif (!decide ((qc ((gt a0 a1).path)) = ([] : List UInt8))) then (bif inS 0 a1 (a0.length : Int) then (bif decide ((sub a0 0 a1).length ≤ 1048576) then (some (.inr (qD (sub a0 0 a1) (qc ((gt a0 a1).path))))) else none) else none) else (some (.inr 0)) : Option ((Int) ⊕ (Int))).bind fun z => match z with | .inl t => some t | .inr x6_19 => bif (!(decide (0 < a1)) || (inR (if ((IntKind.wrap .i64 (a1 - 1)) < 0 : Prop) then 0 else (IntKind.wrap .i64 (a1 - 1))) a0.length)) then (bif (!(decide (0 < a1)) || (inR (if ((IntKind.wrap .i64 (a1 - 1)) < 0 : Prop) then 0 else (IntKind.wrap .i64 (a1 - 1))) a0.length)) then (bif decide (((gt a0 a1).path).length ≤ 1048576) then (bif (!(!decide ((qc ((gt a0 a1).path)) = ([] : List UInt8))) || (inR (if (x6_19 < 0 : Prop) then 0 else x6_19) a0.length)) then (bif decide (([.inl (!(decide (qx (gt a0 a1) = 0))), .inr (qx (gt a0 a1)), .inl ((decide (0 < a1)) && (decide (((gt a0 (if ((IntKind.wrap .i64 (a1 - 1)) < 0 : Prop) then 0 else (IntKind.wrap .i64 (a1 - 1)))).path) = ((gt a0 a1).path)))), .inr 18, .inl ((decide (0 < a1)) && (!(vM ((gt a0 (if ((IntKind.wrap .i64 (a1 - 1)) < 0 : Prop) then 0 else (IntKind.wrap .i64 (a1 - 1)))).path) ((gt a0 a1).path)))), .inr 11, .inl (decide (x6_19 < 0)), .inr 12, .inl ((!decide ((qc ((gt a0 a1).path)) = ([] : List UInt8))) && (!decide (((gt a0 (if (x6_19 < 0 : Prop) then 0 else x6_19)).kind) = 3))), .inr 13] : List (Bool ⊕ Int)).length ≤ 4611686018427387904) then (bif decide (([.inl (decide (16 ≤ a1)), .inr 6, .inl true, .inr (vX ([.inl (!(decide (qx (gt a0 a1) = 0))), .inr (qx (gt a0 a1)), .inl ((decide (0 < a1)) && (decide (((gt a0 (if ((IntKind.wrap .i64 (a1 - 1)) < 0 : Prop) then 0 else (IntKind.wrap .i64 (a1 - 1)))).path) = ((gt a0 a1).path)))), .inr 18, .inl ((decide (0 < a1)) && (!(vM ((gt a0 (if ((IntKind.wrap .i64 (a1 - 1)) < 0 : Prop) then 0 else (IntKind.wrap .i64 (a1 - 1)))).path) ((gt a0 a1).path)))), .inr 11, .inl (decide (x6_19 < 0)), .inr 12, .inl ((!decide ((qc ((gt a0 a1).path)) = ([] : List UInt8))) && (!decide (((gt a0 (if (x6_19 < 0 : Prop) then 0 else x6_19)).kind) = 3))), .inr 13] : List (Bool ⊕ Int)))] : List (Bool ⊕ Int)).length ≤ 4611686018427387904) then (some (vX ([.inl (decide (16 ≤ a1)), .inr 6, .inl true, .inr (vX ([.inl (!(decide (qx (gt a0 a1) = 0))), .inr (qx (gt a0 a1)), .inl ((decide (0 < a1)) && (decide (((gt a0 (if ((IntKind.wrap .i64 (a1 - 1)) < 0 : Prop) then 0 else (IntKind.wrap .i64 (a1 - 1)))).path) = ((gt a0 a1).path)))), .inr 18, .inl ((decide (0 < a1)) && (!(vM ((gt a0 (if ((IntKind.wrap .i64 (a1 - 1)) < 0 : Prop) then 0 else (IntKind.wrap .i64 (a1 - 1)))).path) ((gt a0 a1).path)))), .inr 11, .inl (decide (x6_19 < 0)), .inr 12, .inl ((!decide ((qc ((gt a0 a1).path)) = ([] : List UInt8))) && (!decide (((gt a0 (if (x6_19 < 0 : Prop) then 0 else x6_19)).kind) = 3))), .inr 13] : List (Bool ⊕ Int)))] : List (Bool ⊕ Int)))) else none) else none) else none) else none) else none) else none) else none) else none
theorem JL (b : Bool) (n : Int) (l : List (Bool ⊕ Int)) : vX (.inl b :: .inr n :: l) = if b then n else vX l := rfl
theorem qy.eq (a0 : List Rec) (a1 : Int) (h0 : a0.length ≤ 1048576) (h1 : ∀ x ∈ a0, x.path.length ≤ 1048576) (h2 : inR a1 a0.length = true) : qy.sh a0 a1 = some (faultAt a0 a1) := by
 obtain ⟨i, rfl⟩ : ∃ i : Nat, a1 = i := ⟨a1.toNat, by have := QN h2; omega⟩
 have hi : i < a0.length := by have := Qs h2; omega
 have hp := h1 _ (XA hi)
 obtain ⟨r, hr⟩ : ∃ r, a0.getD i default = r := ⟨_, rfl⟩
 have hs : sub a0 0 (i : Int) = a0.take i := by simp [sub]
 have hl : (a0.take i).length ≤ 1048576 := by simp; omega
 have hm : (if (IntKind.wrap .i64 ((i : Int) - 1) < 0 : Prop) then (0 : Int) else IntKind.wrap .i64 ((i : Int) - 1)) = ((i - 1 : Nat) : Int) := by
  rw [wrap_small (by omega) (by omega)]; split <;> omega
 have hi1 : i - 1 < a0.length := by omega
 obtain ⟨q, hq⟩ : ∃ q, a0.getD (i - 1) default = q := ⟨_, rfl⟩
 have hq2 : ∀ _ : 0 < i, gt a0 ((i : Int) - 1) = q := fun h => by
  have : ((i : Int) - 1) = ((i - 1 : Nat) : Int) := by omega
  rw [this, YR, hq]
 rw [hr] at hp
 have e16 : decide ((16 : Int) ≤ (i : Int)) = decide (16 ≤ i) := by rw [decide_eq_decide]; omega
 have epos : decide ((0 : Int) < (i : Int)) = decide (0 < i) := by rw [decide_eq_decide]; omega
 have e16' : ((16 : Int) ≤ (i : Int)) = (16 ≤ i) := propext (by omega)
 have epos' : ((0 : Int) < (i : Int)) = (0 < i) := propext (by omega)
 unfold qy.sh faultAt
 simp only [qV hi, YR, hr, hp, hs, hl, hm, hq, qV hi1, e16, epos, decide_true, cond_true, Bool.or_true, Int.toNat_natCast, Vg (l := 0) (h := (i : Int)) (n := (a0.length : Int)) (by omega) (by omega) (by omega), JL, List.length_cons, List.length_nil]
 simp only [e16', epos']
 by_cases hpp : qc r.path = []
 ·have h00 : inR (if (0 : Int) < 0 then 0 else 0) a0.length = true := Q4 (by omega) (by simp; omega)
  by_cases c0 : 0 < i
  ·simp only [hq2 c0]
   by_cases c16 : 16 ≤ i <;> by_cases cf : qx r = 0 <;> by_cases cq : q.path = r.path <;> cases cl : vM q.path r.path <;> simp [hpp, c16, cf, cq, cl, c0, vX]
  ·by_cases c16 : 16 ≤ i <;> by_cases cf : qx r = 0 <;> simp [hpp, c16, cf, c0, vX]
 ·by_cases ck : qD (a0.take i) (qc r.path) < 0
  ·have h00 : inR 0 a0.length = true := Q4 (by omega) (by omega)
   by_cases c0 : 0 < i
   ·simp only [hq2 c0]
    by_cases c16 : 16 ≤ i <;> by_cases cf : qx r = 0 <;> by_cases cq : q.path = r.path <;> cases cl : vM q.path r.path <;> simp [hpp, c16, cf, cq, cl, c0, ck, h00]
   ·by_cases c16 : 16 ≤ i <;> by_cases cf : qx r = 0 <;> simp [hpp, c16, cf, c0, ck, h00]
  ·have hk := X1 (Nat.le_of_lt hi) ck
   by_cases cd : (gt a0 (qD (a0.take i) (qc r.path))).kind = 3
   ·by_cases c0 : 0 < i
    ·simp only [hq2 c0]
     by_cases c16 : 16 ≤ i <;> by_cases cf : qx r = 0 <;> by_cases cq : q.path = r.path <;> cases cl : vM q.path r.path <;> simp [hpp, c16, cf, cq, cl, c0, ck, hk, cd, vX]
    ·by_cases c16 : 16 ≤ i <;> by_cases cf : qx r = 0 <;> simp [hpp, c16, cf, c0, ck, hk, cd, vX]
   ·by_cases c0 : 0 < i
    ·simp only [hq2 c0]
     by_cases c16 : 16 ≤ i <;> by_cases cf : qx r = 0 <;> by_cases cq : q.path = r.path <;> cases cl : vM q.path r.path <;> simp [hpp, c16, cf, cq, cl, c0, ck, hk, cd, vX]
    ·by_cases c16 : 16 ≤ i <;> by_cases cf : qx r = 0 <;> simp [hpp, c16, cf, c0, ck, hk, cd, vX]
theorem yg {r : Rec} (h : qx r = 0) : qH r.path = true := by
 unfold qx at h
 split at h
 ·cases h
 ·split at h
  ·cases h
  ·rename_i h2; simpa using h2
theorem codeAt_rec {l : List Rec} {i : Nat} (h : ju l i = 0) : qx (l.getD i default) = 0 := by
 unfold ju at h
 split at h
 ·cases h
 ·split at h
  ·rename_i h1; exact absurd h h1
  ·rename_i h1; simpa using h1
theorem faultAt_code (l : List Rec) (i : Nat) (hp : ∀ j, j < i → ju l j = 0) : faultAt l (i : Int) = ju l i := by
 have h16 : ¬ 16 < i := fun h => by have := hp 16 h; simp [ju] at this
 unfold faultAt ju
 have e : ((16 : Int) ≤ (i : Int)) = (i = 16) := propext (by omega)
 have epos : ((0 : Int) < (i : Int)) = (0 < i) := propext (by omega)
 simp only [e, epos, YR, Int.toNat_natCast]
 by_cases c16 : i = 16
 ·simp [c16]
 ·simp only [c16, if_false]
  obtain ⟨r, hr⟩ : ∃ r, l.getD i default = r := ⟨_, rfl⟩
  simp only [hr]
  by_cases cf : qx r = 0
  ·simp only [cf, ne_eq, not_true_eq_false, if_false]
   by_cases c0 : 0 < i
   ·have hg : gt l ((i : Int) - 1) = l.getD (i - 1) default := by
     have : ((i : Int) - 1) = ((i - 1 : Nat) : Int) := by omega
     rw [this, YR]
    obtain ⟨q, hq⟩ : ∃ q, l.getD (i - 1) default = q := ⟨_, rfl⟩
    have hqok : qH q.path = true := by rw [← hq]; exact yg (codeAt_rec (hp (i - 1) (by omega)))
    have hrok := yg cf
    have e1 : vM q.path r.path = vw (cut 47 q.path) (cut 47 r.path) := by simp [vM, hqok, hrok]
    have e2 : (q.path = r.path) = (r.path = q.path) := propext ⟨Eq.symm, Eq.symm⟩
    simp only [hg, hq, e1, e2, c0, true_and]
   ·simp only [c0, false_and, if_false]
  ·simp only [cf, ne_eq, not_false_eq_true, if_true]
def yR.b1 (a0 : List Rec) : Int → Option (Step (Int × Int) (Int) (Unit)) :=
 fun x8_1 => bif (decide (x8_1 < (a0.length : Int))) then (bif decide (a0.length ≤ 1048576) then (bif decide (∀ x ∈ a0, x.path.length ≤ 1048576) then (bif decide (inR x8_1 a0.length = true) then (bif (!decide ((faultAt a0 x8_1) = 0)) then (some (.ret (x8_1, (faultAt a0 x8_1)))) else (some (.nxt (IntKind.wrap .i64 (x8_1 + 1))))) else none) else none) else none) else (some (.brk ()))
def yR.sh (k : Nat) (a0 : List Rec) : Option (Int × Int) :=
  (qp (yR.b1 a0) k 0).bind fun z => match z with | .inl t => some t | .inr _ => some (0, 0)
theorem yR.eq (a0 : List Rec) (h0 : a0.length ≤ 1048576) (h1 : ∀ x ∈ a0, x.path.length ≤ 1048576) : ∃ k, yR.sh k a0 = some ((qv a0).1, (qv a0).2) := by
 refine ⟨a0.length + 1, ?_⟩
 unfold yR.sh
 have hb : ∀ i : Nat, i < a0.length → yR.b1 a0 i = some (sc (if faultAt a0 i = 0 then none else some ((i : Int), faultAt a0 i) : Option (Int × Int)) ((i : Int) + 1)) := by
  intro i hi
  simp only [yR.b1, yY, hi, decide_true, cond_true, qV hi, h0, decide_eq_true h1, vr hi (by omega)]
  by_cases hf : faultAt a0 i = 0 <;> simp [hf]
 have hn : yR.b1 a0 a0.length = some (.brk ()) := by simp [yR.b1]
 rw [jw a0.length _ hb hn _ (by omega)]
 have hag := find_agree_lt (f := fun i => if ju a0 i = 0 then none else some ((i : Int), ju a0 i)) (g := fun i => if faultAt a0 i = 0 then none else some ((i : Int), faultAt a0 i)) a0.length a0.length 0 (by omega) (fun j hj => by omega) (fun i _ hp => by
  have : faultAt a0 i = ju a0 i := faultAt_code a0 i fun j hj => by
   have := hp j hj
   by_cases h : ju a0 j = 0
   ·exact h
   ·simp [h] at this
  simp only [this])
 rw [List.range_eq_range', hag, ← List.range_eq_range']
 unfold qv
 cases (List.range a0.length).findSome? _ <;> rfl
def y6.sh (a0 : List Rec) : Option (Int × Int) :=
 bif (decide (4096 < a0.length)) then (some (0, 2)) else (bif decide (a0.length ≤ 1048576) then (bif decide (∀ x ∈ a0, x.path.length ≤ 1048576) then (some ((qv a0).1, (qv a0).2)) else none) else none)
theorem y6.eq (a0 : List Rec) (h0 : a0.length ≤ 1048576) (h1 : ∀ x ∈ a0, x.path.length ≤ 1048576) : y6.sh a0 = some ((qU a0).1, (qU a0).2) := by
 unfold y6.sh qU
 by_cases h : 4096 < a0.length
 ·simp [h]
 ·simp only [h, h0, decide_false, decide_true, cond_false, cond_true, if_false, decide_eq_true h1]
def jv.sh (a0 : List Rec) : Option (Bool) :=
 bif decide (a0.length ≤ 1048576) then (bif decide (∀ x ∈ a0, x.path.length ≤ 1048576) then (some (decide (((qU a0).2) = 0))) else none) else none
theorem jv.eq (a0 : List Rec) (h0 : a0.length ≤ 1048576) (h1 : ∀ x ∈ a0, x.path.length ≤ 1048576) : jv.sh a0 = some (decide ((qU a0).2 = 0)) := by
 simp only [jv.sh, h0, decide_true, cond_true, decide_eq_true h1]
theorem findR_in {l : List Rec} {p : List UInt8} (h : ¬ qD l p < 0) : inR (qD l p) l.length = true := (findI_get _ l (by unfold qD at h; omega)).1
def vd (l : List Nd) (p : List UInt8) : Int := y8 (fun r => decide (r.path = p)) l
def jo.b1 (a0 : List Nd) (a1 : List UInt8) : Int → Option (Step (Int) (Int) (Unit)) :=
 fun x5_1 => bif (decide (x5_1 < (a0.length : Int))) then (bif inR x5_1 a0.length then (bif (decide (((gt a0 x5_1).path) = a1)) then (some (.ret x5_1)) else (some (.nxt (IntKind.wrap .i64 (x5_1 + 1))))) else none) else (some (.brk ()))
def jo.sh (k : Nat) (a0 : List Nd) (a1 : List UInt8) : Option (Int) :=
  (qp (jo.b1 a0 a1) k 0).bind fun z => match z with | .inl t => some t | .inr _ => some (-1)
theorem jo.eq (a0 : List Nd) (a1 : List UInt8) (h : a0.length ≤ 1048576) : ∃ k, jo.sh k a0 a1 = some (vd a0 a1) := by
 refine ⟨a0.length + 1, ?_⟩
 unfold jo.sh vd
 rw [findI_run (fun r : Nd => decide (r.path = a1)) a0 (jo.b1 a0 a1) (fun i hi => by
  simp only [jo.b1, yY, hi, decide_true, cond_true, qV hi, vZ, vr hi (by omega)]
  rfl) (by simp [jo.b1])]
 by_cases hm : y8 (fun r : Nd => decide (r.path = a1)) a0 = -1
 ·simp [hm]
 ·simp [hm]
def Ys.sh (a0 : Nd) (a1 : List UInt8) : Option (Bool) :=
 some (decide (a0.path = a1))
theorem Ys.eq (a0 : Nd) (a1 : List UInt8) : Ys.sh a0 a1 = some (decide (a0.path = a1)) := rfl
def vb.b1 (a0 : List Nd) (a1 : Nd → Option Bool) : Int → Option (Step (Int) (Int) (Unit)) :=
 fun x8_1 => bif (decide (x8_1 < (a0.length : Int))) then (bif inR x8_1 a0.length then ((a1 (gt a0 x8_1)).bind fun z22 => bif z22 then (some (.ret x8_1)) else (some (.nxt (IntKind.wrap .i64 (x8_1 + 1))))) else none) else (some (.brk ()))
def vb.sh (k : Nat) (a0 : List Nd) (a1 : Nd → Option Bool) : Option (Int) :=
  (qp (vb.b1 a0 a1) k 0).bind fun z => match z with | .inl t => some t | .inr _ => some (-1)
theorem vb.eq (a0 : List Nd) (a1 : Nd → Option Bool) (h : a0.length ≤ 4611686018427387904) {r : Int} (H : Yo a1 a0 = some r) : ∃ k, vb.sh k a0 a1 = some r := by
 refine ⟨a0.length + 1, ?_⟩
 have := Y1 a0 a0.length 0 (by omega) r (by simpa using H) (vb.b1 a0 a1) (fun i hi => by
  simp only [vb.b1, yY, hi, decide_true, cond_true, qV hi, vZ, vr hi h]) (by simp [vb.b1]) (a0.length + 1) (by omega)
 simp only [Int.natCast_zero] at this
 unfold vb.sh
 rw [this]
 by_cases hr : r = -1
 ·simp [hr]
 ·simp [hr]
def YM.sh (a0 : List Nd) (a1 : List UInt8) : Option (Int) :=
 bif decide (a0.length ≤ 4611686018427387904) then (((Yo (fun (x0_ : Nd) => some (decide (x0_.path = a1))) a0)).bind fun z12 => some z12) else none
theorem YM.eq (a0 : List Nd) (a1 : List UInt8) (h : a0.length ≤ 1048576) : YM.sh a0 a1 = some (vd a0 a1) := by
 have h1 : a0.length ≤ 4611686018427387904 := by omega
 have h2 := Yr (p := fun (x0_ : Nd) => some (decide (x0_.path = a1))) (q := fun r => decide (r.path = a1)) (l := a0) (fun _ _ => rfl)
 simp only [YM.sh, h1, decide_true, cond_true, h2, Option.bind_some, vd]
def QQ (n : Nd) : Rec := ⟨n.kind, n.path, n.body, n.mode, false⟩
def jP (r : Rec) : Nd := ⟨r.kind, r.path, r.body, r.mode⟩
def nodeOK (n : Nd) : Bool := decide (qx (QQ n) = 0) && !decide (n.kind = 4)
def Q1 (t : List Nd) (p : List UInt8) : Bool := decide (p = []) || (decide (0 ≤ vd t p) && decide ((gt t (vd t p)).kind = 3))
def jY (l : List Nd) (i : Nat) : Bool :=
 nodeOK (l.getD i default) && (decide (i = 0) || vw (cut 47 (l.getD (i - 1) default).path) (cut 47 (l.getD i default).path)) && Q1 (l.take i) (qc (l.getD i default).path)
def jO (l : List Nd) : Bool := decide (l.length ≤ 24) && (List.range l.length).all (jY l)
theorem XG (n : Nat) (bad : Nat → Bool) : (List.range n).findSome? (fun i => if bad i then some false else none) = if (List.range n).all (fun i => !bad i) then none else some false := by
 generalize List.range n = l
 induction l with
 | nil => rfl
 | cons x l ih =>
  rcases ql (bad x) with hb | hb
  ·simp [hb]
  ·have : List.findSome? (fun i => if bad i = true then some false else none) (x :: l) = List.findSome? (fun i => if bad i = true then some false else none) l := by simp [hb]
   rw [this, ih]
   simp [hb]
theorem Q2 {n : Nd} (h : nodeOK n = true) : qH n.path = true := by
 simp only [nodeOK, Bool.and_eq_true, decide_eq_true_eq] at h
 exact yg h.1
theorem gtake {α : Type} [Inhabited α] (l : List α) (i : Nat) (k : Int) (h0 : 0 ≤ k) (h : k < (l.take i).length) : gt (l.take i) k = gt l k := by
 obtain ⟨n, rfl⟩ : ∃ n : Nat, k = n := ⟨k.toNat, by omega⟩
 have : n < i ∧ n < l.length := by simp at h; omega
 simp only [vZ, List.getD_eq_getElem?_getD, List.getElem?_take, this.1, if_true]
theorem JB (l : List Nd) (p : List UInt8) : vd l p < l.length := JE _ _
theorem findN_take {l : List Nd} {p : List UInt8} {i : Nat} (hi : i ≤ l.length) (h : ¬ vd (l.take i) p < 0) : inR (vd (l.take i) p) l.length = true := by
 have h1 := JB (l.take i) p
 have h2 : (l.take i).length ≤ i := by simp; omega
 exact Q4 (by omega) (by omega)
theorem getN_mem {l : List Nd} {i : Nat} (h : i < l.length) : l.getD i default ∈ l := by
 have : l.getD i default = l[i] := by simp [List.getD_eq_getElem?_getD, List.getElem?_eq_getElem h]
 rw [this]; exact List.getElem_mem h
def QD.sh (a0 : Nd) : Option (Rec) :=
 some (⟨a0.kind, a0.path, a0.body, a0.mode, false⟩ : Rec)
theorem QD.eq (a0 : Nd) : QD.sh a0 = some (QQ a0) := rfl
def qN.b1 (a0 : List Nd) : Int → Option (Step (Bool) (Int) (Unit)) :=
 fun x3_2 => bif (decide (x3_2 < (a0.length : Int))) then (bif inR x3_2 a0.length then (bif (!(!(decide (((gt a0 x3_2).kind) = 4))) || (inR x3_2 a0.length)) then (bif (!((!((decide (((gt a0 x3_2).kind) = 4)) || (!(decide (qx (QQ (gt a0 x3_2)) = 0))))) && (decide (0 < x3_2))) || (inR (IntKind.wrap .i64 (x3_2 - 1)) a0.length)) then (bif (!((!((decide (((gt a0 x3_2).kind) = 4)) || (!(decide (qx (QQ (gt a0 x3_2)) = 0))))) && (decide (0 < x3_2))) || (inR x3_2 a0.length)) then (bif (!((!((decide (((gt a0 x3_2).kind) = 4)) || (!(decide (qx (QQ (gt a0 x3_2)) = 0))))) && (decide (0 < x3_2))) || (decide (((gt a0 (IntKind.wrap .i64 (x3_2 - 1))).path).length ≤ 1048576))) then (bif (!((!((decide (((gt a0 x3_2).kind) = 4)) || (!(decide (qx (QQ (gt a0 x3_2)) = 0))))) && (decide (0 < x3_2))) || (decide (((gt a0 x3_2).path).length ≤ 1048576))) then (bif (((decide (((gt a0 x3_2).kind) = 4)) || (!(decide (qx (QQ (gt a0 x3_2)) = 0)))) || ((decide (0 < x3_2)) && (!(vw (cut 47 ((gt a0 (IntKind.wrap .i64 (x3_2 - 1))).path)) (cut 47 ((gt a0 x3_2).path)))))) then (some (.ret false)) else (bif inR x3_2 a0.length then (bif decide (((gt a0 x3_2).path).length ≤ 4611686018427387904) then (bif (!decide ((qc ((gt a0 x3_2).path)) = ([] : List UInt8))) then (bif inS 0 x3_2 (a0.length : Int) then (bif decide ((sub a0 0 x3_2).length ≤ 1048576) then (((bif (decide ((vd (sub a0 0 x3_2) (qc ((gt a0 x3_2).path))) < 0)) then some true else (bif inR (vd (sub a0 0 x3_2) (qc ((gt a0 x3_2).path))) a0.length then (some (!decide (((gt a0 (vd (sub a0 0 x3_2) (qc ((gt a0 x3_2).path)))).kind) = 3))) else none))).bind fun z103 => bif z103 then (some (.ret false)) else (some (.nxt (IntKind.wrap .i64 (x3_2 + 1))))) else none) else none) else (some (.nxt (IntKind.wrap .i64 (x3_2 + 1))))) else none) else none)) else none) else none) else none) else none) else none) else none) else (some (.brk ()))
def qN.sh (k : Nat) (a0 : List Nd) : Option (Bool) :=
  bif (decide (24 < (a0.length : Int))) then (some false) else ((qp (qN.b1 a0) k 0).bind fun z => match z with | .inl t => some t | .inr _ => some true)
theorem qN.eq (a0 : List Nd) (h1 : ∀ x ∈ a0, x.path.length ≤ 1048576) : ∃ k, qN.sh k a0 = some (jO a0) := by
  refine ⟨a0.length + 1, ?_⟩
  unfold qN.sh
  by_cases hl : a0.length ≤ 24
  · have hl' : ¬ (24 : Int) < (a0.length : Int) := by omega
    simp only [hl', decide_false, cond_false]
    have hb : ∀ i : Nat, i < a0.length → qN.b1 a0 i = some (sc (if !jY a0 i then some false else none : Option Bool) ((i : Int) + 1)) := by
      intro i hi
      have hp := h1 _ (getN_mem hi)
      have hp2 : (a0.getD i default).path.length ≤ 4611686018427387904 := by omega
      have hs : sub a0 0 ((i : Nat) : Int) = a0.take i := by simp [sub]
      have hle : (a0.take i).length ≤ 1048576 := by simp; omega
      simp only [qN.b1, yY, hi, decide_true, cond_true, qV hi, YR, vr hi (by omega), Bool.or_true, hp, hp2, hs, hle, Vg (l := 0) (h := (i : Int)) (n := (a0.length : Int)) (by omega) (by omega) (by omega)]
      unfold jY Q1 nodeOK
      obtain ⟨r, hr⟩ : ∃ r, a0.getD i default = r := ⟨_, rfl⟩
      simp only [hr] at hp hp2 ⊢
      cases c4 : decide (r.kind = 4) with
      | true => simp
      | false =>
        by_cases cf : qx (QQ r) = 0
        · have key : ∀ q : Nd, (bif (decide (0 < (i : Int)) && !vw (cut 47 q.path) (cut 47 r.path)) then some (Step.ret false) else
              bif !decide (qc r.path = []) then
                ((bif decide (vd (a0.take i) (qc r.path) < 0) then some true else bif inR (vd (a0.take i) (qc r.path)) a0.length then some (!decide ((gt a0 (vd (a0.take i) (qc r.path))).kind = 3)) else none).bind fun z => bif z then some (Step.ret false) else some (Step.nxt ((i : Int) + 1)))
              else some (Step.nxt ((i : Int) + 1))) =
              some (sc (if !((decide (i = 0) || vw (cut 47 q.path) (cut 47 r.path)) && (decide (qc r.path = []) || (decide (0 ≤ vd (a0.take i) (qc r.path)) && decide ((gt (a0.take i) (vd (a0.take i) (qc r.path))).kind = 3)))) then some false else none : Option Bool) ((i : Int) + 1) : Step Bool Int Unit) := by
            intro q
            have e0 : decide (0 < (i : Int)) = !decide (i = 0) := by by_cases h : i = 0 <;> simp [h]; omega
            rw [e0]
            cases vw (cut 47 q.path) (cut 47 r.path) <;> cases decide (i = 0) <;> try simp
            all_goals
              by_cases hpp : qc r.path = []
              · simp [hpp]
              · by_cases hk : vd (a0.take i) (qc r.path) < 0
                · have hk2 : ¬ 0 ≤ vd (a0.take i) (qc r.path) := by omega
                  simp [hpp, hk, hk2]
                · have hk2 : 0 ≤ vd (a0.take i) (qc r.path) := by omega
                  rw [gtake a0 i _ hk2 (JB _ _)]
                  by_cases h3 : (gt a0 (vd (a0.take i) (qc r.path))).kind = 3 <;> simp [hpp, hk, hk2, findN_take (by omega : i ≤ a0.length) hk, h3]
          by_cases hz : i = 0
          · subst hz
            have := key default
            simpa [cf] using this
          · have hi1 : i - 1 < a0.length := by omega
            have hw : IntKind.wrap .i64 ((i : Int) - 1) = ((i - 1 : Nat) : Int) := by rw [wrap_small (by omega) (by omega)]; omega
            have hp3 := h1 _ (getN_mem hi1)
            have := key (a0.getD (i - 1) default)
            simp only [hw, YR, qV hi1, hp3, cf, decide_true, Bool.not_true, Bool.or_true, Bool.or_false, Bool.false_or, cond_true, cond_false, Bool.not_false, Bool.true_and]
            exact this
        · simp [cf]
    rw [jw a0.length _ hb (by simp [qN.b1]) _ (by omega), XG]
    have e : (fun i => !!jY a0 i) = jY a0 := by funext i; simp
    simp only [jO, hl, decide_true, Bool.true_and, e]
    cases (List.range a0.length).all (jY a0) <;> simp
  · have hl' : (24 : Int) < (a0.length : Int) := by omega
    simp [hl', jO, hl]
def Qb.sh (a0 : Nd) : Option (Rec) :=
 some (⟨a0.kind, a0.path, a0.body, a0.mode, false⟩ : Rec)
theorem Qb.eq (a0 : Nd) : Qb.sh a0 = some (QQ a0) := rfl
def Vx.sh (a0 : Nd) : Option (Bool) :=
 some ((decide (qx (QQ a0) = 0)) && (!decide (a0.kind = 4)))
theorem Vx.eq (a0 : Nd) : Vx.sh a0 = some (nodeOK a0) := rfl
def Vj.sh (a0 : List Nd) (a1 : List UInt8) : Option (Bool) :=
 bif decide (a0.length ≤ 1048576) then (((bif (decide (a1 = ([] : List UInt8))) then some true else (((bif (decide (0 ≤ (vd a0 a1))) then (bif inR (vd a0 a1) a0.length then (some (decide (((gt a0 (vd a0 a1)).kind) = 3))) else none) else some false)).bind fun z6 => some z6))).bind fun z5 => some z5) else none
theorem Vj.eq (a0 : List Nd) (a1 : List UInt8) (h0 : a0.length ≤ 1048576) : Vj.sh a0 a1 = some (Q1 a0 a1) := by
 unfold Vj.sh Q1
 simp only [h0, decide_true, cond_true]
 by_cases hp : a1 = []
 ·simp [hp]
 ·by_cases hk : 0 ≤ vd a0 a1
  ·simp [hp, hk, Q4 hk (JB a0 a1)]
  ·simp [hp, hk]
def qM.b1 (a0 : List Nd) : Int → Option (Step (Bool) (Int) (Unit)) :=
 fun x7_1 => bif (decide (x7_1 < (a0.length : Int))) then (bif inR x7_1 a0.length then (bif (!((!((decide (24 ≤ x7_1)) || (!(nodeOK (gt a0 x7_1))))) && (decide (0 < x7_1))) || (inR (IntKind.wrap .i64 (x7_1 - 1)) a0.length)) then (bif (!(!(((decide (24 ≤ x7_1)) || (!(nodeOK (gt a0 x7_1)))) || ((decide (0 < x7_1)) && (!(vM ((gt a0 (IntKind.wrap .i64 (x7_1 - 1))).path) ((gt a0 x7_1).path)))))) || (inS 0 x7_1 (a0.length : Int))) then (bif (!(!(((decide (24 ≤ x7_1)) || (!(nodeOK (gt a0 x7_1)))) || ((decide (0 < x7_1)) && (!(vM ((gt a0 (IntKind.wrap .i64 (x7_1 - 1))).path) ((gt a0 x7_1).path)))))) || (decide (((gt a0 x7_1).path).length ≤ 1048576))) then (bif (!(!(((decide (24 ≤ x7_1)) || (!(nodeOK (gt a0 x7_1)))) || ((decide (0 < x7_1)) && (!(vM ((gt a0 (IntKind.wrap .i64 (x7_1 - 1))).path) ((gt a0 x7_1).path)))))) || (decide ((sub a0 0 x7_1).length ≤ 1048576))) then (bif ((((decide (24 ≤ x7_1)) || (!(nodeOK (gt a0 x7_1)))) || ((decide (0 < x7_1)) && (!(vM ((gt a0 (IntKind.wrap .i64 (x7_1 - 1))).path) ((gt a0 x7_1).path))))) || (!(Q1 (sub a0 0 x7_1) (qc ((gt a0 x7_1).path))))) then (some (.ret false)) else (some (.nxt (IntKind.wrap .i64 (x7_1 + 1))))) else none) else none) else none) else none) else none) else (some (.brk ()))
def qM.sh (k : Nat) (a0 : List Nd) : Option (Bool) :=
  (qp (qM.b1 a0) k 0).bind fun z => match z with | .inl t => some t | .inr _ => some true
theorem qM.eq (a0 : List Nd) (h0 : a0.length ≤ 1048576) (h1 : ∀ x ∈ a0, x.path.length ≤ 1048576) : ∃ k, qM.sh k a0 = some (jO a0) := by
 refine ⟨a0.length + 1, ?_⟩
 unfold qM.sh
 have hb : ∀ i : Nat, i < a0.length → qM.b1 a0 i = some (sc (if (decide (24 ≤ i) || !nodeOK (a0.getD i default)) || (!decide (i = 0) && !vM (a0.getD (i - 1) default).path (a0.getD i default).path) || !Q1 (a0.take i) (qc (a0.getD i default).path) then some false else none : Option Bool) ((i : Int) + 1)) := by
  intro i hi
  have hp := h1 _ (getN_mem hi)
  have hs : sub a0 0 ((i : Nat) : Int) = a0.take i := by simp [sub]
  have hle : (a0.take i).length ≤ 1048576 := by simp; omega
  have e24 : decide ((24 : Int) ≤ (i : Int)) = decide (24 ≤ i) := by rw [decide_eq_decide]; omega
  have e0 : decide (0 < (i : Int)) = !decide (i = 0) := by by_cases h : i = 0 <;> simp [h]; omega
  simp only [qM.b1, yY, hi, decide_true, cond_true, qV hi, YR, vr hi (by omega), Bool.or_true, hp, hs, hle, Vg (l := 0) (h := (i : Int)) (n := (a0.length : Int)) (by omega) (by omega) (by omega), e24, e0]
  by_cases hz : i = 0
  ·subst hz
   simp only [Bool.not_true, Bool.false_and, Bool.and_false, Bool.not_false, Bool.true_or, cond_true, Bool.or_false, decide_true]
   cases (decide (24 ≤ 0) || !nodeOK (a0.getD 0 default)) || !Q1 (a0.take 0) (qc (a0.getD 0 default).path) <;> simp
  ·have hi1 : i - 1 < a0.length := by omega
   have hw : IntKind.wrap .i64 ((i : Int) - 1) = ((i - 1 : Nat) : Int) := by rw [wrap_small (by omega) (by omega)]; omega
   simp only [hw, YR, qV hi1, Bool.or_true, cond_true]
   cases (decide (24 ≤ i) || !nodeOK (a0.getD i default)) || (!decide (i = 0) && !vM (a0.getD (i - 1) default).path (a0.getD i default).path) || !Q1 (a0.take i) (qc (a0.getD i default).path) <;> simp
 rw [jw a0.length _ hb (by simp [qM.b1]) _ (by omega), XG]
 have e : (List.range a0.length).all (fun i => !((decide (24 ≤ i) || !nodeOK (a0.getD i default)) || (!decide (i = 0) && !vM (a0.getD (i - 1) default).path (a0.getD i default).path) || !Q1 (a0.take i) (qc (a0.getD i default).path))) = jO a0 := by
  unfold jO
  rw [Bool.eq_iff_iff]
  simp only [List.all_eq_true, List.mem_range, Bool.and_eq_true, decide_eq_true_eq, Bool.not_eq_true', Bool.or_eq_false_iff, decide_eq_false_iff_not, Bool.not_eq_false', Bool.and_eq_false_iff]
  constructor
  ·intro h
   have hn : ∀ i, i < a0.length → nodeOK (a0.getD i default) = true := fun i hi => (h i hi).1.1.2
   refine ⟨?_, fun i hi => ?_⟩
   ·by_cases hc : a0.length ≤ 24
    ·exact hc
    ·exact absurd (h 24 (by omega)).1.1.1 (by omega)
   ·have hi' := h i hi
    unfold jY
    rw [hi'.1.1.2, hi'.2]
    rcases hi'.1.2 with h2 | h2
    ·simp [h2]
    ·simp only [vM, Bool.and_eq_true] at h2
     rw [h2.2]; simp
  ·rintro ⟨hl, h⟩ i hi
   have hi' := h i hi
   unfold jY at hi'
   simp only [Bool.and_eq_true, Bool.or_eq_true, decide_eq_true_eq] at hi'
   refine ⟨⟨⟨by omega, hi'.1.1⟩, ?_⟩, hi'.2⟩
   by_cases hz : i = 0
   ·exact Or.inl hz
   ·right
    have hprev := h (i - 1) (by omega)
    unfold jY at hprev
    simp only [Bool.and_eq_true] at hprev
    rcases hi'.1.2 with h2 | h2
    ·exact absurd h2 hz
    ·rw [vM, Q2 hprev.1.1, Q2 hi'.1.1, h2]; rfl
 rw [e]
 cases jO a0 <;> simp
theorem Vp {α β T : Type} (xs : List α) (g : α → Option β) (b : List β × Int → Option (Step T (List β × Int) (List β)))
  (hb : ∀ (i : Nat) (h : i < xs.length) (acc : List β), acc.length ≤ i → b (acc, (i : Int)) = some (.nxt (acc ++ (g xs[i]).toList, (i : Int) + 1))) (hn : ∀ acc : List β, b (acc, (xs.length : Int)) = some (.brk acc)) :
  qp b (xs.length + 1) ([], 0) = some (.inr (xs.filterMap g)) := by
 have key : ∀ d i k (acc : List β), i + d = xs.length → d < k → acc.length ≤ i → qp b k (acc, (i : Int)) = some (.inr (acc ++ (xs.drop i).filterMap g)) := by
  intro d
  induction d with
  | zero =>
   intro i k acc hi hk _
   obtain ⟨k, rfl⟩ : ∃ j, k = j + 1 := ⟨k - 1, by omega⟩
   have : i = xs.length := by omega
   subst this
   simp [qp, hn]
  | succ d ih =>
   intro i k acc hi hk ha
   obtain ⟨k, rfl⟩ : ∃ j, k = j + 1 := ⟨k - 1, by omega⟩
   have hlt : i < xs.length := by omega
   rw [qp, hb i hlt acc ha]
   simp only [Option.bind_some]
   have hl : (acc ++ (g xs[i]).toList).length ≤ i + 1 := by cases g xs[i] <;> simp <;> omega
   have := ih (i + 1) k (acc ++ (g xs[i]).toList) (by omega) (by omega) hl
   rw [Int.natCast_add, Int.natCast_one] at this
   have e : (xs.drop i).filterMap g = (g xs[i]).toList ++ (xs.drop (i + 1)).filterMap g := by
    rw [List.drop_eq_getElem_cons hlt, List.filterMap_cons]
    cases g xs[i] <;> rfl
   rw [e, ← List.append_assoc]
   exact this
 have := key xs.length 0 (xs.length + 1) [] (by omega) (by omega) (by simp)
 simpa using this
theorem filterMap_some {α β : Type} (f : α → β) (l : List α) : l.filterMap (fun x => some (f x)) = l.map f := by
 induction l with
 | nil => rfl
 | cons x l ih => simp [ih]
theorem Jl {α β : Type} (q : α → Bool) (f : α → β) (l : List α) : l.filterMap (fun x => if q x then some (f x) else none) = (l.filter q).map f := by
 induction l with
 | nil => rfl
 | cons x l ih =>
  rcases ql (q x) with h | h <;> simp [h, ih]
theorem vY {α : Type} [Inhabited α] {l : List α} {i : Nat} (h : i < l.length) : l.getD i default = l[i] := by simp [List.getD_eq_getElem?_getD, List.getElem?_eq_getElem h]
theorem Q3 {t : List UInt8} (h : t ≠ []) : (qc t).length < t.length := by
 have h1 := GD t
 have h2 := GC t
 have h3 : 0 < t.length := by cases t with | nil => exact absurd rfl h | cons _ _ => simp
 simp [qc]; omega
def GE : Nat → List UInt8 → List (List UInt8)
 | 0, _ => []
 | n + 1, t => if qc t = [] then [] else qc t :: GE n (qc t)
def jK (t : List UInt8) : List (List UInt8) := GE t.length t
theorem j3 : qc [] = [] := rfl
theorem ancsF_succ : ∀ (c : Nat) (v : List UInt8), v.length ≤ c → GE c v = GE (c + 1) v := by
 intro c
 induction c with
 | zero => intro v hv; have : v = [] := List.eq_nil_of_length_eq_zero (by omega); subst this; simp [GE, j3]
 | succ c ihc =>
  intro v hv
  rw [GE, GE]
  by_cases hpv : qc v = []
  ·simp [hpv]
  ·simp only [hpv, if_false]
   have hvne : v ≠ [] := by intro e; subst e; exact hpv j3
   have := Q3 hvne
   rw [ihc (qc v) (by omega)]
theorem Gd (d : Nat) (t : List UInt8) : GE (t.length + d) t = jK t := by
 induction d with
 | zero => rfl
 | succ d ih => rw [← ih, show t.length + (d + 1) = (t.length + d) + 1 by omega]; exact (ancsF_succ _ _ (by omega)).symm
theorem Qk (t : List UInt8) : jK t = if qc t = [] then [] else qc t :: jK (qc t) := by
 have h := Gd 1 t
 rw [← h, GE]
 by_cases hp : qc t = []
 ·simp [hp]
 ·simp only [hp, if_false]
  have hne : t ≠ [] := by intro e; subst e; exact hp j3
  have := Q3 hne
  have h2 := Gd (t.length - (qc t).length) (qc t)
  rw [show (qc t).length + (t.length - (qc t).length) = t.length by omega] at h2
  rw [h2]
theorem ancs_bound : ∀ (n : Nat) (t : List UInt8), t.length ≤ n → (jK t).length ≤ t.length ∧ ∀ x ∈ jK t, x.length ≤ t.length ∧ x ≠ [] := by
 intro n
 induction n with
 | zero => intro t h; have : t = [] := List.eq_nil_of_length_eq_zero (by omega); subst this; exact ⟨by decide, by intro x hx; have e : jK [] = [] := rfl; rw [e] at hx; cases hx⟩
 | succ n ih =>
  intro t h
  rw [Qk]
  by_cases hp : qc t = []
  ·simp [hp]
  ·have hne : t ≠ [] := by intro e; subst e; exact hp j3
   have hlt := Q3 hne
   obtain ⟨h1, h2⟩ := ih (qc t) (by omega)
   simp only [hp, if_false, List.length_cons, List.mem_cons]
   refine ⟨by omega, ?_⟩
   rintro x (rfl | hx)
   ·exact ⟨by omega, hp⟩
   ·have := h2 x hx; exact ⟨by omega, this.2⟩
theorem ancs_len (t : List UInt8) : (jK t).length ≤ t.length := (ancs_bound _ t (Nat.le_refl _)).1
theorem anc_run (q : List UInt8 → Bool) (b : List UInt8 → Option (Step Bool (List UInt8) Unit)) (hb : ∀ x : List UInt8, x ≠ [] → x.length ≤ 1048576 → b x = some (if q x then .ret true else .nxt (qc x))) (hn : b [] = some (.brk ())) :
  ∀ (n : Nat) (t : List UInt8) (k : Nat), (qc t).length ≤ n → n < k → (qc t).length ≤ 1048576 → qp b k (qc t) = some (if (jK t).any q then .inl true else .inr ()) := by
 intro n
 induction n with
 | zero =>
  intro t k h hk _
  obtain ⟨k, rfl⟩ : ∃ j, k = j + 1 := ⟨k - 1, by omega⟩
  have hp : qc t = [] := List.eq_nil_of_length_eq_zero (by omega)
  rw [Qk, hp, qp, hn]; simp
 | succ n ih =>
  intro t k h hk hl
  obtain ⟨k, rfl⟩ : ∃ j, k = j + 1 := ⟨k - 1, by omega⟩
  by_cases hp : qc t = []
  ·rw [Qk, hp, qp, hn]; simp
  ·rw [Qk, qp, hb _ hp hl]
   have hlt := Q3 hp
   simp only [hp, if_false, List.any_cons]
   rcases ql (q (qc t)) with hq | hq
   ·simp [hq]
   ·simp only [hq, Bool.false_eq_true, if_false, Option.bind_some, Bool.false_or]
    exact ih (qc t) k (by omega) (by omega) (by omega)
def vz (r : Rec) : Bool := !decide (r.kind = 3) || r.opq
def yz (l : List Rec) (p : List UInt8) : Bool := (jK p).any fun x => decide (0 ≤ qD l x) && (gt l (qD l x)).opq
def vL (l : List Rec) (p : List UInt8) : Bool := (jK p).any fun x => decide (0 ≤ qD l x) && vz (gt l (qD l x))
def YQ (l : List Rec) (h : Rec → Option Bool) (p : List UInt8) : Option Bool := (h (gt l (qD l p))).bind fun z => some (decide (0 ≤ qD l p) && z)
theorem Yq {l : List Rec} {p : List UInt8} (h : 0 ≤ qD l p) : inR (qD l p) l.length = true := findR_in (by omega)
def yB.b1 (a0 : List Rec) : List UInt8 → Option (Step (Bool) (List UInt8) (Unit)) :=
 fun x5_4 => bif (!decide (x5_4 = ([] : List UInt8))) then (bif decide (a0.length ≤ 1048576) then (((bif (decide (0 ≤ (qD a0 x5_4))) then (bif inR (qD a0 x5_4) a0.length then (some ((gt a0 (qD a0 x5_4)).opq)) else none) else some false)).bind fun z26 => bif z26 then (some (.ret true)) else (bif decide (x5_4.length ≤ 4611686018427387904) then (some (.nxt (qc x5_4))) else none)) else none) else (some (.brk ()))
def yB.sh (k : Nat) (a0 : List Rec) (a1 : List UInt8) : Option (Bool) :=
  bif decide (a1.length ≤ 4611686018427387904) then ((qp (yB.b1 a0) k (qc a1)).bind fun z => match z with | .inl t => some t | .inr _ => some false) else none
theorem yB.eq (a0 : List Rec) (a1 : List UInt8) (h0 : a0.length ≤ 1048576) (h1 : a1.length ≤ 1048576) : ∃ k, yB.sh k a0 a1 = some (yz a0 a1) := by
 refine ⟨a1.length + 1, ?_⟩
 have hl := JD a1
 have h2 : a1.length ≤ 4611686018427387904 := by omega
 unfold yB.sh
 rw [anc_run (fun x => decide (0 ≤ qD a0 x) && (gt a0 (qD a0 x)).opq) (yB.b1 a0) (fun x hx hx2 => by
  have h3 : x.length ≤ 4611686018427387904 := by omega
  simp only [yB.b1, hx, decide_false, Bool.not_false, cond_true, h0, decide_true, h3]
  by_cases hk : 0 ≤ qD a0 x
  ·simp only [hk, decide_true, cond_true, Yq hk, Bool.true_and, Option.bind_some]
   cases (gt a0 (qD a0 x)).opq <;> simp
  ·simp [hk]) (by simp [yB.b1]) a1.length a1 (a1.length + 1) hl (by omega) (by omega)]
 simp only [h2, decide_true, cond_true, Option.bind_some]
 unfold yz
 cases (jK a1).any fun x => decide (0 ≤ qD a0 x) && (gt a0 (qD a0 x)).opq <;> simp
def Qw.sh (a0 : Rec) : Option (Bool) :=
 some ((!decide (a0.kind = 3)) || a0.opq)
theorem Qw.eq (a0 : Rec) : Qw.sh a0 = some (vz a0) := rfl
def yI.b1 (a0 : List Rec) : List UInt8 → Option (Step (Bool) (List UInt8) (Unit)) :=
 fun x5_4 => bif (!decide (x5_4 = ([] : List UInt8))) then (bif decide (a0.length ≤ 1048576) then (((bif (decide (0 ≤ (qD a0 x5_4))) then (bif inR (qD a0 x5_4) a0.length then (some (vz (gt a0 (qD a0 x5_4)))) else none) else some false)).bind fun z26 => bif z26 then (some (.ret true)) else (bif decide (x5_4.length ≤ 4611686018427387904) then (some (.nxt (qc x5_4))) else none)) else none) else (some (.brk ()))
def yI.sh (k : Nat) (a0 : List Rec) (a1 : List UInt8) : Option (Bool) :=
  bif decide (a1.length ≤ 4611686018427387904) then ((qp (yI.b1 a0) k (qc a1)).bind fun z => match z with | .inl t => some t | .inr _ => some false) else none
theorem yI.eq (a0 : List Rec) (a1 : List UInt8) (h0 : a0.length ≤ 1048576) (h1 : a1.length ≤ 1048576) : ∃ k, yI.sh k a0 a1 = some (vL a0 a1) := by
 refine ⟨a1.length + 1, ?_⟩
 have hl := JD a1
 have h2 : a1.length ≤ 4611686018427387904 := by omega
 unfold yI.sh
 rw [anc_run (fun x => decide (0 ≤ qD a0 x) && vz (gt a0 (qD a0 x))) (yI.b1 a0) (fun x hx hx2 => by
  have h3 : x.length ≤ 4611686018427387904 := by omega
  simp only [yI.b1, hx, decide_false, Bool.not_false, cond_true, h0, decide_true, h3]
  by_cases hk : 0 ≤ qD a0 x
  ·simp only [hk, decide_true, cond_true, Yq hk, Bool.true_and, Option.bind_some]
   cases vz (gt a0 (qD a0 x)) <;> simp
  ·simp [hk]) (by simp [yI.b1]) a1.length a1 (a1.length + 1) hl (by omega) (by omega)]
 simp only [h2, decide_true, cond_true, Option.bind_some]
 unfold vL
 cases (jK a1).any fun x => decide (0 ≤ qD a0 x) && vz (gt a0 (qD a0 x)) <;> simp
def vU.b1  : List UInt8 × List (List UInt8) → Option (Step (List (List UInt8)) (List UInt8 × List (List UInt8)) (List (List UInt8))) :=
 fun q => match q with
 | (x0_10, x3_11) => bif (!decide (x0_10 = ([] : List UInt8))) then (bif decide ((x3_11.length + ([x0_10] : List (List UInt8)).length) * 16 ≤ 140737488355328) then (bif decide (x0_10.length ≤ 1048576) then (some (.nxt ((qc x0_10), x3_11 ++ ([x0_10] : List (List UInt8))))) else none) else none) else (some (.brk x3_11))
def vU.sh (k : Nat) (a0 : List UInt8) : Option (List (List UInt8)) :=
  bif decide (a0.length ≤ 1048576) then ((qp (vU.b1) k ((qc a0), ([] : List (List UInt8)))).bind fun z => match z with | .inl t => some t | .inr x3_16 => some x3_16) else none
theorem vU.eq (a0 : List UInt8) (h0 : a0.length ≤ 1048576) : ∃ k, vU.sh k a0 = some (jK a0) := by
 refine ⟨a0.length + 1, ?_⟩
 have key : ∀ (n : Nat) (t : List UInt8) (k : Nat) (acc : List (List UInt8)), (qc t).length ≤ n → n < k → acc.length + (qc t).length ≤ 1048576 → qp vU.b1 k (qc t, acc) = some (.inr (acc ++ jK t)) := by
  intro n
  induction n with
  | zero =>
   intro t k acc h hk _
   obtain ⟨k, rfl⟩ : ∃ j, k = j + 1 := ⟨k - 1, by omega⟩
   have hp : qc t = [] := List.eq_nil_of_length_eq_zero (by omega)
   rw [Qk, hp, qp]; simp [vU.b1]
  | succ n ih =>
   intro t k acc h hk hl
   obtain ⟨k, rfl⟩ : ∃ j, k = j + 1 := ⟨k - 1, by omega⟩
   by_cases hp : qc t = []
   ·rw [Qk, hp, qp]; simp [vU.b1]
   ·have hlt := Q3 hp
    have e1 : (acc.length + ([qc t] : List (List UInt8)).length) * 16 ≤ 140737488355328 := by simp; omega
    have e2 : (qc t).length ≤ 1048576 := by omega
    rw [Qk t, qp]
    simp only [vU.b1, hp, decide_false, Bool.not_false, cond_true, e1, e2, decide_true, if_false, Option.bind_some]
    have := ih (qc t) k (acc ++ [qc t]) (by omega) (by omega) (by simp; omega)
    rw [show qp vU.b1 k (qc (qc t), acc ++ [qc t]) = _ from this]
    simp
 have hl := JD a0
 unfold vU.sh
 rw [key a0.length a0 (a0.length + 1) [] hl (by omega) (by simp; omega)]
 simp [h0]
def jL.sh (a0 : List UInt8) (a1 : List Rec) (a2 : Rec → Option Bool) : Option (Bool) :=
 bif decide (a1.length ≤ 1048576) then (bif (!(decide (0 ≤ (qD a1 a0))) || (inR (qD a1 a0) a1.length)) then ((a2 (gt a1 (qD a1 a0))).bind fun z7 => some ((decide (0 ≤ (qD a1 a0))) && z7)) else none) else none
theorem jL.eq (a0 : List UInt8) (a1 : List Rec) (a2 : Rec → Option Bool) (h0 : a1.length ≤ 1048576) {r : Bool} (H : YQ a1 a2 a0 = some r) : jL.sh a0 a1 a2 = some r := by
 unfold jL.sh
 have h1 : (!decide (0 ≤ qD a1 a0) || inR (qD a1 a0) a1.length) = true := by
  by_cases hk : 0 ≤ qD a1 a0
  ·simp [Yq hk]
  ·simp [hk]
 rw [h1]
 simp only [h0, decide_true, cond_true]
 exact H
def Qf.sh (a0 : List Rec) (a1 : List UInt8) (a2 : Rec → Option Bool) : Option (Bool) :=
 bif decide (a1.length ≤ 1048576) then (bif decide ((jK a1).length ≤ 4611686018427387904) then (((Yg (fun (x0_ : List UInt8) => bif decide (a0.length ≤ 1048576) then (YQ a0 a2 x0_) else none) (jK a1))).bind fun z23 => some z23) else none) else none
theorem Qf.eq (a0 : List Rec) (a1 : List UInt8) (a2 : Rec → Option Bool) (h0 : a0.length ≤ 1048576) (h1 : a1.length ≤ 1048576) {r : Bool} (H : Yg (YQ a0 a2) (jK a1) = some r) : Qf.sh a0 a1 a2 = some r := by
 have hl := ancs_len a1
 have h2 : (jK a1).length ≤ 4611686018427387904 := by omega
 unfold Qf.sh
 simp only [h0, h1, h2, decide_true, cond_true]
 rw [show (Yg (fun (x0_ : List UInt8) => YQ a0 a2 x0_) (jK a1)) = some r from H]; rfl
theorem XH (l : List Rec) (q : Rec → Bool) (p : List UInt8) : Yg (YQ l (fun x => some (q x))) (jK p) = some ((jK p).any fun x => decide (0 ≤ qD l x) && q (gt l (qD l x))) := anyO_some fun x _ => rfl
def yJ.sh (a0 : Rec) : Option (Bool) :=
 some a0.opq
theorem yJ.eq (a0 : Rec) : yJ.sh a0 = some a0.opq := rfl
def jF.sh (a0 : List Rec) (a1 : List UInt8) : Option (Bool) :=
 bif decide (a0.length ≤ 1048576) then (bif decide (a1.length ≤ 1048576) then (((Yg (YQ a0 (fun (x0_ : Rec) => some x0_.opq)) (jK a1))).bind fun z7 => some z7) else none) else none
theorem jF.eq (a0 : List Rec) (a1 : List UInt8) (h0 : a0.length ≤ 1048576) (h1 : a1.length ≤ 1048576) : jF.sh a0 a1 = some (yz a0 a1) := by
 unfold jF.sh
 simp only [h0, h1, decide_true, cond_true, XH a0 (fun x => x.opq) a1, Option.bind_some]; rfl
def Vf.sh (a0 : Rec) : Option (Bool) :=
 some ((!decide (a0.kind = 3)) || a0.opq)
theorem Vf.eq (a0 : Rec) : Vf.sh a0 = some (vz a0) := rfl
def Vr.sh (a0 : List Rec) (a1 : List UInt8) : Option (Bool) :=
 bif decide (a0.length ≤ 1048576) then (bif decide (a1.length ≤ 1048576) then (((Yg (YQ a0 (fun (x0_ : Rec) => some (vz x0_))) (jK a1))).bind fun z7 => some z7) else none) else none
theorem Vr.eq (a0 : List Rec) (a1 : List UInt8) (h0 : a0.length ≤ 1048576) (h1 : a1.length ≤ 1048576) : Vr.sh a0 a1 = some (vL a0 a1) := by
 unfold Vr.sh
 simp only [h0, h1, decide_true, cond_true, XH a0 vz a1, Option.bind_some]; rfl
theorem yU {p : List UInt8} (h : qH p = true) : p.length ≤ 1048576 := by have := J4 h; omega
end Go.UL
