import Derived.Test.YtdhmlillkbjjjaaGreatDoorpP5
set_option linter.unusedVariables false
set_option linter.unusedSimpArgs false
namespace Go.UL
open Go.RowKit
def vf : List UInt8 → Int
 | [] => -1
 | b :: l => if vf l = -1 then (if bn b = 47 then 0 else -1) else vf l + 1
theorem Qb (t : List UInt8) : (vf t = -1 ∧ ∀ j, j < t.length → bn (t.getD j 0) ≠ 47) ∨ ∃ i : Nat, i < t.length ∧ vf t = i ∧ bn (t.getD i 0) = 47 ∧ ∀ j, i < j → j < t.length → bn (t.getD j 0) ≠ 47 := by
 induction t with
 | nil => left; exact ⟨rfl, by simp⟩
 | cons b l ih =>
  rcases ih with ⟨h1, h2⟩ | ⟨i, hi, h1, h2, h3⟩
  ·by_cases hb : bn b = 47
   ·right
    refine ⟨0, by simp, by simp [vf, h1, hb], by simpa using hb, ?_⟩
    intro j hj hl
    obtain ⟨j, rfl⟩ : ∃ k, j = k + 1 := ⟨j - 1, by omega⟩
    simpa using h2 j (by simpa using hl)
   ·left
    refine ⟨by simp [vf, h1, hb], ?_⟩
    intro j hl
    cases j with
    | zero => simpa using hb
    | succ j => simpa using h2 j (by simpa using hl)
  ·right
   refine ⟨i + 1, by simpa using hi, ?_, by simpa using h2, ?_⟩
   ·have : vf l ≠ -1 := by rw [h1]; omega
    simp only [vf, this, if_false, h1]; omega
   ·intro j hj hl
    obtain ⟨j, rfl⟩ : ∃ k, j = k + 1 := ⟨j - 1, by omega⟩
    simpa using h3 j (by omega) (by simpa using hl)
theorem Vn {t : List UInt8} (h : ∀ j, j < t.length → bn (t.getD j 0) ≠ 47) : vf t = -1 := by
 rcases Qb t with ⟨h1, _⟩ | ⟨i, hi, _, h2, _⟩
 ·exact h1
 ·exact absurd h2 (h i hi)
theorem Vo {t : List UInt8} {i : Nat} (hi : i < t.length) (h : bn (t.getD i 0) = 47) (hn : ∀ j, i < j → j < t.length → bn (t.getD j 0) ≠ 47) : vf t = i := by
 rcases Qb t with ⟨_, h2⟩ | ⟨k, hk, h1, h2, h3⟩
 ·exact absurd h (h2 i hi)
 ·by_cases e : i = k
  ·rw [h1, e]
  ·by_cases hlt : i < k
   ·exact absurd h2 (hn k hlt hk)
   ·exact absurd h (h3 i (by omega) hi)
theorem YB (t : List UInt8) : -1 ≤ vf t := by
 rcases Qb t with ⟨h, _⟩ | ⟨i, _, h, _⟩ <;> omega
theorem Yq (t : List UInt8) : vf t < t.length := by
 rcases Qb t with ⟨h, _⟩ | ⟨i, hi, h, _⟩ <;> omega
def ql (t : List UInt8) : List UInt8 := t.take (vf t).toNat
theorem VA (t : List UInt8) : (ql t).length ≤ t.length := by simp [ql]; omega
def va.b1 (a0 : List UInt8) : Int → Option (Step (List UInt8) (Int) (Unit)) :=
 fun x3_1 => bif (decide (0 ≤ x3_1)) then (bif inR x3_1 a0.length then (bif (decide ((byt a0 x3_1) = 47)) then (bif inS 0 x3_1 (a0.length : Int) then (some (.ret (sub a0 0 x3_1))) else none) else (some (.nxt (IntKind.wrap .i64 (x3_1 - 1))))) else none) else (some (.brk ()))
def va.sh (k : Nat) (a0 : List UInt8) : Option (List UInt8) :=
  (qp (va.b1 a0) k (IntKind.wrap .i64 ((a0.length : Int) - 1))).bind fun z => match z with | .inl t => some t | .inr _ => some ([] : List UInt8)
theorem va.eq (a0 : List UInt8) (h : a0.length ≤ 4611686018427387904) : ∃ k, va.sh k a0 = some (ql a0) := by
 refine ⟨a0.length + 1, ?_⟩
 unfold va.sh
 rw [wrap_small (n := (a0.length : Int) - 1) (by omega) (by omega)]
 have key : ∀ (m k : Nat), m ≤ a0.length → m < k → (∀ j, m ≤ j → j < a0.length → bn (a0.getD j 0) ≠ 47) →
   qp (va.b1 a0) k ((m : Int) - 1) = some (if vf a0 = -1 then .inr () else .inl (ql a0)) := by
  intro m
  induction m with
  | zero =>
   intro k _ hk hn
   obtain ⟨k, rfl⟩ : ∃ j, k = j + 1 := ⟨k - 1, by omega⟩
   have := Vn fun j hj => hn j (by omega) hj
   have h0 : ¬ (0 : Int) ≤ ((0 : Nat) : Int) - 1 := by omega
   simp [qp, va.b1, this]
  | succ m ih =>
   intro k hm hk hn
   obtain ⟨k, rfl⟩ : ∃ j, k = j + 1 := ⟨k - 1, by omega⟩
   have hlt : m < a0.length := by omega
   have e : ((m + 1 : Nat) : Int) - 1 = (m : Int) := by omega
   rw [e]
   have h0 : (0 : Int) ≤ (m : Int) := by omega
   simp only [qp, va.b1, h0, decide_true, cond_true, qR hlt, Jf]
   by_cases hb : bn (a0.getD m 0) = 47
   ·have hl := Vo hlt hb fun j hj hj2 => hn j (by omega) hj2
    have hne : vf a0 ≠ -1 := by omega
    simp only [hb, decide_true, cond_true, QK (l := 0) (h := (m : Int)) (n := (a0.length : Int)) (by omega) (by omega) (by omega), Option.bind_some, hne, if_false]
    simp [sub, ql, hl]
   ·simp only [hb, decide_false, cond_false, Option.bind_some]
    rw [wrap_small (n := (m : Int) - 1) (by omega) (by omega)]
    exact ih k (by omega) (by omega) fun j hj hj2 => by
     by_cases e : j = m
     ·subst e; exact hb
     ·exact hn j (by omega) hj2
 rw [key a0.length (a0.length + 1) (by omega) (by omega) (fun j h1 h2 => by omega)]
 by_cases hl : vf a0 = -1
 ·simp [hl, ql]
 ·simp [hl]
def yU.sh (a0 : List UInt8) : Option (List UInt8) :=
 bif decide (a0.length ≤ 1048576) then (bif decide (([47] : List UInt8) = [47]) then (bif inS 0 (if ((vf a0) < 0 : Prop) then 0 else (vf a0)) (a0.length : Int) then (some (sub a0 0 (if ((vf a0) < 0 : Prop) then 0 else (vf a0)))) else none) else none) else none
theorem yU.eq (a0 : List UInt8) (h : a0.length ≤ 1048576) : yU.sh a0 = some (ql a0) := by
 unfold yU.sh
 have hge := YB a0
 have hlt := Yq a0
 have hm : (if (vf a0 < 0 : Prop) then 0 else vf a0) = ((vf a0).toNat : Int) := by split <;> omega
 simp only [h, decide_true, cond_true, hm]
 rw [QK (l := 0) (h := ((vf a0).toNat : Int)) (n := (a0.length : Int)) (by omega) (by omega) (by omega)]
 simp [sub, ql]
 omega
def QG : List Rec → Int → Int
 | [], a => a
 | x :: l, a => if jZ x a < 0 then -1 else QG l (jZ x a)
def jE (l : List Rec) (left : Int) : Int := if left - (l.length : Int) < 0 then -1 else QG l (left - (l.length : Int))
theorem Xc {r : Rec} {a : Int} (h : 0 ≤ jZ r a) : jZ r a ≤ a ∧ (r.path.length : Int) ≤ a ∧ (r.body.length : Int) ≤ a := by
 unfold jZ at *
 split at h
 ·omega
 ·split at h
  ·omega
  ·rename_i h1 h2; simp only [h1, h2, if_false]; omega
theorem Xr : ∀ {l : List Rec} {a : Int}, 0 ≤ QG l a → 0 ≤ a → QG l a ≤ a ∧ ∀ x ∈ l, (x.path.length : Int) ≤ a ∧ (x.body.length : Int) ≤ a := by
 intro l
 induction l with
 | nil => intro a _ _; exact ⟨Int.le_refl _, by simp⟩
 | cons x l ih =>
  intro a h h0
  simp only [QG] at h ⊢
  by_cases hx : jZ x a < 0
  ·simp [hx] at h
  ·simp only [hx, if_false] at h ⊢
   have h1 := Xc (r := x) (a := a) (by omega)
   have h2 := ih h (by omega)
   refine ⟨by omega, ?_⟩
   intro y hy
   rcases List.mem_cons.1 hy with rfl | hy
   ·omega
   ·have := h2.2 y hy; omega
theorem J3 {l : List Rec} {a : Int} (h : ¬ jE l a < 0) (h0 : 0 ≤ a) : 0 ≤ jE l a ∧ jE l a ≤ a ∧ (l.length : Int) ≤ a ∧ ∀ x ∈ l, (x.path.length : Int) ≤ a ∧ (x.body.length : Int) ≤ a := by
 unfold jE at *
 by_cases hl : a - (l.length : Int) < 0
 ·simp [hl] at h
 ·simp only [hl, if_false] at h ⊢
  have := Xr (l := l) (a := a - (l.length : Int)) (by omega) (by omega)
  refine ⟨by omega, by omega, by omega, fun x hx => ?_⟩
  have := this.2 x hx; omega
def vH.b1 (a0 : List Rec) : Int × Int → Option (Step (Int) (Int × Int) (Int)) :=
 fun q => match q with
 | (x1_2, x5_3) => bif (decide (x5_3 < (a0.length : Int))) then (bif inR x5_3 a0.length then (bif decide ((0 : Int) ≤ x1_2) then (bif decide ((x1_2 : Int) ≤ 1048576) then (bif decide ((gt a0 x5_3).path.length ≤ 9223372036854775807) then (bif decide ((gt a0 x5_3).body.length ≤ 9223372036854775807) then (bif (decide ((jZ (gt a0 x5_3) x1_2) < 0)) then (some (.ret (-1))) else (some (.nxt ((jZ (gt a0 x5_3) x1_2), IntKind.wrap .i64 (x5_3 + 1))))) else none) else none) else none) else none) else none) else (some (.brk x1_2))
def vH.sh (k : Nat) (a0 : List Rec) (a1 : Int) : Option (Int) :=
  bif (decide ((IntKind.wrap .i64 (a1 - (a0.length : Int))) < 0)) then (some (-1)) else ((qp (vH.b1 a0) k (IntKind.wrap .i64 (a1 - (a0.length : Int)), 0)).bind fun z => match z with | .inl t => some t | .inr x1_7 => some x1_7)
theorem Xj (l : List Rec) (b : Int × Int → Option (Step Int (Int × Int) Int)) (hb : ∀ (i : Nat) (a : Int), i < l.length → 0 ≤ a → a ≤ 1048576 → b (a, i) = some (if jZ (l.getD i default) a < 0 then .ret (-1) else .nxt (jZ (l.getD i default) a, (i : Int) + 1))) (hn : ∀ a, b (a, l.length) = some (.brk a)) :
    ∀ (d i : Nat) (a : Int) (k : Nat), i + d = l.length → d < k → 0 ≤ a → a ≤ 1048576 → ∃ z, qp b k (a, i) = some z ∧ (match z with | .inl t => some t | .inr x => some x) = some (QG (l.drop i) a) := by
  intro d
  induction d with
  | zero =>
    intro i a k hi hk _ _
    obtain ⟨k, rfl⟩ : ∃ j, k = j + 1 := ⟨k - 1, by omega⟩
    have : i = l.length := by omega
    subst this
    exact ⟨.inr a, by rw [qp, hn]; rfl, by simp [QG]⟩
  | succ d ih =>
    intro i a k hi hk h0 h1
    obtain ⟨k, rfl⟩ : ∃ j, k = j + 1 := ⟨k - 1, by omega⟩
    have hlt : i < l.length := by omega
    have hg : l.getD i default = l[i] := by simp [List.getD_eq_getElem?_getD, List.getElem?_eq_getElem hlt]
    rw [List.drop_eq_getElem_cons hlt, qp, hb i a hlt h0 h1, hg]
    by_cases hx : jZ l[i] a < 0
    · exact ⟨.inl (-1), by simp [hx], by simp [QG, hx]⟩
    · have hle := Xc (r := l[i]) (a := a) (by omega)
      obtain ⟨z, hz, hP⟩ := ih (i + 1) (jZ l[i] a) k (by omega) (by omega) (by omega) (by omega)
      rw [Int.natCast_add, Int.natCast_one] at hz
      exact ⟨z, by simp only [hx, if_false, Option.bind_some]; exact hz, by simp only [QG, hx, if_false]; exact hP⟩
theorem vH.eq (a0 : List Rec) (a1 : Int) (h0 : 0 ≤ a1) (h1 : a1 ≤ 1048576) (h2 : a0.length ≤ 9223372036854775807) (h3 : ∀ x ∈ a0, Vt x) : ∃ k, vH.sh k a0 a1 = some (jE a0 a1) := by
 refine ⟨a0.length + 1, ?_⟩
 unfold vH.sh jE
 rw [wrap_small (n := a1 - (a0.length : Int)) (by omega) (by omega)]
 by_cases hl : a1 - (a0.length : Int) < 0
 ·simp [hl]
 ·simp only [hl, decide_false, cond_false, if_false]
  obtain ⟨z, hz, hP⟩ := Xj a0 (vH.b1 a0) (fun i a hi ha0 ha1 => by
   have hg : a0.getD i default = a0[i] := by simp [List.getD_eq_getElem?_getD, List.getElem?_eq_getElem hi]
   have ho := h3 a0[i] (List.getElem_mem hi)
   simp only [vH.b1, yn, hi, decide_true, cond_true, qR hi, vI, hg, ha0, ha1, ho.1, ho.2, vd hi (by omega)]
   by_cases hx : jZ a0[i] a < 0 <;> simp [hx]) (fun a => by simp [vH.b1]) a0.length 0 (a1 - (a0.length : Int)) (a0.length + 1) (by omega) (by omega) (by omega) (by omega)
  simp only [Int.natCast_zero] at hz
  rw [hz]
  simpa using hP
def vi.b1 (a0 : List Rec) : Int × List Rec → Option (Step (List Rec) (Int × List Rec) (List Rec)) :=
 fun q => match q with
 | (x4_8, y9) => bif (decide (x4_8 < (a0.length : Int))) then (bif inR x4_8 a0.length then (bif inR x4_8 y9.length then (some (.nxt (IntKind.wrap .i64 (x4_8 + 1), jA y9 x4_8 (gt a0 x4_8)))) else none) else none) else (some (.brk y9))
def vi.sh (k : Nat) (a0 : List Rec) : Option (List Rec) :=
  bif decide (a0.length * 56 ≤ 281474976710656) then ((qp (vi.b1 a0) k (0, List.replicate a0.length (⟨0, [], [], 0, false⟩ : Rec))).bind fun z => match z with | .inl t => some t | .inr y13 => some y13) else none
theorem vi.eq (a0 : List Rec) (h : a0.length ≤ 1048576) : ∃ k, vi.sh k a0 = some a0 := by
 refine ⟨a0.length + 1, ?_⟩
 unfold vi.sh
 have h1 : a0.length * 56 ≤ 281474976710656 := by omega
 simp only [h1, decide_true, cond_true]
 have := G6 (List.replicate a0.length (⟨0, [], [], 0, false⟩ : Rec)) (fun i => a0.getD i default) (vi.b1 a0) (fun i hi y hy => by
  have hi' : i < a0.length := by simpa using hi
  have hy' : y.length = a0.length := by simpa using hy
  simp only [vi.b1, hy', yn, hi', decide_true, cond_true, qR hi', vI, vd hi' (by omega)]) (fun y hy => by
  have hy' : y.length = a0.length := by simpa using hy
  simp [vi.b1])
 simp only [List.length_replicate, GS] at this
 rw [this]; rfl
def qz (l : List Rec) (p : List UInt8) : Int := yF (fun r => decide (r.path = p)) l
def yk.b1 (a0 : List Rec) (a1 : List UInt8) : Int → Option (Step (Int) (Int) (Unit)) :=
 fun x5_1 => bif (decide (x5_1 < (a0.length : Int))) then (bif inR x5_1 a0.length then (bif (decide (((gt a0 x5_1).path) = a1)) then (some (.ret x5_1)) else (some (.nxt (IntKind.wrap .i64 (x5_1 + 1))))) else none) else (some (.brk ()))
def yk.sh (k : Nat) (a0 : List Rec) (a1 : List UInt8) : Option (Int) :=
  (qp (yk.b1 a0 a1) k 0).bind fun z => match z with | .inl t => some t | .inr _ => some (-1)
theorem yk.eq (a0 : List Rec) (a1 : List UInt8) (h : a0.length ≤ 1048576) : ∃ k, yk.sh k a0 a1 = some (qz a0 a1) := by
 refine ⟨a0.length + 1, ?_⟩
 unfold yk.sh qz
 rw [findI_run (fun r : Rec => decide (r.path = a1)) a0 (yk.b1 a0 a1) (fun i hi => by
  simp only [yk.b1, yn, hi, decide_true, cond_true, qR hi, vI, vd hi (by omega)]
  rfl) (by simp [yk.b1])]
 by_cases hm : yF (fun r : Rec => decide (r.path = a1)) a0 = -1
 ·simp [hm]
 ·simp [hm]
def yB.sh (a0 : List Rec) : Option (Bool) :=
 some (decide (4096 < (a0.length : Int)))
theorem yB.eq (a0 : List Rec) : yB.sh a0 = some (decide (4096 < a0.length)) := by
 have : (4096 : Int) < (a0.length : Int) ↔ 4096 < a0.length := by omega
 simp [yB.sh, this]
def j5.sh (a0 : Rec) (a1 : List UInt8) : Option (Bool) :=
 some (decide (a0.path = a1))
theorem j5.eq (a0 : Rec) (a1 : List UInt8) : j5.sh a0 a1 = some (decide (a0.path = a1)) := rfl
def qO.b1 (a0 : List Rec) (a1 : Rec → Option Bool) : Int → Option (Step (Int) (Int) (Unit)) :=
 fun x8_1 => bif (decide (x8_1 < (a0.length : Int))) then (bif inR x8_1 a0.length then ((a1 (gt a0 x8_1)).bind fun z22 => bif z22 then (some (.ret x8_1)) else (some (.nxt (IntKind.wrap .i64 (x8_1 + 1))))) else none) else (some (.brk ()))
def qO.sh (k : Nat) (a0 : List Rec) (a1 : Rec → Option Bool) : Option (Int) :=
  (qp (qO.b1 a0 a1) k 0).bind fun z => match z with | .inl t => some t | .inr _ => some (-1)
theorem qO.eq (a0 : List Rec) (a1 : Rec → Option Bool) (h : a0.length ≤ 4611686018427387904) {r : Int} (H : Va a1 a0 = some r) : ∃ k, qO.sh k a0 a1 = some r := by
 refine ⟨a0.length + 1, ?_⟩
 have := VL a0 a0.length 0 (by omega) r (by simpa using H) (qO.b1 a0 a1) (fun i hi => by
  simp only [qO.b1, yn, hi, decide_true, cond_true, qR hi, vI, vd hi h]) (by simp [qO.b1]) (a0.length + 1) (by omega)
 simp only [Int.natCast_zero] at this
 unfold qO.sh
 rw [this]
 by_cases hr : r = -1
 ·simp [hr]
 ·simp [hr]
def jB.sh (a0 : List Rec) (a1 : List UInt8) : Option (Int) :=
 bif decide (a0.length ≤ 4611686018427387904) then (((Va (fun (x0_ : Rec) => some (decide (x0_.path = a1))) a0)).bind fun z12 => some z12) else none
theorem jB.eq (a0 : List Rec) (a1 : List UInt8) (h : a0.length ≤ 1048576) : jB.sh a0 a1 = some (qz a0 a1) := by
 have h1 : a0.length ≤ 4611686018427387904 := by omega
 have h2 := YT (p := fun (x0_ : Rec) => some (decide (x0_.path = a1))) (q := fun r => decide (r.path = a1)) (l := a0) (fun _ _ => rfl)
 simp only [jB.sh, h1, decide_true, cond_true, h2, Option.bind_some, qz]
def vE.b1 (a0 : List Rec) (a1 : List Rec) : Int → Option (Step (Bool) (Int) (Unit)) :=
 fun x5_2 => bif (decide (x5_2 < (a0.length : Int))) then (bif inR x5_2 a0.length then (bif inR x5_2 a1.length then (bif (!(decide ((gt a0 x5_2) = (gt a1 x5_2)))) then (some (.ret false)) else (some (.nxt (IntKind.wrap .i64 (x5_2 + 1))))) else none) else none) else (some (.brk ()))
def vE.sh (k : Nat) (a0 : List Rec) (a1 : List Rec) : Option (Bool) :=
  bif (!decide ((a0.length : Int) = (a1.length : Int))) then (some false) else ((qp (vE.b1 a0 a1) k 0).bind fun z => match z with | .inl t => some t | .inr _ => some true)
theorem eq_run {α : Type} [DecidableEq α] [Inhabited α] (a b : List α) (f : Int → Option (Step Bool Int Unit)) (hl : a.length = b.length)
  (hb : ∀ i : Nat, i < a.length → f i = some (if a.getD i default = b.getD i default then .nxt ((i : Int) + 1) else .ret false)) (hn : f a.length = some (.brk ())) :
  qp f (a.length + 1) 0 = some (if a = b then .inr () else .inl false) := by
 have hb' : ∀ i : Nat, i < a.length → f i = some (sc (if !decide (a.getD i default = b.getD i default) then some false else none : Option Bool) ((i : Int) + 1)) := by
  intro i hi
  rw [hb i hi]
  by_cases he : a.getD i default = b.getD i default
  ·simp only [he, if_true, decide_true, Bool.not_true, Bool.false_eq_true, if_false, VP]
  ·simp only [he, if_false, decide_false, Bool.not_false, if_true, VM]
 rw [y6 a.length _ hb' hn (a.length + 1) (by omega), G5 a b hl]
 by_cases he : a = b <;> simp [he]
theorem vE.eq (a0 a1 : List Rec) (h : a0.length ≤ 4611686018427387904) : ∃ k, vE.sh k a0 a1 = some (decide (a0 = a1)) := by
 refine ⟨a0.length + 1, ?_⟩
 unfold vE.sh
 by_cases hl : a0.length = a1.length
 ·rw [eq_run a0 a1 (vE.b1 a0 a1) hl (fun i hi => by
   have hi2 : i < a1.length := by omega
   simp only [vE.b1, yn, hi, decide_true, cond_true, qR hi, qR hi2, vI, vd hi h]
   by_cases he : a0.getD i default = a1.getD i default
   ·simp only [he, decide_true, Bool.not_true, cond_false, if_true]
   ·simp only [he, decide_false, Bool.not_false, cond_true, if_false]) (by simp [vE.b1])]
  have : (a0.length : Int) = (a1.length : Int) := by omega
  by_cases he : a0 = a1 <;> simp [this, he]
 ·have h1 : ¬ (a0.length : Int) = (a1.length : Int) := by omega
  have h2 : a0 ≠ a1 := fun e => hl (by rw [e])
  simp [h1, h2]
def yD (l : List Rec) (i : Nat) : Int :=
 if i = 16 then 6 else if qH (l.getD i default) ≠ 0 then qH (l.getD i default)
 else if 0 < i ∧ (l.getD i default).path = (l.getD (i - 1) default).path then 18
 else if 0 < i ∧ vC (cut 47 (l.getD (i - 1) default).path) (cut 47 (l.getD i default).path) = false then 11
 else if ql (l.getD i default).path = [] then 0
 else if qz (l.take i) (ql (l.getD i default).path) < 0 then 12
 else if (gt l (qz (l.take i) (ql (l.getD i default).path))).kind ≠ 3 then 13 else 0
def qA (l : List Rec) : Int × Int := match (List.range l.length).findSome? (fun i => if yD l i = 0 then none else some ((i : Int), yD l i)) with
 | some x => x
 | none => (0, 0)
def vx (l : List Rec) : Int × Int := if 4096 < l.length then (0, 2) else qA l
theorem YP {α : Type} [Inhabited α] (l : List α) (i : Nat) : gt l (i : Int) = l.getD i default := rfl
theorem Jw {l : List Rec} {i : Nat} (h : i < l.length) : l.getD i default ∈ l := by
 have : l.getD i default = l[i] := by simp [List.getD_eq_getElem?_getD, List.getElem?_eq_getElem h]
 rw [this]; exact List.getElem_mem h
theorem Ji {l : List Rec} {p : List UInt8} {i : Nat} (hi : i ≤ l.length) (h : ¬ qz (l.take i) p < 0) : inR (qz (l.take i) p) l.length = true := by
 have h1 : qz (l.take i) p < (l.take i).length := YG _ _
 have h2 : (l.take i).length ≤ i := by simp; omega
 exact Vx (by omega) (by omega)
def vm.b1 (a0 : List Rec) : Int → Option (Step (Int × Int) (Int) (Unit)) :=
 fun x4_1 => bif (decide (x4_1 < (a0.length : Int))) then (bif (decide (x4_1 = 16)) then (some (.ret (x4_1, 6))) else (bif inR x4_1 a0.length then (bif (!decide ((qH (gt a0 x4_1)) = 0)) then (some (.ret (x4_1, (qH (gt a0 x4_1))))) else (bif (!(decide (0 < x4_1)) || (inR x4_1 a0.length)) then (bif (!(decide (0 < x4_1)) || (inR (IntKind.wrap .i64 (x4_1 - 1)) a0.length)) then (bif ((decide (0 < x4_1)) && (decide (((gt a0 x4_1).path) = ((gt a0 (IntKind.wrap .i64 (x4_1 - 1))).path)))) then (some (.ret (x4_1, 18))) else (bif (!(decide (0 < x4_1)) || (inR (IntKind.wrap .i64 (x4_1 - 1)) a0.length)) then (bif (!(decide (0 < x4_1)) || (inR x4_1 a0.length)) then (bif (!(decide (0 < x4_1)) || (decide (((gt a0 (IntKind.wrap .i64 (x4_1 - 1))).path).length ≤ 1048576))) then (bif (!(decide (0 < x4_1)) || (decide (((gt a0 x4_1).path).length ≤ 1048576))) then (bif ((decide (0 < x4_1)) && (!(vC (cut 47 ((gt a0 (IntKind.wrap .i64 (x4_1 - 1))).path)) (cut 47 ((gt a0 x4_1).path))))) then (some (.ret (x4_1, 11))) else (bif inR x4_1 a0.length then (bif decide (((gt a0 x4_1).path).length ≤ 4611686018427387904) then (bif (decide ((ql ((gt a0 x4_1).path)) = ([] : List UInt8))) then (some (.nxt (IntKind.wrap .i64 (x4_1 + 1)))) else (bif inS 0 x4_1 (a0.length : Int) then (bif decide ((sub a0 0 x4_1).length ≤ 1048576) then (bif (decide ((qz (sub a0 0 x4_1) (ql ((gt a0 x4_1).path))) < 0)) then (some (.ret (x4_1, 12))) else (bif inR (qz (sub a0 0 x4_1) (ql ((gt a0 x4_1).path))) a0.length then (bif (!decide (((gt a0 (qz (sub a0 0 x4_1) (ql ((gt a0 x4_1).path)))).kind) = 3)) then (some (.ret (x4_1, 13))) else (some (.nxt (IntKind.wrap .i64 (x4_1 + 1))))) else none)) else none) else none)) else none) else none)) else none) else none) else none) else none)) else none) else none)) else none)) else (some (.brk ()))
def vm.sh (k : Nat) (a0 : List Rec) : Option (Int × Int) :=
  (qp (vm.b1 a0) k 0).bind fun z => match z with | .inl t => some t | .inr _ => some (0, 0)
theorem vm.eq (a0 : List Rec) (h0 : a0.length ≤ 1048576) (h1 : ∀ x ∈ a0, x.path.length ≤ 1048576) : ∃ k, vm.sh k a0 = some ((qA a0).1, (qA a0).2) := by
 refine ⟨a0.length + 1, ?_⟩
 unfold vm.sh
 have hb : ∀ i : Nat, i < a0.length → vm.b1 a0 i = some (sc (if yD a0 i = 0 then none else some ((i : Int), yD a0 i) : Option (Int × Int)) ((i : Int) + 1)) := by
  intro i hi
  have hp := h1 _ (Jw hi)
  have hp2 : (a0.getD i default).path.length ≤ 4611686018427387904 := by omega
  simp only [vm.b1, yn, hi, decide_true, cond_true, qR hi, YP, vd hi (by omega), Bool.or_true, hp, hp2]
  have e16 : decide ((i : Int) = 16) = decide (i = 16) := by rw [decide_eq_decide]; omega
  rw [e16]
  unfold yD
  obtain ⟨r, hr⟩ : ∃ r, a0.getD i default = r := ⟨_, rfl⟩
  simp only [hr] at hp hp2 ⊢
  by_cases h16 : i = 16
  ·subst h16; simp
  ·simp only [h16, decide_false, cond_false, if_false]
   by_cases hf : qH r = 0
   ·simp only [hf, decide_true, Bool.not_true, cond_false, ne_eq, not_true_eq_false, if_false]
    by_cases hz : i = 0
    ·subst hz
     simp only [Int.natCast_zero, Int.lt_irrefl, decide_false, Bool.not_false, Bool.true_or, cond_true, Bool.false_and, cond_false, Nat.lt_irrefl, false_and, if_false]
     by_cases hpp : ql r.path = []
     ·simp [hpp]
     ·simp only [hpp, decide_false, cond_false, if_false]
      have hs : sub a0 0 ((0 : Nat) : Int) = a0.take 0 := rfl
      simp only [Int.natCast_zero] at hs
      rw [QK (l := 0) (h := 0) (n := (a0.length : Int)) (by omega) (by omega) (by omega)]
      simp only [hs]
      simp [qz, yF]
    ·have hi1 : i - 1 < a0.length := by omega
     have hw : IntKind.wrap .i64 ((i : Int) - 1) = ((i - 1 : Nat) : Int) := by rw [wrap_small (by omega) (by omega)]; omega
     have hpos : (0 : Int) < (i : Int) := by omega
     have hpos' : 0 < i := by omega
     have hp3 := h1 _ (Jw hi1)
     simp only [hw, YP, qR hi1, hpos, hpos', hp3, decide_true, Bool.not_true, Bool.false_or, Bool.or_true, cond_true, Bool.true_and, true_and]
     obtain ⟨q, hq0⟩ : ∃ q, a0.getD (i - 1) default = q := ⟨_, rfl⟩
     simp only [hq0]
     by_cases hq : r.path = q.path
     ·simp [hq]
     ·simp only [hq, decide_false, cond_false, if_false]
      cases hL : vC (cut 47 q.path) (cut 47 r.path) with
      | false => simp
      | true =>
       simp only [Bool.not_true, cond_false, Bool.true_eq_false, if_false]
       by_cases hpp : ql r.path = []
       ·simp [hpp]
       ·simp only [hpp, decide_false, cond_false, if_false]
        have hs : sub a0 0 (i : Int) = a0.take i := by simp [sub]
        have hl : (a0.take i).length ≤ 1048576 := by simp; omega
        rw [QK (l := 0) (h := (i : Int)) (n := (a0.length : Int)) (by omega) (by omega) (by omega)]
        simp only [hs, cond_true, hl, decide_true]
        by_cases hk : qz (a0.take i) (ql r.path) < 0
        ·simp [hk]
        ·simp only [hk, decide_false, cond_false, if_false, Ji (Nat.le_of_lt hi) hk, cond_true]
         by_cases hd : (gt a0 (qz (a0.take i) (ql r.path))).kind = 3
         ·simp [hd]
         ·simp [hd]
   ·simp [hf]
 have hn : vm.b1 a0 a0.length = some (.brk ()) := by simp [vm.b1]
 rw [y6 a0.length _ hb hn _ (by omega)]
 unfold qA
 cases (List.range a0.length).findSome? _ <;> rfl
def jS.sh (a0 : List Rec) : Option (Bool) :=
 bif decide (a0.length ≤ 1048576) then (bif decide (∀ x ∈ a0, x.path.length ≤ 1048576) then (some (decide (((qA a0).2) = 0))) else none) else none
theorem jS.eq (a0 : List Rec) (h0 : a0.length ≤ 1048576) (h1 : ∀ x ∈ a0, x.path.length ≤ 1048576) : jS.sh a0 = some (decide ((qA a0).2 = 0)) := by
 simp only [jS.sh, h0, decide_true, cond_true, decide_eq_true h1]
def faultAt (l : List Rec) (i : Int) : Int :=
 if 16 ≤ i then 6 else if qH (gt l i) ≠ 0 then qH (gt l i) else if 0 < i ∧ (gt l (i - 1)).path = (gt l i).path then 18
 else if 0 < i ∧ yp (gt l (i - 1)).path (gt l i).path = false then 11 else if ql (gt l i).path = [] then 0
 else if qz (l.take i.toNat) (ql (gt l i).path) < 0 then 12 else if (gt l (qz (l.take i.toNat) (ql (gt l i).path))).kind ≠ 3 then 13 else 0
def qn.sh (a0 : List Rec) (a1 : Int) : Option (Int) :=
  bif inR a1 a0.length then (bif decide (((gt a0 a1).path).length ≤ 1048576) then ((bif (!decide ((ql ((gt a0 a1).path)) = ([] : List UInt8))) then (bif inS 0 a1 (a0.length : Int) then (bif decide ((sub a0 0 a1).length ≤ 1048576) then (some (.inr (qz (sub a0 0 a1) (ql ((gt a0 a1).path))))) else none) else none) else (some (.inr 0)) : Option ((Int) ⊕ (Int))).bind fun z => match z with | .inl t => some t | .inr x6_19 => bif (!(decide (0 < a1)) || (inR (if ((IntKind.wrap .i64 (a1 - 1)) < 0 : Prop) then 0 else (IntKind.wrap .i64 (a1 - 1))) a0.length)) then (bif (!(decide (0 < a1)) || (inR (if ((IntKind.wrap .i64 (a1 - 1)) < 0 : Prop) then 0 else (IntKind.wrap .i64 (a1 - 1))) a0.length)) then (bif decide (((gt a0 a1).path).length ≤ 1048576) then (bif (!(!decide ((ql ((gt a0 a1).path)) = ([] : List UInt8))) || (inR (if (x6_19 < 0 : Prop) then 0 else x6_19) a0.length)) then (bif decide (([.inl (!(decide (qH (gt a0 a1) = 0))), .inr (qH (gt a0 a1)), .inl ((decide (0 < a1)) && (decide (((gt a0 (if ((IntKind.wrap .i64 (a1 - 1)) < 0 : Prop) then 0 else (IntKind.wrap .i64 (a1 - 1)))).path) = ((gt a0 a1).path)))), .inr 18, .inl ((decide (0 < a1)) && (!(yp ((gt a0 (if ((IntKind.wrap .i64 (a1 - 1)) < 0 : Prop) then 0 else (IntKind.wrap .i64 (a1 - 1)))).path) ((gt a0 a1).path)))), .inr 11, .inl (decide (x6_19 < 0)), .inr 12, .inl ((!decide ((ql ((gt a0 a1).path)) = ([] : List UInt8))) && (!decide (((gt a0 (if (x6_19 < 0 : Prop) then 0 else x6_19)).kind) = 3))), .inr 13] : List (Bool ⊕ Int)).length ≤ 4611686018427387904) then (bif decide (([.inl (decide (16 ≤ a1)), .inr 6, .inl true, .inr (vp ([.inl (!(decide (qH (gt a0 a1) = 0))), .inr (qH (gt a0 a1)), .inl ((decide (0 < a1)) && (decide (((gt a0 (if ((IntKind.wrap .i64 (a1 - 1)) < 0 : Prop) then 0 else (IntKind.wrap .i64 (a1 - 1)))).path) = ((gt a0 a1).path)))), .inr 18, .inl ((decide (0 < a1)) && (!(yp ((gt a0 (if ((IntKind.wrap .i64 (a1 - 1)) < 0 : Prop) then 0 else (IntKind.wrap .i64 (a1 - 1)))).path) ((gt a0 a1).path)))), .inr 11, .inl (decide (x6_19 < 0)), .inr 12, .inl ((!decide ((ql ((gt a0 a1).path)) = ([] : List UInt8))) && (!decide (((gt a0 (if (x6_19 < 0 : Prop) then 0 else x6_19)).kind) = 3))), .inr 13] : List (Bool ⊕ Int)))] : List (Bool ⊕ Int)).length ≤ 4611686018427387904) then (some (vp ([.inl (decide (16 ≤ a1)), .inr 6, .inl true, .inr (vp ([.inl (!(decide (qH (gt a0 a1) = 0))), .inr (qH (gt a0 a1)), .inl ((decide (0 < a1)) && (decide (((gt a0 (if ((IntKind.wrap .i64 (a1 - 1)) < 0 : Prop) then 0 else (IntKind.wrap .i64 (a1 - 1)))).path) = ((gt a0 a1).path)))), .inr 18, .inl ((decide (0 < a1)) && (!(yp ((gt a0 (if ((IntKind.wrap .i64 (a1 - 1)) < 0 : Prop) then 0 else (IntKind.wrap .i64 (a1 - 1)))).path) ((gt a0 a1).path)))), .inr 11, .inl (decide (x6_19 < 0)), .inr 12, .inl ((!decide ((ql ((gt a0 a1).path)) = ([] : List UInt8))) && (!decide (((gt a0 (if (x6_19 < 0 : Prop) then 0 else x6_19)).kind) = 3))), .inr 13] : List (Bool ⊕ Int)))] : List (Bool ⊕ Int)))) else none) else none) else none) else none) else none) else none) else none) else none
theorem Gf (b : Bool) (n : Int) (l : List (Bool ⊕ Int)) : vp (.inl b :: .inr n :: l) = if b then n else vp l := rfl
theorem qn.eq (a0 : List Rec) (a1 : Int) (h0 : a0.length ≤ 1048576) (h1 : ∀ x ∈ a0, x.path.length ≤ 1048576) (h2 : inR a1 a0.length = true) : qn.sh a0 a1 = some (faultAt a0 a1) := by
 obtain ⟨i, rfl⟩ : ∃ i : Nat, a1 = i := ⟨a1.toNat, by have := yR h2; omega⟩
 have hi : i < a0.length := by have := yT h2; omega
 have hp := h1 _ (Jw hi)
 obtain ⟨r, hr⟩ : ∃ r, a0.getD i default = r := ⟨_, rfl⟩
 have hs : sub a0 0 (i : Int) = a0.take i := by simp [sub]
 have hl : (a0.take i).length ≤ 1048576 := by simp; omega
 have hm : (if (IntKind.wrap .i64 ((i : Int) - 1) < 0 : Prop) then (0 : Int) else IntKind.wrap .i64 ((i : Int) - 1)) = ((i - 1 : Nat) : Int) := by
  rw [wrap_small (by omega) (by omega)]; split <;> omega
 have hi1 : i - 1 < a0.length := by omega
 obtain ⟨q, hq⟩ : ∃ q, a0.getD (i - 1) default = q := ⟨_, rfl⟩
 have hq2 : ∀ _ : 0 < i, gt a0 ((i : Int) - 1) = q := fun h => by
  have : ((i : Int) - 1) = ((i - 1 : Nat) : Int) := by omega
  rw [this, YP, hq]
 rw [hr] at hp
 have e16 : decide ((16 : Int) ≤ (i : Int)) = decide (16 ≤ i) := by rw [decide_eq_decide]; omega
 have epos : decide ((0 : Int) < (i : Int)) = decide (0 < i) := by rw [decide_eq_decide]; omega
 have e16' : ((16 : Int) ≤ (i : Int)) = (16 ≤ i) := propext (by omega)
 have epos' : ((0 : Int) < (i : Int)) = (0 < i) := propext (by omega)
 unfold qn.sh faultAt
 simp only [qR hi, YP, hr, hp, hs, hl, hm, hq, qR hi1, e16, epos, decide_true, cond_true, Bool.or_true, Int.toNat_natCast, QK (l := 0) (h := (i : Int)) (n := (a0.length : Int)) (by omega) (by omega) (by omega), Gf, List.length_cons, List.length_nil]
 simp only [e16', epos']
 by_cases hpp : ql r.path = []
 ·have h00 : inR (if (0 : Int) < 0 then 0 else 0) a0.length = true := Vx (by omega) (by simp; omega)
  by_cases c0 : 0 < i
  ·simp only [hq2 c0]
   by_cases c16 : 16 ≤ i <;> by_cases cf : qH r = 0 <;> by_cases cq : q.path = r.path <;> cases cl : yp q.path r.path <;> simp [hpp, c16, cf, cq, cl, c0, vp]
  ·by_cases c16 : 16 ≤ i <;> by_cases cf : qH r = 0 <;> simp [hpp, c16, cf, c0, vp]
 ·by_cases ck : qz (a0.take i) (ql r.path) < 0
  ·have h00 : inR 0 a0.length = true := Vx (by omega) (by omega)
   by_cases c0 : 0 < i
   ·simp only [hq2 c0]
    by_cases c16 : 16 ≤ i <;> by_cases cf : qH r = 0 <;> by_cases cq : q.path = r.path <;> cases cl : yp q.path r.path <;> simp [hpp, c16, cf, cq, cl, c0, ck, h00]
   ·by_cases c16 : 16 ≤ i <;> by_cases cf : qH r = 0 <;> simp [hpp, c16, cf, c0, ck, h00]
  ·have hk := Ji (Nat.le_of_lt hi) ck
   by_cases cd : (gt a0 (qz (a0.take i) (ql r.path))).kind = 3
   ·by_cases c0 : 0 < i
    ·simp only [hq2 c0]
     by_cases c16 : 16 ≤ i <;> by_cases cf : qH r = 0 <;> by_cases cq : q.path = r.path <;> cases cl : yp q.path r.path <;> simp [hpp, c16, cf, cq, cl, c0, ck, hk, cd, vp]
    ·by_cases c16 : 16 ≤ i <;> by_cases cf : qH r = 0 <;> simp [hpp, c16, cf, c0, ck, hk, cd, vp]
   ·by_cases c0 : 0 < i
    ·simp only [hq2 c0]
     by_cases c16 : 16 ≤ i <;> by_cases cf : qH r = 0 <;> by_cases cq : q.path = r.path <;> cases cl : yp q.path r.path <;> simp [hpp, c16, cf, cq, cl, c0, ck, hk, cd, vp]
    ·by_cases c16 : 16 ≤ i <;> by_cases cf : qH r = 0 <;> simp [hpp, c16, cf, c0, ck, hk, cd, vp]
theorem jh {r : Rec} (h : qH r = 0) : qK r.path = true := by
 unfold qH at h
 split at h
 ·cases h
 ·split at h
  ·cases h
  ·rename_i h2; simpa using h2
theorem JL {l : List Rec} {i : Nat} (h : yD l i = 0) : qH (l.getD i default) = 0 := by
 unfold yD at h
 split at h
 ·cases h
 ·split at h
  ·rename_i h1; exact absurd h h1
  ·rename_i h1; simpa using h1
theorem Gy (l : List Rec) (i : Nat) (hp : ∀ j, j < i → yD l j = 0) : faultAt l (i : Int) = yD l i := by
 have h16 : ¬ 16 < i := fun h => by have := hp 16 h; simp [yD] at this
 unfold faultAt yD
 have e : ((16 : Int) ≤ (i : Int)) = (i = 16) := propext (by omega)
 have epos : ((0 : Int) < (i : Int)) = (0 < i) := propext (by omega)
 simp only [e, epos, YP, Int.toNat_natCast]
 by_cases c16 : i = 16
 ·simp [c16]
 ·simp only [c16, if_false]
  obtain ⟨r, hr⟩ : ∃ r, l.getD i default = r := ⟨_, rfl⟩
  simp only [hr]
  by_cases cf : qH r = 0
  ·simp only [cf, ne_eq, not_true_eq_false, if_false]
   by_cases c0 : 0 < i
   ·have hg : gt l ((i : Int) - 1) = l.getD (i - 1) default := by
     have : ((i : Int) - 1) = ((i - 1 : Nat) : Int) := by omega
     rw [this, YP]
    obtain ⟨q, hq⟩ : ∃ q, l.getD (i - 1) default = q := ⟨_, rfl⟩
    have hqok : qK q.path = true := by rw [← hq]; exact jh (JL (hp (i - 1) (by omega)))
    have hrok := jh cf
    have e1 : yp q.path r.path = vC (cut 47 q.path) (cut 47 r.path) := by simp [yp, hqok, hrok]
    have e2 : (q.path = r.path) = (r.path = q.path) := propext ⟨Eq.symm, Eq.symm⟩
    simp only [hg, hq, e1, e2, c0, true_and]
   ·simp only [c0, false_and, if_false]
  ·simp only [cf, ne_eq, not_false_eq_true, if_true]
def vY.b1 (a0 : List Rec) : Int → Option (Step (Int × Int) (Int) (Unit)) :=
 fun x8_1 => bif (decide (x8_1 < (a0.length : Int))) then (bif decide (a0.length ≤ 1048576) then (bif decide (∀ x ∈ a0, x.path.length ≤ 1048576) then (bif decide (inR x8_1 a0.length = true) then (bif (!decide ((faultAt a0 x8_1) = 0)) then (some (.ret (x8_1, (faultAt a0 x8_1)))) else (some (.nxt (IntKind.wrap .i64 (x8_1 + 1))))) else none) else none) else none) else (some (.brk ()))
def vY.sh (k : Nat) (a0 : List Rec) : Option (Int × Int) :=
  (qp (vY.b1 a0) k 0).bind fun z => match z with | .inl t => some t | .inr _ => some (0, 0)
theorem vY.eq (a0 : List Rec) (h0 : a0.length ≤ 1048576) (h1 : ∀ x ∈ a0, x.path.length ≤ 1048576) : ∃ k, vY.sh k a0 = some ((qA a0).1, (qA a0).2) := by
 refine ⟨a0.length + 1, ?_⟩
 unfold vY.sh
 have hb : ∀ i : Nat, i < a0.length → vY.b1 a0 i = some (sc (if faultAt a0 i = 0 then none else some ((i : Int), faultAt a0 i) : Option (Int × Int)) ((i : Int) + 1)) := by
  intro i hi
  simp only [vY.b1, yn, hi, decide_true, cond_true, qR hi, h0, decide_eq_true h1, vd hi (by omega)]
  by_cases hf : faultAt a0 i = 0 <;> simp [hf]
 have hn : vY.b1 a0 a0.length = some (.brk ()) := by simp [vY.b1]
 rw [y6 a0.length _ hb hn _ (by omega)]
 have hag := JX (f := fun i => if yD a0 i = 0 then none else some ((i : Int), yD a0 i)) (g := fun i => if faultAt a0 i = 0 then none else some ((i : Int), faultAt a0 i)) a0.length a0.length 0 (by omega) (fun j hj => by omega) (fun i _ hp => by
  have : faultAt a0 i = yD a0 i := Gy a0 i fun j hj => by
   have := hp j hj
   by_cases h : yD a0 j = 0
   ·exact h
   ·simp [h] at this
  simp only [this])
 rw [List.range_eq_range', hag, ← List.range_eq_range']
 unfold qA
 cases (List.range a0.length).findSome? _ <;> rfl
def yh.sh (a0 : List Rec) : Option (Int × Int) :=
 bif (decide (4096 < a0.length)) then (some (0, 2)) else (bif decide (a0.length ≤ 1048576) then (bif decide (∀ x ∈ a0, x.path.length ≤ 1048576) then (some ((qA a0).1, (qA a0).2)) else none) else none)
theorem yh.eq (a0 : List Rec) (h0 : a0.length ≤ 1048576) (h1 : ∀ x ∈ a0, x.path.length ≤ 1048576) : yh.sh a0 = some ((vx a0).1, (vx a0).2) := by
 unfold yh.sh vx
 by_cases h : 4096 < a0.length
 ·simp [h]
 ·simp only [h, h0, decide_false, decide_true, cond_false, cond_true, if_false, decide_eq_true h1]
def jx.sh (a0 : List Rec) : Option (Bool) :=
 bif decide (a0.length ≤ 1048576) then (bif decide (∀ x ∈ a0, x.path.length ≤ 1048576) then (some (decide (((vx a0).2) = 0))) else none) else none
theorem jx.eq (a0 : List Rec) (h0 : a0.length ≤ 1048576) (h1 : ∀ x ∈ a0, x.path.length ≤ 1048576) : jx.sh a0 = some (decide ((vx a0).2 = 0)) := by
 simp only [jx.sh, h0, decide_true, cond_true, decide_eq_true h1]
theorem findR_in {l : List Rec} {p : List UInt8} (h : ¬ qz l p < 0) : inR (qz l p) l.length = true := (findI_get _ l (by unfold qz at h; omega)).1
def QA (l : List Nd) (p : List UInt8) : Int := yF (fun r => decide (r.path = p)) l
def recOf (n : Nd) : Rec := ⟨n.kind, n.path, n.body, n.mode, false⟩
def ndOf (r : Rec) : Nd := ⟨r.kind, r.path, r.body, r.mode⟩
def Xx (n : Nd) : Bool := decide (qH (recOf n) = 0) && !decide (n.kind = 4)
theorem G9 {n : Nd} (h : Xx n = true) : qK n.path = true := by
 simp only [Xx, Bool.and_eq_true, decide_eq_true_eq] at h
 exact jh h.1
theorem gtake {α : Type} [Inhabited α] (l : List α) (i : Nat) (k : Int) (h0 : 0 ≤ k) (h : k < (l.take i).length) : gt (l.take i) k = gt l k := by
 obtain ⟨n, rfl⟩ : ∃ n : Nat, k = n := ⟨k.toNat, by omega⟩
 have : n < i ∧ n < l.length := by simp at h; omega
 simp only [vI, List.getD_eq_getElem?_getD, List.getElem?_take, this.1, if_true]
theorem findN_lt (l : List Nd) (p : List UInt8) : QA l p < l.length := YG _ _
end Go.UL
