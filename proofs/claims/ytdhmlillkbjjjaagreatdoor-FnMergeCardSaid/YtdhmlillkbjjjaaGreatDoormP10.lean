import Derived.Test.YtdhmlillkbjjjaaGreatDoormP4
set_option linter.unusedVariables false
set_option linter.unusedSimpArgs false
namespace Go.UL
open Go.RowKit
theorem GA {β : Type} {f g : Nat → Option β} (n : Nat) : ∀ (m i : Nat), i + m = n → (∀ j, j < i → f j = none) → (∀ i, i < n → (∀ j, j < i → f j = none) → g i = f i) → (List.range' i m).findSome? g = (List.range' i m).findSome? f := by
  intro m
  induction m with
  | zero => intro i _ _ _; rfl
  | succ m ih =>
    intro i hn hp h
    simp only [List.range'_succ, List.findSome?_cons, h i (by omega) hp]
    cases hf : f i with
    | some t => rfl
    | none => exact ih (i + 1) (by omega) (fun j hj => by by_cases e : j = i
                                                          · subst e; exact hf
                                                          · exact hp j (by omega)) h
def jf {α : Type} (q : α → Bool) : List α → Int
 | [] => -1
 | x :: l => if q x then 0 else if jf q l = -1 then -1 else jf q l + 1
theorem Y3 {α : Type} {p : α → Option Bool} {q : α → Bool} : ∀ {l : List α}, (∀ x ∈ l, p x = some (q x)) → Vj p l = some (jf q l) := by
 intro l
 induction l with
 | nil => intro _; rfl
 | cons x l ih =>
  intro h
  simp only [Vj, jf, h x (by simp), Option.bind_some]
  rw [ih fun y hy => h y (by simp [hy])]
  cases q x <;> simp
theorem XZ {α : Type} (q : α → Bool) (l : List α) : -1 ≤ jf q l := (Yz (p := fun x => some (q x)) (Y3 (fun _ _ => rfl))).1
theorem YT {α : Type} (q : α → Bool) : ∀ (l : List α), jf q l < l.length := by
  intro l
  induction l with
  | nil => simp [jf]
  | cons x l ih => simp only [jf, List.length_cons]; split
                   · omega
                   · split <;> omega
theorem GG {α : Type} [Inhabited α] (q : α → Bool) : ∀ (l : List α), 0 ≤ jf q l → inR (jf q l) l.length = true ∧ q (gt l (jf q l)) = true := by
 intro l h
 refine ⟨QU h (YT q l), ?_⟩
 induction l with
 | nil => simp [jf] at h
 | cons x l ih =>
  simp only [jf] at h ⊢
  by_cases hq : q x = true
  ·simp [hq, gt]
  ·simp only [hq] at h ⊢
   by_cases hm : jf q l = -1
   ·simp [hm] at h
   ·have hge := XZ q l
    have := ih (by omega)
    simp only [hm, if_false, Bool.false_eq_true]
    have e : (jf q l + 1).toNat = (jf q l).toNat + 1 := by omega
    simpa [gt, e] using this
theorem findI_run {α : Type} [Inhabited α] (q : α → Bool) (l : List α) (b : Int → Option (Step Int Int Unit)) (hb : ∀ i : Nat, i < l.length → b i = bif q (l.getD i default) then some (.ret (i : Int)) else some (.nxt ((i : Int) + 1))) (hn : b l.length = some (.brk ())) :
  qn b (l.length + 1) 0 = some (if jf q l = -1 then .inr () else .inl (jf q l)) := by
 have := Yd (p := fun x => some (q x)) l l.length 0 (by omega) (jf q l) (by simpa using Y3 (p := fun x => some (q x)) (q := q) (l := l) (fun _ _ => rfl)) b (fun i hi => by rw [hb i hi]; rfl) hn (l.length + 1) (by omega)
 simpa using this
def jD : Rec := ⟨0, [], [], 0, false⟩
def made (r : Rec) : Rec × Int := if qz r = 0 then (r, 0) else (jD, qz r)
theorem len_dec (l : List UInt8) : decide ((65536 : Int) < (l.length : Int)) = decide (65536 < l.length) := by rw [decide_eq_decide]; omega
def vg : List UInt8 → Int
 | [] => -1
 | b :: l => if vg l = -1 then (if bn b = 47 then 0 else -1) else vg l + 1
theorem Qr (t : List UInt8) : (vg t = -1 ∧ ∀ j, j < t.length → bn (t.getD j 0) ≠ 47) ∨ ∃ i : Nat, i < t.length ∧ vg t = i ∧ bn (t.getD i 0) = 47 ∧ ∀ j, i < j → j < t.length → bn (t.getD j 0) ≠ 47 := by
 induction t with
 | nil => left; exact ⟨rfl, by simp⟩
 | cons b l ih =>
  rcases ih with ⟨h1, h2⟩ | ⟨i, hi, h1, h2, h3⟩
  ·by_cases hb : bn b = 47
   ·right
    refine ⟨0, by simp, by simp [vg, h1, hb], by simpa using hb, ?_⟩
    intro j hj hl
    obtain ⟨j, rfl⟩ : ∃ k, j = k + 1 := ⟨j - 1, by omega⟩
    simpa using h2 j (by simpa using hl)
   ·left
    refine ⟨by simp [vg, h1, hb], ?_⟩
    intro j hl
    cases j with
    | zero => simpa using hb
    | succ j => simpa using h2 j (by simpa using hl)
  ·right
   refine ⟨i + 1, by simpa using hi, ?_, by simpa using h2, ?_⟩
   ·have : vg l ≠ -1 := by rw [h1]; omega
    simp only [vg, this, if_false, h1]; omega
   ·intro j hj hl
    obtain ⟨j, rfl⟩ : ∃ k, j = k + 1 := ⟨j - 1, by omega⟩
    simpa using h3 j (by omega) (by simpa using hl)
theorem VE {t : List UInt8} (h : ∀ j, j < t.length → bn (t.getD j 0) ≠ 47) : vg t = -1 := by
 rcases Qr t with ⟨h1, _⟩ | ⟨i, hi, _, h2, _⟩
 ·exact h1
 ·exact absurd h2 (h i hi)
theorem Vw {t : List UInt8} {i : Nat} (hi : i < t.length) (h : bn (t.getD i 0) = 47) (hn : ∀ j, i < j → j < t.length → bn (t.getD j 0) ≠ 47) : vg t = i := by
 rcases Qr t with ⟨_, h2⟩ | ⟨k, hk, h1, h2, h3⟩
 ·exact absurd h (h2 i hi)
 ·by_cases e : i = k
  ·rw [h1, e]
  ·by_cases hlt : i < k
   ·exact absurd h2 (hn k hlt hk)
   ·exact absurd h (h3 i (by omega) hi)
theorem YP (t : List UInt8) : -1 ≤ vg t := by
 rcases Qr t with ⟨h, _⟩ | ⟨i, _, h, _⟩ <;> omega
theorem Yy (t : List UInt8) : vg t < t.length := by
 rcases Qr t with ⟨h, _⟩ | ⟨i, hi, h, _⟩ <;> omega
def qb (t : List UInt8) : List UInt8 := t.take (vg t).toNat
theorem VM (t : List UInt8) : (qb t).length ≤ t.length := by simp [qb]; omega
def qZ.b1 (a0 : List UInt8) : Int → Option (Step (List UInt8) (Int) (Unit)) :=
 fun x3_1 => bif (decide (0 ≤ x3_1)) then (bif inR x3_1 a0.length then (bif (decide ((byt a0 x3_1) = 47)) then (bif inS 0 x3_1 (a0.length : Int) then (some (.ret (sub a0 0 x3_1))) else none) else (some (.nxt (IntKind.wrap .i64 (x3_1 - 1))))) else none) else (some (.brk ()))
def qZ.sh (k : Nat) (a0 : List UInt8) : Option (List UInt8) :=
  (qn (qZ.b1 a0) k (IntKind.wrap .i64 ((a0.length : Int) - 1))).bind fun z => match z with | .inl t => some t | .inr _ => some ([] : List UInt8)
theorem qZ.eq (a0 : List UInt8) (h : a0.length ≤ 4611686018427387904) : ∃ k, qZ.sh k a0 = some (qb a0) := by
 refine ⟨a0.length + 1, ?_⟩
 unfold qZ.sh
 rw [wrap_small (n := (a0.length : Int) - 1) (by omega) (by omega)]
 have key : ∀ (m k : Nat), m ≤ a0.length → m < k → (∀ j, m ≤ j → j < a0.length → bn (a0.getD j 0) ≠ 47) →
   qn (qZ.b1 a0) k ((m : Int) - 1) = some (if vg a0 = -1 then .inr () else .inl (qb a0)) := by
  intro m
  induction m with
  | zero =>
   intro k _ hk hn
   obtain ⟨k, rfl⟩ : ∃ j, k = j + 1 := ⟨k - 1, by omega⟩
   have := VE fun j hj => hn j (by omega) hj
   have h0 : ¬ (0 : Int) ≤ ((0 : Nat) : Int) - 1 := by omega
   simp [qn, qZ.b1, this]
  | succ m ih =>
   intro k hm hk hn
   obtain ⟨k, rfl⟩ : ∃ j, k = j + 1 := ⟨k - 1, by omega⟩
   have hlt : m < a0.length := by omega
   have e : ((m + 1 : Nat) : Int) - 1 = (m : Int) := by omega
   rw [e]
   have h0 : (0 : Int) ≤ (m : Int) := by omega
   simp only [qn, qZ.b1, h0, decide_true, cond_true, qT hlt, Jw]
   by_cases hb : bn (a0.getD m 0) = 47
   ·have hl := Vw hlt hb fun j hj hj2 => hn j (by omega) hj2
    have hne : vg a0 ≠ -1 := by omega
    simp only [hb, decide_true, cond_true, Vl (l := 0) (h := (m : Int)) (n := (a0.length : Int)) (by omega) (by omega) (by omega), Option.bind_some, hne, if_false]
    simp [sub, qb, hl]
   ·simp only [hb, decide_false, cond_false, Option.bind_some]
    rw [wrap_small (n := (m : Int) - 1) (by omega) (by omega)]
    exact ih k (by omega) (by omega) fun j hj hj2 => by
     by_cases e : j = m
     ·subst e; exact hb
     ·exact hn j (by omega) hj2
 rw [key a0.length (a0.length + 1) (by omega) (by omega) (fun j h1 h2 => by omega)]
 by_cases hl : vg a0 = -1
 ·simp [hl, qb]
 ·simp [hl]
def y6.sh (a0 : List UInt8) : Option (List UInt8) :=
 bif decide (a0.length ≤ 1048576) then (bif decide (([47] : List UInt8) = [47]) then (bif inS 0 (if ((vg a0) < 0 : Prop) then 0 else (vg a0)) (a0.length : Int) then (some (sub a0 0 (if ((vg a0) < 0 : Prop) then 0 else (vg a0)))) else none) else none) else none
theorem y6.eq (a0 : List UInt8) (h : a0.length ≤ 1048576) : y6.sh a0 = some (qb a0) := by
 unfold y6.sh
 have hge := YP a0
 have hlt := Yy a0
 have hm : (if (vg a0 < 0 : Prop) then 0 else vg a0) = ((vg a0).toNat : Int) := by split <;> omega
 simp only [h, decide_true, cond_true, hm]
 rw [Vl (l := 0) (h := ((vg a0).toNat : Int)) (n := (a0.length : Int)) (by omega) (by omega) (by omega)]
 simp [sub, qb]
 omega
def qt (l : List Rec) (p : List UInt8) : Int := jf (fun r => decide (r.path = p)) l
def yc.b1 (a0 : List Rec) (a1 : List UInt8) : Int → Option (Step (Int) (Int) (Unit)) :=
 fun x5_1 => bif (decide (x5_1 < (a0.length : Int))) then (bif inR x5_1 a0.length then (bif (decide (((gt a0 x5_1).path) = a1)) then (some (.ret x5_1)) else (some (.nxt (IntKind.wrap .i64 (x5_1 + 1))))) else none) else (some (.brk ()))
def yc.sh (k : Nat) (a0 : List Rec) (a1 : List UInt8) : Option (Int) :=
  (qn (yc.b1 a0 a1) k 0).bind fun z => match z with | .inl t => some t | .inr _ => some (-1)
theorem yc.eq (a0 : List Rec) (a1 : List UInt8) (h : a0.length ≤ 1048576) : ∃ k, yc.sh k a0 a1 = some (qt a0 a1) := by
 refine ⟨a0.length + 1, ?_⟩
 unfold yc.sh qt
 rw [findI_run (fun r : Rec => decide (r.path = a1)) a0 (yc.b1 a0 a1) (fun i hi => by
  simp only [yc.b1, yY, hi, decide_true, cond_true, qT hi, vJ, vR hi (by omega)]
  rfl) (by simp [yc.b1])]
 by_cases hm : jf (fun r : Rec => decide (r.path = a1)) a0 = -1
 ·simp [hm]
 ·simp [hm]
def yF.sh (a0 : List Rec) : Option (Bool) :=
 some (decide (4096 < (a0.length : Int)))
theorem yF.eq (a0 : List Rec) : yF.sh a0 = some (decide (4096 < a0.length)) := by
 have : (4096 : Int) < (a0.length : Int) ↔ 4096 < a0.length := by omega
 simp [yF.sh, this]
def Qg.sh (a0 : Rec) (a1 : List UInt8) : Option (Bool) :=
 some (decide (a0.path = a1))
theorem Qg.eq (a0 : Rec) (a1 : List UInt8) : Qg.sh a0 a1 = some (decide (a0.path = a1)) := rfl
def qS.b1 (a0 : List Rec) (a1 : Rec → Option Bool) : Int → Option (Step (Int) (Int) (Unit)) :=
 fun x8_1 => bif (decide (x8_1 < (a0.length : Int))) then (bif inR x8_1 a0.length then ((a1 (gt a0 x8_1)).bind fun z22 => bif z22 then (some (.ret x8_1)) else (some (.nxt (IntKind.wrap .i64 (x8_1 + 1))))) else none) else (some (.brk ()))
def qS.sh (k : Nat) (a0 : List Rec) (a1 : Rec → Option Bool) : Option (Int) :=
  (qn (qS.b1 a0 a1) k 0).bind fun z => match z with | .inl t => some t | .inr _ => some (-1)
theorem qS.eq (a0 : List Rec) (a1 : Rec → Option Bool) (h : a0.length ≤ 4611686018427387904) {r : Int} (H : Vj a1 a0 = some r) : ∃ k, qS.sh k a0 a1 = some r := by
 refine ⟨a0.length + 1, ?_⟩
 have := Yd a0 a0.length 0 (by omega) r (by simpa using H) (qS.b1 a0 a1) (fun i hi => by
  simp only [qS.b1, yY, hi, decide_true, cond_true, qT hi, vJ, vR hi h]) (by simp [qS.b1]) (a0.length + 1) (by omega)
 simp only [Int.natCast_zero] at this
 unfold qS.sh
 rw [this]
 by_cases hr : r = -1
 ·simp [hr]
 ·simp [hr]
def jO.sh (a0 : List Rec) (a1 : List UInt8) : Option (Int) :=
 bif decide (a0.length ≤ 4611686018427387904) then (((Vj (fun (x0_ : Rec) => some (decide (x0_.path = a1))) a0)).bind fun z12 => some z12) else none
theorem jO.eq (a0 : List Rec) (a1 : List UInt8) (h : a0.length ≤ 1048576) : jO.sh a0 a1 = some (qt a0 a1) := by
 have h1 : a0.length ≤ 4611686018427387904 := by omega
 have h2 := Y3 (p := fun (x0_ : Rec) => some (decide (x0_.path = a1))) (q := fun r => decide (r.path = a1)) (l := a0) (fun _ _ => rfl)
 simp only [jO.sh, h1, decide_true, cond_true, h2, Option.bind_some, qt]
def y2 (l : List Rec) (i : Nat) : Int :=
 if i = 16 then 6 else if qz (l.getD i default) ≠ 0 then qz (l.getD i default)
 else if 0 < i ∧ (l.getD i default).path = (l.getD (i - 1) default).path then 18
 else if 0 < i ∧ vP (cut 47 (l.getD (i - 1) default).path) (cut 47 (l.getD i default).path) = false then 11
 else if qb (l.getD i default).path = [] then 0
 else if qt (l.take i) (qb (l.getD i default).path) < 0 then 12
 else if (gt l (qt (l.take i) (qb (l.getD i default).path))).kind ≠ 3 then 13 else 0
def qC (l : List Rec) : Int × Int := match (List.range l.length).findSome? (fun i => if y2 l i = 0 then none else some ((i : Int), y2 l i)) with
 | some x => x
 | none => (0, 0)
def qY (l : List Rec) : Int × Int := if 4096 < l.length then (0, 2) else qC l
theorem Y4 {α : Type} [Inhabited α] (l : List α) (i : Nat) : gt l (i : Int) = l.getD i default := rfl
theorem J1 {l : List Rec} {i : Nat} (h : i < l.length) : l.getD i default ∈ l := by
 have : l.getD i default = l[i] := by simp [List.getD_eq_getElem?_getD, List.getElem?_eq_getElem h]
 rw [this]; exact List.getElem_mem h
theorem J2 {l : List Rec} {p : List UInt8} {i : Nat} (hi : i ≤ l.length) (h : ¬ qt (l.take i) p < 0) : inR (qt (l.take i) p) l.length = true := by
 have h1 : qt (l.take i) p < (l.take i).length := YT _ _
 have h2 : (l.take i).length ≤ i := by simp; omega
 exact QU (by omega) (by omega)
def vm.b1 (a0 : List Rec) : Int → Option (Step (Int × Int) (Int) (Unit)) :=
 fun x4_1 => bif (decide (x4_1 < (a0.length : Int))) then (bif (decide (x4_1 = 16)) then (some (.ret (x4_1, 6))) else (bif inR x4_1 a0.length then (bif (!decide ((qz (gt a0 x4_1)) = 0)) then (some (.ret (x4_1, (qz (gt a0 x4_1))))) else (bif (!(decide (0 < x4_1)) || (inR x4_1 a0.length)) then (bif (!(decide (0 < x4_1)) || (inR (IntKind.wrap .i64 (x4_1 - 1)) a0.length)) then (bif ((decide (0 < x4_1)) && (decide (((gt a0 x4_1).path) = ((gt a0 (IntKind.wrap .i64 (x4_1 - 1))).path)))) then (some (.ret (x4_1, 18))) else (bif (!(decide (0 < x4_1)) || (inR (IntKind.wrap .i64 (x4_1 - 1)) a0.length)) then (bif (!(decide (0 < x4_1)) || (inR x4_1 a0.length)) then (bif (!(decide (0 < x4_1)) || (decide (((gt a0 (IntKind.wrap .i64 (x4_1 - 1))).path).length ≤ 1048576))) then (bif (!(decide (0 < x4_1)) || (decide (((gt a0 x4_1).path).length ≤ 1048576))) then (bif ((decide (0 < x4_1)) && (!(vP (cut 47 ((gt a0 (IntKind.wrap .i64 (x4_1 - 1))).path)) (cut 47 ((gt a0 x4_1).path))))) then (some (.ret (x4_1, 11))) else (bif inR x4_1 a0.length then (bif decide (((gt a0 x4_1).path).length ≤ 4611686018427387904) then (bif (decide ((qb ((gt a0 x4_1).path)) = ([] : List UInt8))) then (some (.nxt (IntKind.wrap .i64 (x4_1 + 1)))) else (bif inS 0 x4_1 (a0.length : Int) then (bif decide ((sub a0 0 x4_1).length ≤ 1048576) then (bif (decide ((qt (sub a0 0 x4_1) (qb ((gt a0 x4_1).path))) < 0)) then (some (.ret (x4_1, 12))) else (bif inR (qt (sub a0 0 x4_1) (qb ((gt a0 x4_1).path))) a0.length then (bif (!decide (((gt a0 (qt (sub a0 0 x4_1) (qb ((gt a0 x4_1).path)))).kind) = 3)) then (some (.ret (x4_1, 13))) else (some (.nxt (IntKind.wrap .i64 (x4_1 + 1))))) else none)) else none) else none)) else none) else none)) else none) else none) else none) else none)) else none) else none)) else none)) else (some (.brk ()))
def vm.sh (k : Nat) (a0 : List Rec) : Option (Int × Int) :=
  (qn (vm.b1 a0) k 0).bind fun z => match z with | .inl t => some t | .inr _ => some (0, 0)
theorem vm.eq (a0 : List Rec) (h0 : a0.length ≤ 1048576) (h1 : ∀ x ∈ a0, x.path.length ≤ 1048576) : ∃ k, vm.sh k a0 = some ((qC a0).1, (qC a0).2) := by
 refine ⟨a0.length + 1, ?_⟩
 unfold vm.sh
 have hb : ∀ i : Nat, i < a0.length → vm.b1 a0 i = some (sc (if y2 a0 i = 0 then none else some ((i : Int), y2 a0 i) : Option (Int × Int)) ((i : Int) + 1)) := by
  intro i hi
  have hp := h1 _ (J1 hi)
  have hp2 : (a0.getD i default).path.length ≤ 4611686018427387904 := by omega
  simp only [vm.b1, yY, hi, decide_true, cond_true, qT hi, Y4, vR hi (by omega), Bool.or_true, hp, hp2]
  have e16 : decide ((i : Int) = 16) = decide (i = 16) := by rw [decide_eq_decide]; omega
  rw [e16]
  unfold y2
  obtain ⟨r, hr⟩ : ∃ r, a0.getD i default = r := ⟨_, rfl⟩
  simp only [hr] at hp hp2 ⊢
  by_cases h16 : i = 16
  ·subst h16; simp
  ·simp only [h16, decide_false, cond_false, if_false]
   by_cases hf : qz r = 0
   ·simp only [hf, decide_true, Bool.not_true, cond_false, ne_eq, not_true_eq_false, if_false]
    by_cases hz : i = 0
    ·subst hz
     simp only [Int.natCast_zero, Int.lt_irrefl, decide_false, Bool.not_false, Bool.true_or, cond_true, Bool.false_and, cond_false, Nat.lt_irrefl, false_and, if_false]
     by_cases hpp : qb r.path = []
     ·simp [hpp]
     ·simp only [hpp, decide_false, cond_false, if_false]
      have hs : sub a0 0 ((0 : Nat) : Int) = a0.take 0 := rfl
      simp only [Int.natCast_zero] at hs
      rw [Vl (l := 0) (h := 0) (n := (a0.length : Int)) (by omega) (by omega) (by omega)]
      simp only [hs]
      simp [qt, jf]
    ·have hi1 : i - 1 < a0.length := by omega
     have hw : IntKind.wrap .i64 ((i : Int) - 1) = ((i - 1 : Nat) : Int) := by rw [wrap_small (by omega) (by omega)]; omega
     have hpos : (0 : Int) < (i : Int) := by omega
     have hpos' : 0 < i := by omega
     have hp3 := h1 _ (J1 hi1)
     simp only [hw, Y4, qT hi1, hpos, hpos', hp3, decide_true, Bool.not_true, Bool.false_or, Bool.or_true, cond_true, Bool.true_and, true_and]
     obtain ⟨q, hq0⟩ : ∃ q, a0.getD (i - 1) default = q := ⟨_, rfl⟩
     simp only [hq0]
     by_cases hq : r.path = q.path
     ·simp [hq]
     ·simp only [hq, decide_false, cond_false, if_false]
      cases hL : vP (cut 47 q.path) (cut 47 r.path) with
      | false => simp
      | true =>
       simp only [Bool.not_true, cond_false, Bool.true_eq_false, if_false]
       by_cases hpp : qb r.path = []
       ·simp [hpp]
       ·simp only [hpp, decide_false, cond_false, if_false]
        have hs : sub a0 0 (i : Int) = a0.take i := by simp [sub]
        have hl : (a0.take i).length ≤ 1048576 := by simp; omega
        rw [Vl (l := 0) (h := (i : Int)) (n := (a0.length : Int)) (by omega) (by omega) (by omega)]
        simp only [hs, cond_true, hl, decide_true]
        by_cases hk : qt (a0.take i) (qb r.path) < 0
        ·simp [hk]
        ·simp only [hk, decide_false, cond_false, if_false, J2 (Nat.le_of_lt hi) hk, cond_true]
         by_cases hd : (gt a0 (qt (a0.take i) (qb r.path))).kind = 3
         ·simp [hd]
         ·simp [hd]
   ·simp [hf]
 have hn : vm.b1 a0 a0.length = some (.brk ()) := by simp [vm.b1]
 rw [jg a0.length _ hb hn _ (by omega)]
 unfold qC
 cases (List.range a0.length).findSome? _ <;> rfl
def Qb.sh (a0 : List Rec) : Option (Bool) :=
 bif decide (a0.length ≤ 1048576) then (bif decide (∀ x ∈ a0, x.path.length ≤ 1048576) then (some (decide (((qC a0).2) = 0))) else none) else none
theorem Qb.eq (a0 : List Rec) (h0 : a0.length ≤ 1048576) (h1 : ∀ x ∈ a0, x.path.length ≤ 1048576) : Qb.sh a0 = some (decide ((qC a0).2 = 0)) := by
 simp only [Qb.sh, h0, decide_true, cond_true, decide_eq_true h1]
def faultAt (l : List Rec) (i : Int) : Int :=
 if 16 ≤ i then 6 else if qz (gt l i) ≠ 0 then qz (gt l i) else if 0 < i ∧ (gt l (i - 1)).path = (gt l i).path then 18
 else if 0 < i ∧ vQ (gt l (i - 1)).path (gt l i).path = false then 11 else if qb (gt l i).path = [] then 0
 else if qt (l.take i.toNat) (qb (gt l i).path) < 0 then 12 else if (gt l (qt (l.take i.toNat) (qb (gt l i).path))).kind ≠ 3 then 13 else 0
def ql.sh (a0 : List Rec) (a1 : Int) : Option (Int) :=
  bif inR a1 a0.length then (bif decide (((gt a0 a1).path).length ≤ 1048576) then ((bif (!decide ((qb ((gt a0 a1).path)) = ([] : List UInt8))) then (bif inS 0 a1 (a0.length : Int) then (bif decide ((sub a0 0 a1).length ≤ 1048576) then (some (.inr (qt (sub a0 0 a1) (qb ((gt a0 a1).path))))) else none) else none) else (some (.inr 0)) : Option ((Int) ⊕ (Int))).bind fun z => match z with | .inl t => some t | .inr x6_19 => bif (!(decide (0 < a1)) || (inR (if ((IntKind.wrap .i64 (a1 - 1)) < 0 : Prop) then 0 else (IntKind.wrap .i64 (a1 - 1))) a0.length)) then (bif (!(decide (0 < a1)) || (inR (if ((IntKind.wrap .i64 (a1 - 1)) < 0 : Prop) then 0 else (IntKind.wrap .i64 (a1 - 1))) a0.length)) then (bif decide (((gt a0 a1).path).length ≤ 1048576) then (bif (!(!decide ((qb ((gt a0 a1).path)) = ([] : List UInt8))) || (inR (if (x6_19 < 0 : Prop) then 0 else x6_19) a0.length)) then (bif decide (([.inl (!(decide (qz (gt a0 a1) = 0))), .inr (qz (gt a0 a1)), .inl ((decide (0 < a1)) && (decide (((gt a0 (if ((IntKind.wrap .i64 (a1 - 1)) < 0 : Prop) then 0 else (IntKind.wrap .i64 (a1 - 1)))).path) = ((gt a0 a1).path)))), .inr 18, .inl ((decide (0 < a1)) && (!(vQ ((gt a0 (if ((IntKind.wrap .i64 (a1 - 1)) < 0 : Prop) then 0 else (IntKind.wrap .i64 (a1 - 1)))).path) ((gt a0 a1).path)))), .inr 11, .inl (decide (x6_19 < 0)), .inr 12, .inl ((!decide ((qb ((gt a0 a1).path)) = ([] : List UInt8))) && (!decide (((gt a0 (if (x6_19 < 0 : Prop) then 0 else x6_19)).kind) = 3))), .inr 13] : List (Bool ⊕ Int)).length ≤ 4611686018427387904) then (bif decide (([.inl (decide (16 ≤ a1)), .inr 6, .inl true, .inr (vu ([.inl (!(decide (qz (gt a0 a1) = 0))), .inr (qz (gt a0 a1)), .inl ((decide (0 < a1)) && (decide (((gt a0 (if ((IntKind.wrap .i64 (a1 - 1)) < 0 : Prop) then 0 else (IntKind.wrap .i64 (a1 - 1)))).path) = ((gt a0 a1).path)))), .inr 18, .inl ((decide (0 < a1)) && (!(vQ ((gt a0 (if ((IntKind.wrap .i64 (a1 - 1)) < 0 : Prop) then 0 else (IntKind.wrap .i64 (a1 - 1)))).path) ((gt a0 a1).path)))), .inr 11, .inl (decide (x6_19 < 0)), .inr 12, .inl ((!decide ((qb ((gt a0 a1).path)) = ([] : List UInt8))) && (!decide (((gt a0 (if (x6_19 < 0 : Prop) then 0 else x6_19)).kind) = 3))), .inr 13] : List (Bool ⊕ Int)))] : List (Bool ⊕ Int)).length ≤ 4611686018427387904) then (some (vu ([.inl (decide (16 ≤ a1)), .inr 6, .inl true, .inr (vu ([.inl (!(decide (qz (gt a0 a1) = 0))), .inr (qz (gt a0 a1)), .inl ((decide (0 < a1)) && (decide (((gt a0 (if ((IntKind.wrap .i64 (a1 - 1)) < 0 : Prop) then 0 else (IntKind.wrap .i64 (a1 - 1)))).path) = ((gt a0 a1).path)))), .inr 18, .inl ((decide (0 < a1)) && (!(vQ ((gt a0 (if ((IntKind.wrap .i64 (a1 - 1)) < 0 : Prop) then 0 else (IntKind.wrap .i64 (a1 - 1)))).path) ((gt a0 a1).path)))), .inr 11, .inl (decide (x6_19 < 0)), .inr 12, .inl ((!decide ((qb ((gt a0 a1).path)) = ([] : List UInt8))) && (!decide (((gt a0 (if (x6_19 < 0 : Prop) then 0 else x6_19)).kind) = 3))), .inr 13] : List (Bool ⊕ Int)))] : List (Bool ⊕ Int)))) else none) else none) else none) else none) else none) else none) else none) else none
theorem V7 (b : Bool) (n : Int) (l : List (Bool ⊕ Int)) : vu (.inl b :: .inr n :: l) = if b then n else vu l := rfl
theorem ql.eq (a0 : List Rec) (a1 : Int) (h0 : a0.length ≤ 1048576) (h1 : ∀ x ∈ a0, x.path.length ≤ 1048576) (h2 : inR a1 a0.length = true) : ql.sh a0 a1 = some (faultAt a0 a1) := by
 obtain ⟨i, rfl⟩ : ∃ i : Nat, a1 = i := ⟨a1.toNat, by have := jG h2; omega⟩
 have hi : i < a0.length := by have := jI h2; omega
 have hp := h1 _ (J1 hi)
 obtain ⟨r, hr⟩ : ∃ r, a0.getD i default = r := ⟨_, rfl⟩
 have hs : sub a0 0 (i : Int) = a0.take i := by simp [sub]
 have hl : (a0.take i).length ≤ 1048576 := by simp; omega
 have hm : (if (IntKind.wrap .i64 ((i : Int) - 1) < 0 : Prop) then (0 : Int) else IntKind.wrap .i64 ((i : Int) - 1)) = ((i - 1 : Nat) : Int) := by
  rw [wrap_small (by omega) (by omega)]; split <;> omega
 have hi1 : i - 1 < a0.length := by omega
 obtain ⟨q, hq⟩ : ∃ q, a0.getD (i - 1) default = q := ⟨_, rfl⟩
 have hq2 : ∀ _ : 0 < i, gt a0 ((i : Int) - 1) = q := fun h => by
  have : ((i : Int) - 1) = ((i - 1 : Nat) : Int) := by omega
  rw [this, Y4, hq]
 rw [hr] at hp
 have e16 : decide ((16 : Int) ≤ (i : Int)) = decide (16 ≤ i) := by rw [decide_eq_decide]; omega
 have epos : decide ((0 : Int) < (i : Int)) = decide (0 < i) := by rw [decide_eq_decide]; omega
 have e16' : ((16 : Int) ≤ (i : Int)) = (16 ≤ i) := propext (by omega)
 have epos' : ((0 : Int) < (i : Int)) = (0 < i) := propext (by omega)
 unfold ql.sh faultAt
 simp only [qT hi, Y4, hr, hp, hs, hl, hm, hq, qT hi1, e16, epos, decide_true, cond_true, Bool.or_true, Int.toNat_natCast, Vl (l := 0) (h := (i : Int)) (n := (a0.length : Int)) (by omega) (by omega) (by omega), V7, List.length_cons, List.length_nil]
 simp only [e16', epos']
 by_cases hpp : qb r.path = []
 ·have h00 : inR (if (0 : Int) < 0 then 0 else 0) a0.length = true := QU (by omega) (by simp; omega)
  by_cases c0 : 0 < i
  ·simp only [hq2 c0]
   by_cases c16 : 16 ≤ i <;> by_cases cf : qz r = 0 <;> by_cases cq : q.path = r.path <;> cases cl : vQ q.path r.path <;> simp [hpp, c16, cf, cq, cl, c0, vu]
  ·by_cases c16 : 16 ≤ i <;> by_cases cf : qz r = 0 <;> simp [hpp, c16, cf, c0, vu]
 ·by_cases ck : qt (a0.take i) (qb r.path) < 0
  ·have h00 : inR 0 a0.length = true := QU (by omega) (by omega)
   by_cases c0 : 0 < i
   ·simp only [hq2 c0]
    by_cases c16 : 16 ≤ i <;> by_cases cf : qz r = 0 <;> by_cases cq : q.path = r.path <;> cases cl : vQ q.path r.path <;> simp [hpp, c16, cf, cq, cl, c0, ck, h00]
   ·by_cases c16 : 16 ≤ i <;> by_cases cf : qz r = 0 <;> simp [hpp, c16, cf, c0, ck, h00]
  ·have hk := J2 (Nat.le_of_lt hi) ck
   by_cases cd : (gt a0 (qt (a0.take i) (qb r.path))).kind = 3
   ·by_cases c0 : 0 < i
    ·simp only [hq2 c0]
     by_cases c16 : 16 ≤ i <;> by_cases cf : qz r = 0 <;> by_cases cq : q.path = r.path <;> cases cl : vQ q.path r.path <;> simp [hpp, c16, cf, cq, cl, c0, ck, hk, cd, vu]
    ·by_cases c16 : 16 ≤ i <;> by_cases cf : qz r = 0 <;> simp [hpp, c16, cf, c0, ck, hk, cd, vu]
   ·by_cases c0 : 0 < i
    ·simp only [hq2 c0]
     by_cases c16 : 16 ≤ i <;> by_cases cf : qz r = 0 <;> by_cases cq : q.path = r.path <;> cases cl : vQ q.path r.path <;> simp [hpp, c16, cf, cq, cl, c0, ck, hk, cd, vu]
    ·by_cases c16 : 16 ≤ i <;> by_cases cf : qz r = 0 <;> simp [hpp, c16, cf, c0, ck, hk, cd, vu]
theorem yA {r : Rec} (h : qz r = 0) : qy r.path = true := by
 unfold qz at h
 split at h
 ·cases h
 ·split at h
  ·cases h
  ·rename_i h2; simpa using h2
theorem Gj {l : List Rec} {i : Nat} (h : y2 l i = 0) : qz (l.getD i default) = 0 := by
 unfold y2 at h
 split at h
 ·cases h
 ·split at h
  ·rename_i h1; exact absurd h h1
  ·rename_i h1; simpa using h1
theorem Xo (l : List Rec) (i : Nat) (hp : ∀ j, j < i → y2 l j = 0) : faultAt l (i : Int) = y2 l i := by
 have h16 : ¬ 16 < i := fun h => by have := hp 16 h; simp [y2] at this
 unfold faultAt y2
 have e : ((16 : Int) ≤ (i : Int)) = (i = 16) := propext (by omega)
 have epos : ((0 : Int) < (i : Int)) = (0 < i) := propext (by omega)
 simp only [e, epos, Y4, Int.toNat_natCast]
 by_cases c16 : i = 16
 ·simp [c16]
 ·simp only [c16, if_false]
  obtain ⟨r, hr⟩ : ∃ r, l.getD i default = r := ⟨_, rfl⟩
  simp only [hr]
  by_cases cf : qz r = 0
  ·simp only [cf, ne_eq, not_true_eq_false, if_false]
   by_cases c0 : 0 < i
   ·have hg : gt l ((i : Int) - 1) = l.getD (i - 1) default := by
     have : ((i : Int) - 1) = ((i - 1 : Nat) : Int) := by omega
     rw [this, Y4]
    obtain ⟨q, hq⟩ : ∃ q, l.getD (i - 1) default = q := ⟨_, rfl⟩
    have hqok : qy q.path = true := by rw [← hq]; exact yA (Gj (hp (i - 1) (by omega)))
    have hrok := yA cf
    have e1 : vQ q.path r.path = vP (cut 47 q.path) (cut 47 r.path) := by simp [vQ, hqok, hrok]
    have e2 : (q.path = r.path) = (r.path = q.path) := propext ⟨Eq.symm, Eq.symm⟩
    simp only [hg, hq, e1, e2, c0, true_and]
   ·simp only [c0, false_and, if_false]
  ·simp only [cf, ne_eq, not_false_eq_true, if_true]
def yd.b1 (a0 : List Rec) : Int → Option (Step (Int × Int) (Int) (Unit)) :=
 fun x8_1 => bif (decide (x8_1 < (a0.length : Int))) then (bif decide (a0.length ≤ 1048576) then (bif decide (∀ x ∈ a0, x.path.length ≤ 1048576) then (bif decide (inR x8_1 a0.length = true) then (bif (!decide ((faultAt a0 x8_1) = 0)) then (some (.ret (x8_1, (faultAt a0 x8_1)))) else (some (.nxt (IntKind.wrap .i64 (x8_1 + 1))))) else none) else none) else none) else (some (.brk ()))
def yd.sh (k : Nat) (a0 : List Rec) : Option (Int × Int) :=
  (qn (yd.b1 a0) k 0).bind fun z => match z with | .inl t => some t | .inr _ => some (0, 0)
theorem yd.eq (a0 : List Rec) (h0 : a0.length ≤ 1048576) (h1 : ∀ x ∈ a0, x.path.length ≤ 1048576) : ∃ k, yd.sh k a0 = some ((qC a0).1, (qC a0).2) := by
 refine ⟨a0.length + 1, ?_⟩
 unfold yd.sh
 have hb : ∀ i : Nat, i < a0.length → yd.b1 a0 i = some (sc (if faultAt a0 i = 0 then none else some ((i : Int), faultAt a0 i) : Option (Int × Int)) ((i : Int) + 1)) := by
  intro i hi
  simp only [yd.b1, yY, hi, decide_true, cond_true, qT hi, h0, decide_eq_true h1, vR hi (by omega)]
  by_cases hf : faultAt a0 i = 0 <;> simp [hf]
 have hn : yd.b1 a0 a0.length = some (.brk ()) := by simp [yd.b1]
 rw [jg a0.length _ hb hn _ (by omega)]
 have hag := GA (f := fun i => if y2 a0 i = 0 then none else some ((i : Int), y2 a0 i)) (g := fun i => if faultAt a0 i = 0 then none else some ((i : Int), faultAt a0 i)) a0.length a0.length 0 (by omega) (fun j hj => by omega) (fun i _ hp => by
  have : faultAt a0 i = y2 a0 i := Xo a0 i fun j hj => by
   have := hp j hj
   by_cases h : y2 a0 j = 0
   ·exact h
   ·simp [h] at this
  simp only [this])
 rw [List.range_eq_range', hag, ← List.range_eq_range']
 unfold qC
 cases (List.range a0.length).findSome? _ <;> rfl
def yq.sh (a0 : List Rec) : Option (Int × Int) :=
 bif (decide (4096 < a0.length)) then (some (0, 2)) else (bif decide (a0.length ≤ 1048576) then (bif decide (∀ x ∈ a0, x.path.length ≤ 1048576) then (some ((qC a0).1, (qC a0).2)) else none) else none)
theorem yq.eq (a0 : List Rec) (h0 : a0.length ≤ 1048576) (h1 : ∀ x ∈ a0, x.path.length ≤ 1048576) : yq.sh a0 = some ((qY a0).1, (qY a0).2) := by
 unfold yq.sh qY
 by_cases h : 4096 < a0.length
 ·simp [h]
 ·simp only [h, h0, decide_false, decide_true, cond_false, cond_true, if_false, decide_eq_true h1]
def jm.sh (a0 : List Rec) : Option (Bool) :=
 bif decide (a0.length ≤ 1048576) then (bif decide (∀ x ∈ a0, x.path.length ≤ 1048576) then (some (decide (((qY a0).2) = 0))) else none) else none
theorem jm.eq (a0 : List Rec) (h0 : a0.length ≤ 1048576) (h1 : ∀ x ∈ a0, x.path.length ≤ 1048576) : jm.sh a0 = some (decide ((qY a0).2 = 0)) := by
 simp only [jm.sh, h0, decide_true, cond_true, decide_eq_true h1]
def jZ (l : List Rec) (p : List UInt8) : Rec × Int :=
 if decide (4096 < l.length) || decide (65536 < p.length) then (jD, 2) else if (qC l).2 ≠ 0 then (jD, 1) else if qt l p < 0 then (jD, 5) else (gt l (qt l p), 0)
theorem YE {l : List Rec} {p : List UInt8} (h : ¬ qt l p < 0) : inR (qt l p) l.length = true := (GG _ l (by unfold qt at h; omega)).1
def yr.sh (a0 : List Rec) (a1 : List UInt8) : Option (Rec × Int) :=
 bif decide (a0.length ≤ 1048576) then (bif decide (([a1] : List (List UInt8)).length ≤ 4611686018427387904) then (bif decide (a0.length ≤ 1048576) then (bif decide (∀ x ∈ a0, x.path.length ≤ 1048576) then (bif decide (([.inl ((([a1] : List (List UInt8)).any fun t => decide (65536 < t.length)) || (decide (4096 < a0.length))), .inr 2, .inl (!(decide ((qY a0).2 = 0))), .inr 1, .inl (decide ((qt a0 a1) < 0)), .inr 5] : List (Bool ⊕ Int)).length ≤ 4611686018427387904) then ((some (vu ([.inl ((([a1] : List (List UInt8)).any fun t => decide (65536 < t.length)) || (decide (4096 < a0.length))), .inr 2, .inl (!(decide ((qY a0).2 = 0))), .inr 1, .inl (decide ((qt a0 a1) < 0)), .inr 5] : List (Bool ⊕ Int)))).bind fun z38 => bif (!decide (z38 = 0)) then (some ((⟨0, ([] : List UInt8), ([] : List UInt8), 0, false⟩ : Rec), z38)) else (bif inR (qt a0 a1) a0.length then (some ((gt a0 (qt a0 a1)), 0)) else none)) else none) else none) else none) else none) else none
theorem yr.eq (a0 : List Rec) (a1 : List UInt8) (h0 : a0.length ≤ 1048576) (h1 : ∀ x ∈ a0, x.path.length ≤ 1048576) : yr.sh a0 a1 = some ((jZ a0 a1).1, (jZ a0 a1).2) := by
 unfold yr.sh jZ qY
 simp only [h0, decide_true, cond_true, decide_eq_true h1, V7, List.length_cons, List.length_nil, vu, Jv, JJ, List.any_cons, List.any_nil, Bool.or_false]
 rw [Bool.or_comm (decide (65536 < a1.length))]
 by_cases h : 4096 < a0.length
 ·simp [h, jD]
 ·by_cases h2 : 65536 < a1.length
  ·simp [h, h2, jD]
  ·by_cases hf : (qC a0).2 = 0
   ·by_cases hk : qt a0 a1 < 0
    ·simp [h, h2, hf, hk, jD]
    ·simp [h, h2, hf, hk, YE hk]
   ·simp [h, h2, hf, jD]
def QS (l : List Nd) (p : List UInt8) : Int := jf (fun r => decide (r.path = p)) l
end Go.UL
