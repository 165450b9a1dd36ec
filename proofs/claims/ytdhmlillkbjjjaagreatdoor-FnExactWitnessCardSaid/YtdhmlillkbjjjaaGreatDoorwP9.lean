import Derived.Test.YtdhmlillkbjjjaaGreatDoorwP3
set_option linter.unusedVariables false
set_option linter.unusedSimpArgs false
namespace Go.UL
open Go.RowKit
def qV.b1  : Int × List UInt8 → Option (Step (List UInt8) (Int × List UInt8) (List UInt8)) :=
 fun q => match q with
 | (x0_2, x3_3) => bif (decide (0 < x0_2)) then (bif decide ((yA ([IntKind.wrap .u8 (IntKind.wrap .i64 (48 + (x0_2.tmod 10)))] : List Int)).length + x3_3.length ≤ 9223372036854775807) then (some (.nxt (IntKind.wrap .i64 (x0_2.tdiv 10), (yA ([IntKind.wrap .u8 (IntKind.wrap .i64 (48 + (x0_2.tmod 10)))] : List Int)) ++ x3_3))) else none) else (some (.brk x3_3))
def qV.sh (k : Nat) (a0 : Int) : Option (List UInt8) :=
  bif (decide (a0 ≤ 0)) then (some ([109, 48] : List UInt8)) else ((qr (qV.b1) k (a0, ([] : List UInt8))).bind fun z => match z with | .inl t => some t | .inr x3_7 => bif decide (([109] : List UInt8).length + x3_7.length ≤ 9223372036854775807) then (some (([109] : List UInt8) ++ x3_7)) else none)
theorem qV.fits (a0 : Int) (h : a0 ≤ 4611686018427387904) : ∃ r, qV.sh (a0.toNat + 1) a0 = some r := by
 unfold qV.sh
 by_cases h0 : a0 ≤ 0
 ·exact ⟨_, by rw [decide_eq_true h0]; rfl⟩
 ·rw [decide_eq_false h0]
  simp only [cond_false]
  obtain ⟨z, hz, hP⟩ : ∃ z, qr qV.b1 (a0.toNat + 1) (a0, ([] : List UInt8)) = some z ∧ ∃ out : List UInt8, z = .inr out ∧ out.length ≤ a0.toNat := by
   refine Xb (fun (v : Int × List UInt8) => 0 ≤ v.1 ∧ v.1 ≤ 4611686018427387904 ∧ v.2.length + v.1.toNat ≤ a0.toNat) (fun v => v.1.toNat) (fun z => ∃ out : List UInt8, z = .inr out ∧ out.length ≤ a0.toNat) ?_ (a0.toNat + 1) (a0, ([] : List UInt8)) ⟨by omega, h, by simp⟩ (by simp)
   rintro ⟨n, out⟩ ⟨h1, h2, h3⟩
   simp only at h1 h2 h3
   unfold qV.b1
   by_cases hn : 0 < n
   ·have h4 : (yA ([IntKind.wrap .u8 (IntKind.wrap .i64 (48 + (n.tmod 10)))] : List Int)).length + out.length ≤ 9223372036854775807 := by simp [yA]; omega
    simp only [hn, decide_true, cond_true, h4]
    have hd : n.tdiv 10 = n / 10 := Int.tdiv_eq_ediv_of_nonneg (by omega)
    have hw : IntKind.wrap .i64 (n / 10) = n / 10 := wrap_small (by omega) (by omega)
    refine ⟨_, rfl, ⟨by simp only [hd, hw]; omega, by simp only [hd, hw]; omega, ?_⟩, by simp only [hd, hw]; omega⟩
    simp only [hd, hw, yA, List.length_append, List.length_map, List.length_cons, List.length_nil]
    omega
   ·simp only [hn, decide_false, cond_false]
    exact ⟨_, rfl, _, rfl, by omega⟩
  obtain ⟨out, rfl, ho⟩ := hP
  rw [hz]
  have h5 : ([109] : List UInt8).length + out.length ≤ 9223372036854775807 := by simp; omega
  exact ⟨[109] ++ out, by simp only [Option.bind_some, h5, decide_true, cond_true]⟩
def yn (a : Int) : List UInt8 := (qV.sh (a.toNat + 1) a).getD []
theorem qV.eq (a0 : Int) (h : a0 ≤ 4611686018427387904) : ∃ k, qV.sh k a0 = some (yn a0) := by
 obtain ⟨r, hr⟩ := qV.fits a0 h
 exact ⟨a0.toNat + 1, by simp [yn, hr]⟩
theorem held_run {α : Type} [Inhabited α] [DecidableEq α] (xs : List α) (m : Nat → α) (k0 : Int) (step : Nat) (b : Int × Int → Option (Step Int (Int × Int) Int))
  (hb : ∀ i : Nat, i < xs.length → b (k0 + (i * step : Nat), i) = some (if xs.getD i default = m i then .nxt (k0 + ((i + 1) * step : Nat), (i : Int) + 1) else .ret (-1))) (hn : b (k0 + (xs.length * step : Nat), xs.length) = some (.brk (k0 + (xs.length * step : Nat)))) :
  qr b (xs.length + 1) (k0, 0) = some (if xs = (List.range xs.length).map m then .inr (k0 + (xs.length * step : Nat)) else .inl (-1)) := by
 have key : ∀ d i k, i + d = xs.length → d < k → (∀ j, j < i → xs.getD j default = m j) → qr b k (k0 + (i * step : Nat), i) = some (if xs = (List.range xs.length).map m then .inr (k0 + (xs.length * step : Nat)) else .inl (-1)) := by
  intro d
  induction d with
  | zero =>
   intro i k hi hk hj
   obtain ⟨k, rfl⟩ : ∃ j, k = j + 1 := ⟨k - 1, by omega⟩
   have : i = xs.length := by omega
   subst this
   have he : xs = (List.range xs.length).map m := by
    apply List.ext_getElem (by simp)
    intro i h1 h2
    have := hj i h1
    simpa [List.getD_eq_getElem?_getD, List.getElem?_eq_getElem h1] using this
   simp only [qr, hn, Option.bind_some]
   rw [if_pos he]
  | succ d ih =>
   intro i k hi hk hj
   obtain ⟨k, rfl⟩ : ∃ j, k = j + 1 := ⟨k - 1, by omega⟩
   have hlt : i < xs.length := by omega
   simp only [qr, hb i hlt, Option.bind_some]
   by_cases he : xs.getD i default = m i
   ·simp only [he, if_true]
    have := ih (i + 1) k (by omega) (by omega) (fun j hj' => by
     by_cases h : j = i
     ·subst h; exact he
     ·exact hj j (by omega))
    rw [Int.natCast_add, Int.natCast_one] at this
    exact this
   ·simp only [he, if_false]
    rw [if_neg]
    intro h
    apply he
    have h2 : xs[i]? = ((List.range xs.length).map m)[i]? := by rw [← h]
    simp [hlt] at h2
    simp [List.getD_eq_getElem?_getD, List.getElem?_eq_getElem hlt, h2]
 have := key xs.length 0 (xs.length + 1) (by omega) (by omega) (fun j hj => by omega)
 simpa using this
theorem Xf {α : Type} (xs : List α) (m : Nat → α) (i : Nat) (h : i < xs.length) : QB ((List.range i).map m ++ xs.drop i) (i : Int) (m i) = (List.range (i + 1)).map m ++ xs.drop (i + 1) := by
 unfold QB
 rw [Int.toNat_natCast, List.set_append_right _ _ (by simp)]
 simp only [List.length_map, List.length_range, Nat.sub_self, List.drop_eq_getElem_cons h, List.set_cons_zero, List.range_succ, List.map_append, List.map_cons, List.map_nil, List.append_assoc, List.singleton_append]
theorem mark_run {α : Type} (xs : List α) (m : Nat → α) (k0 : Int) (step : Nat) (b : Int × Int × List α → Option (Step (Int × List α) (Int × Int × List α) (Int × List α)))
  (hb : ∀ i : Nat, i < xs.length → ∀ y : List α, y.length = xs.length → b (k0 + (i * step : Nat), i, y) = some (.nxt (k0 + ((i + 1) * step : Nat), (i : Int) + 1, QB y i (m i))))
  (hn : ∀ y : List α, y.length = xs.length → b (k0 + (xs.length * step : Nat), xs.length, y) = some (.brk (k0 + (xs.length * step : Nat), y))) :
  qr b (xs.length + 1) (k0, 0, xs) = some (.inr (k0 + (xs.length * step : Nat), (List.range xs.length).map m)) := by
 have key : ∀ d i k, i + d = xs.length → d < k → qr b k (k0 + (i * step : Nat), i, (List.range i).map m ++ xs.drop i) = some (.inr (k0 + (xs.length * step : Nat), (List.range xs.length).map m)) := by
  intro d
  induction d with
  | zero =>
   intro i k hi hk
   obtain ⟨k, rfl⟩ : ∃ j, k = j + 1 := ⟨k - 1, by omega⟩
   have : i = xs.length := by omega
   subst this
   have h9 := hn ((List.range xs.length).map m ++ xs.drop xs.length) (by simp)
   rw [qr, h9]
   simp
  | succ d ih =>
   intro i k hi hk
   obtain ⟨k, rfl⟩ : ∃ j, k = j + 1 := ⟨k - 1, by omega⟩
   have hlt : i < xs.length := by omega
   have h9 := hb i hlt ((List.range i).map m ++ xs.drop i) (by simp; omega)
   rw [qr, h9]
   simp only [Option.bind_some, Xf xs m i hlt]
   have := ih (i + 1) k (by omega) (by omega)
   rw [Int.natCast_add, Int.natCast_one] at this
   exact this
 have := key xs.length 0 (xs.length + 1) (by omega) (by omega)
 simpa using this
theorem fill_run {α T : Type} (ys : List α) (m : Nat → α) (b : Int × List α → Option (Step T (Int × List α) (List α)))
  (hb : ∀ i : Nat, i < ys.length → ∀ y : List α, y.length = ys.length → b ((i : Int), y) = some (.nxt ((i : Int) + 1, QB y i (m i)))) (hn : ∀ y : List α, y.length = ys.length → b ((ys.length : Int), y) = some (.brk y)) :
  qr b (ys.length + 1) (0, ys) = some (.inr ((List.range ys.length).map m)) := by
 have key : ∀ d i k, i + d = ys.length → d < k → qr b k ((i : Int), (List.range i).map m ++ ys.drop i) = some (.inr ((List.range ys.length).map m)) := by
  intro d
  induction d with
  | zero =>
   intro i k hi hk
   obtain ⟨k, rfl⟩ : ∃ j, k = j + 1 := ⟨k - 1, by omega⟩
   have : i = ys.length := by omega
   subst this
   have h9 := hn ((List.range ys.length).map m ++ ys.drop ys.length) (by simp)
   rw [qr, h9]
   simp
  | succ d ih =>
   intro i k hi hk
   obtain ⟨k, rfl⟩ : ∃ j, k = j + 1 := ⟨k - 1, by omega⟩
   have hlt : i < ys.length := by omega
   have h9 := hb i hlt ((List.range i).map m ++ ys.drop i) (by simp; omega)
   rw [qr, h9]
   simp only [Option.bind_some, Xf ys m i hlt]
   have := ih (i + 1) k (by omega) (by omega)
   rw [Int.natCast_add, Int.natCast_one] at this
   exact this
 have := key ys.length 0 (ys.length + 1) (by omega) (by omega)
 simpa using this
theorem map_getD {α : Type} (d : α) (xs : List α) : (List.range xs.length).map (fun i => xs.getD i d) = xs := by
 apply List.ext_getElem (by simp)
 intro i h1 h2
 simp [List.getD_eq_getElem?_getD, List.getElem?_eq_getElem h2]
theorem GM {β : Type} {f g : Nat → Option β} (n : Nat) : ∀ (m i : Nat), i + m = n → (∀ j, j < i → f j = none) → (∀ i, i < n → (∀ j, j < i → f j = none) → g i = f i) → (List.range' i m).findSome? g = (List.range' i m).findSome? f := by
  intro m
  induction m with
  | zero => intro i _ _ _; rfl
  | succ m ih =>
    intro i hn hp h
    simp only [List.range'_succ, List.findSome?_cons, h i (by omega) hp]
    cases hf : f i with
    | some t => rfl
    | none => exact ih (i + 1) (by omega) (fun j hj => by by_cases e : j = i
                                                          · subst e; exact hf
                                                          · exact hp j (by omega)) h
def jd {α : Type} (q : α → Bool) : List α → Int
 | [] => -1
 | x :: l => if q x then 0 else if jd q l = -1 then -1 else jd q l + 1
theorem Jz {α : Type} {p : α → Option Bool} {q : α → Bool} : ∀ {l : List α}, (∀ x ∈ l, p x = some (q x)) → V3 p l = some (jd q l) := by
 intro l
 induction l with
 | nil => intro _; rfl
 | cons x l ih =>
  intro h
  simp only [V3, jd, h x (by simp), Option.bind_some]
  rw [ih fun y hy => h y (by simp [hy])]
  cases q x <;> simp
theorem findI_ge {α : Type} (q : α → Bool) (l : List α) : -1 ≤ jd q l := (Gt (p := fun x => some (q x)) (Jz (fun _ _ => rfl))).1
theorem Yj {α : Type} (q : α → Bool) : ∀ (l : List α), jd q l < l.length := by
  intro l
  induction l with
  | nil => simp [jd]
  | cons x l ih => simp only [jd, List.length_cons]; split
                   · omega
                   · split <;> omega
theorem findI_get {α : Type} [Inhabited α] (q : α → Bool) : ∀ (l : List α), 0 ≤ jd q l → inR (jd q l) l.length = true ∧ q (gt l (jd q l)) = true := by
 intro l h
 refine ⟨Yi h (Yj q l), ?_⟩
 induction l with
 | nil => simp [jd] at h
 | cons x l ih =>
  simp only [jd] at h ⊢
  by_cases hq : q x = true
  ·simp [hq, gt]
  ·simp only [hq] at h ⊢
   by_cases hm : jd q l = -1
   ·simp [hm] at h
   ·have hge := findI_ge q l
    have := ih (by omega)
    simp only [hm, if_false, Bool.false_eq_true]
    have e : (jd q l + 1).toNat = (jd q l).toNat + 1 := by omega
    simpa [gt, e] using this
theorem findI_run {α : Type} [Inhabited α] (q : α → Bool) (l : List α) (b : Int → Option (Step Int Int Unit)) (hb : ∀ i : Nat, i < l.length → b i = bif q (l.getD i default) then some (.ret (i : Int)) else some (.nxt ((i : Int) + 1))) (hn : b l.length = some (.brk ())) :
  qr b (l.length + 1) 0 = some (if jd q l = -1 then .inr () else .inl (jd q l)) := by
 have := JE (p := fun x => some (q x)) l l.length 0 (by omega) (jd q l) (by simpa using Jz (p := fun x => some (q x)) (q := q) (l := l) (fun _ _ => rfl)) b (fun i hi => by rw [hb i hi]; rfl) hn (l.length + 1) (by omega)
 simpa using this
def QN : Rec := ⟨0, [], [], 0, false⟩
def made (r : Rec) : Rec × Int := if qB r = 0 then (r, 0) else (QN, qB r)
def jw.sh (a0 : Rec) (a1 : Rec) : Option (Bool) :=
 bif (!decide (a0.kind = a1.kind)) then (some false) else (bif (!decide (a0.path = a1.path)) then (some false) else (bif (!decide (a0.body = a1.body)) then (some false) else (bif (!decide (a0.mode = a1.mode)) then (some false) else (bif (!decide (a0.opq = a1.opq)) then (some false) else (some true)))))
theorem jw.eq (a0 a1 : Rec) : jw.sh a0 a1 = some (decide (a0 = a1)) := by
 obtain ⟨k, p, b, m, o⟩ := a0
 obtain ⟨k', p', b', m', o'⟩ := a1
 unfold jw.sh
 simp only [Rec.mk.injEq]
 by_cases h1 : k = k' <;> by_cases h2 : p = p' <;> by_cases h3 : b = b' <;> by_cases h4 : m = m' <;> by_cases h5 : o = o' <;> simp [h1, h2, h3, h4, h5]
def jV.sh (a0 : Nd) (a1 : Nd) : Option (Bool) :=
 bif (!decide (a0.kind = a1.kind)) then (some false) else (bif (!decide (a0.path = a1.path)) then (some false) else (bif (!decide (a0.body = a1.body)) then (some false) else (bif (!decide (a0.mode = a1.mode)) then (some false) else (some true))))
theorem jV.eq (a0 a1 : Nd) : jV.sh a0 a1 = some (decide (a0 = a1)) := by
 obtain ⟨k, p, b, m⟩ := a0
 obtain ⟨k', p', b', m'⟩ := a1
 unfold jV.sh
 simp only [Nd.mk.injEq]
 by_cases h1 : k = k' <;> by_cases h2 : p = p' <;> by_cases h3 : b = b' <;> by_cases h4 : m = m' <;> simp [h1, h2, h3, h4]
def va : List UInt8 → Int
 | [] => -1
 | b :: l => if va l = -1 then (if bn b = 47 then 0 else -1) else va l + 1
theorem Qn (t : List UInt8) : (va t = -1 ∧ ∀ j, j < t.length → bn (t.getD j 0) ≠ 47) ∨ ∃ i : Nat, i < t.length ∧ va t = i ∧ bn (t.getD i 0) = 47 ∧ ∀ j, i < j → j < t.length → bn (t.getD j 0) ≠ 47 := by
 induction t with
 | nil => left; exact ⟨rfl, by simp⟩
 | cons b l ih =>
  rcases ih with ⟨h1, h2⟩ | ⟨i, hi, h1, h2, h3⟩
  ·by_cases hb : bn b = 47
   ·right
    refine ⟨0, by simp, by simp [va, h1, hb], by simpa using hb, ?_⟩
    intro j hj hl
    obtain ⟨j, rfl⟩ : ∃ k, j = k + 1 := ⟨j - 1, by omega⟩
    simpa using h2 j (by simpa using hl)
   ·left
    refine ⟨by simp [va, h1, hb], ?_⟩
    intro j hl
    cases j with
    | zero => simpa using hb
    | succ j => simpa using h2 j (by simpa using hl)
  ·right
   refine ⟨i + 1, by simpa using hi, ?_, by simpa using h2, ?_⟩
   ·have : va l ≠ -1 := by rw [h1]; omega
    simp only [va, this, if_false, h1]; omega
   ·intro j hj hl
    obtain ⟨j, rfl⟩ : ∃ k, j = k + 1 := ⟨j - 1, by omega⟩
    simpa using h3 j (by omega) (by simpa using hl)
theorem VT {t : List UInt8} (h : ∀ j, j < t.length → bn (t.getD j 0) ≠ 47) : va t = -1 := by
 rcases Qn t with ⟨h1, _⟩ | ⟨i, hi, _, h2, _⟩
 ·exact h1
 ·exact absurd h2 (h i hi)
theorem VH {t : List UInt8} {i : Nat} (hi : i < t.length) (h : bn (t.getD i 0) = 47) (hn : ∀ j, i < j → j < t.length → bn (t.getD j 0) ≠ 47) : va t = i := by
 rcases Qn t with ⟨_, h2⟩ | ⟨k, hk, h1, h2, h3⟩
 ·exact absurd h (h2 i hi)
 ·by_cases e : i = k
  ·rw [h1, e]
  ·by_cases hlt : i < k
   ·exact absurd h2 (hn k hlt hk)
   ·exact absurd h (h3 i (by omega) hi)
theorem Jm (t : List UInt8) : -1 ≤ va t := by
 rcases Qn t with ⟨h, _⟩ | ⟨i, _, h, _⟩ <;> omega
theorem Y3 (t : List UInt8) : va t < t.length := by
 rcases Qn t with ⟨h, _⟩ | ⟨i, hi, h, _⟩ <;> omega
def qd (t : List UInt8) : List UInt8 := t.take (va t).toNat
theorem V5 (t : List UInt8) : (qd t).length ≤ t.length := by simp [qd]; omega
def qY.b1 (a0 : List UInt8) : Int → Option (Step (List UInt8) (Int) (Unit)) :=
 fun x3_1 => bif (decide (0 ≤ x3_1)) then (bif inR x3_1 a0.length then (bif (decide ((byt a0 x3_1) = 47)) then (bif inS 0 x3_1 (a0.length : Int) then (some (.ret (sub a0 0 x3_1))) else none) else (some (.nxt (IntKind.wrap .i64 (x3_1 - 1))))) else none) else (some (.brk ()))
def qY.sh (k : Nat) (a0 : List UInt8) : Option (List UInt8) :=
  (qr (qY.b1 a0) k (IntKind.wrap .i64 ((a0.length : Int) - 1))).bind fun z => match z with | .inl t => some t | .inr _ => some ([] : List UInt8)
theorem qY.eq (a0 : List UInt8) (h : a0.length ≤ 4611686018427387904) : ∃ k, qY.sh k a0 = some (qd a0) := by
 refine ⟨a0.length + 1, ?_⟩
 unfold qY.sh
 rw [wrap_small (n := (a0.length : Int) - 1) (by omega) (by omega)]
 have key : ∀ (m k : Nat), m ≤ a0.length → m < k → (∀ j, m ≤ j → j < a0.length → bn (a0.getD j 0) ≠ 47) →
   qr (qY.b1 a0) k ((m : Int) - 1) = some (if va a0 = -1 then .inr () else .inl (qd a0)) := by
  intro m
  induction m with
  | zero =>
   intro k _ hk hn
   obtain ⟨k, rfl⟩ : ∃ j, k = j + 1 := ⟨k - 1, by omega⟩
   have := VT fun j hj => hn j (by omega) hj
   have h0 : ¬ (0 : Int) ≤ ((0 : Nat) : Int) - 1 := by omega
   simp [qr, qY.b1, this]
  | succ m ih =>
   intro k hm hk hn
   obtain ⟨k, rfl⟩ : ∃ j, k = j + 1 := ⟨k - 1, by omega⟩
   have hlt : m < a0.length := by omega
   have e : ((m + 1 : Nat) : Int) - 1 = (m : Int) := by omega
   rw [e]
   have h0 : (0 : Int) ≤ (m : Int) := by omega
   simp only [qr, qY.b1, h0, decide_true, cond_true, qX hlt, JW]
   by_cases hb : bn (a0.getD m 0) = 47
   ·have hl := VH hlt hb fun j hj hj2 => hn j (by omega) hj2
    have hne : va a0 ≠ -1 := by omega
    simp only [hb, decide_true, cond_true, YM (l := 0) (h := (m : Int)) (n := (a0.length : Int)) (by omega) (by omega) (by omega), Option.bind_some, hne, if_false]
    simp [sub, qd, hl]
   ·simp only [hb, decide_false, cond_false, Option.bind_some]
    rw [wrap_small (n := (m : Int) - 1) (by omega) (by omega)]
    exact ih k (by omega) (by omega) fun j hj hj2 => by
     by_cases e : j = m
     ·subst e; exact hb
     ·exact hn j (by omega) hj2
 rw [key a0.length (a0.length + 1) (by omega) (by omega) (fun j h1 h2 => by omega)]
 by_cases hl : va a0 = -1
 ·simp [hl, qd]
 ·simp [hl]
def ja.sh (a0 : List UInt8) : Option (List UInt8) :=
 bif decide (a0.length ≤ 1048576) then (bif decide (([47] : List UInt8) = [47]) then (bif inS 0 (if ((va a0) < 0 : Prop) then 0 else (va a0)) (a0.length : Int) then (some (sub a0 0 (if ((va a0) < 0 : Prop) then 0 else (va a0)))) else none) else none) else none
theorem ja.eq (a0 : List UInt8) (h : a0.length ≤ 1048576) : ja.sh a0 = some (qd a0) := by
 unfold ja.sh
 have hge := Jm a0
 have hlt := Y3 a0
 have hm : (if (va a0 < 0 : Prop) then 0 else va a0) = ((va a0).toNat : Int) := by split <;> omega
 simp only [h, decide_true, cond_true, hm]
 rw [YM (l := 0) (h := ((va a0).toNat : Int)) (n := (a0.length : Int)) (by omega) (by omega) (by omega)]
 simp [sub, qd]
 omega
def QT : List Rec → Int → Int
 | [], a => a
 | x :: l, a => if Qb x a < 0 then -1 else QT l (Qb x a)
def yG (l : List Rec) (left : Int) : Int := if left - (l.length : Int) < 0 then -1 else QT l (left - (l.length : Int))
theorem szRec_le {r : Rec} {a : Int} (h : 0 ≤ Qb r a) : Qb r a ≤ a ∧ (r.path.length : Int) ≤ a ∧ (r.body.length : Int) ≤ a := by
 unfold Qb at *
 split at h
 ·omega
 ·split at h
  ·omega
  ·rename_i h1 h2; simp only [h1, h2, if_false]; omega
theorem szRecGo_le : ∀ {l : List Rec} {a : Int}, 0 ≤ QT l a → 0 ≤ a → QT l a ≤ a ∧ ∀ x ∈ l, (x.path.length : Int) ≤ a ∧ (x.body.length : Int) ≤ a := by
 intro l
 induction l with
 | nil => intro a _ _; exact ⟨Int.le_refl _, by simp⟩
 | cons x l ih =>
  intro a h h0
  simp only [QT] at h ⊢
  by_cases hx : Qb x a < 0
  ·simp [hx] at h
  ·simp only [hx, if_false] at h ⊢
   have h1 := szRec_le (r := x) (a := a) (by omega)
   have h2 := ih h (by omega)
   refine ⟨by omega, ?_⟩
   intro y hy
   rcases List.mem_cons.1 hy with rfl | hy
   ·omega
   ·have := h2.2 y hy; omega
theorem szRecS_le {l : List Rec} {a : Int} (h : ¬ yG l a < 0) (h0 : 0 ≤ a) : 0 ≤ yG l a ∧ yG l a ≤ a ∧ (l.length : Int) ≤ a ∧ ∀ x ∈ l, (x.path.length : Int) ≤ a ∧ (x.body.length : Int) ≤ a := by
 unfold yG at *
 by_cases hl : a - (l.length : Int) < 0
 ·simp [hl] at h
 ·simp only [hl, if_false] at h ⊢
  have := szRecGo_le (l := l) (a := a - (l.length : Int)) (by omega) (by omega)
  refine ⟨by omega, by omega, by omega, fun x hx => ?_⟩
  have := this.2 x hx; omega
def vm.b1 (a0 : List Rec) : Int × Int → Option (Step (Int) (Int × Int) (Int)) :=
 fun q => match q with
 | (x1_2, x5_3) => bif (decide (x5_3 < (a0.length : Int))) then (bif inR x5_3 a0.length then (bif decide ((0 : Int) ≤ x1_2) then (bif decide ((x1_2 : Int) ≤ 1048576) then (bif decide ((gt a0 x5_3).path.length ≤ 9223372036854775807) then (bif decide ((gt a0 x5_3).body.length ≤ 9223372036854775807) then (bif (decide ((Qb (gt a0 x5_3) x1_2) < 0)) then (some (.ret (-1))) else (some (.nxt ((Qb (gt a0 x5_3) x1_2), IntKind.wrap .i64 (x5_3 + 1))))) else none) else none) else none) else none) else none) else (some (.brk x1_2))
def vm.sh (k : Nat) (a0 : List Rec) (a1 : Int) : Option (Int) :=
  bif (decide ((IntKind.wrap .i64 (a1 - (a0.length : Int))) < 0)) then (some (-1)) else ((qr (vm.b1 a0) k (IntKind.wrap .i64 (a1 - (a0.length : Int)), 0)).bind fun z => match z with | .inl t => some t | .inr x1_7 => some x1_7)
theorem XK (l : List Rec) (b : Int × Int → Option (Step Int (Int × Int) Int)) (hb : ∀ (i : Nat) (a : Int), i < l.length → 0 ≤ a → a ≤ 1048576 → b (a, i) = some (if Qb (l.getD i default) a < 0 then .ret (-1) else .nxt (Qb (l.getD i default) a, (i : Int) + 1))) (hn : ∀ a, b (a, l.length) = some (.brk a)) :
    ∀ (d i : Nat) (a : Int) (k : Nat), i + d = l.length → d < k → 0 ≤ a → a ≤ 1048576 → ∃ z, qr b k (a, i) = some z ∧ (match z with | .inl t => some t | .inr x => some x) = some (QT (l.drop i) a) := by
  intro d
  induction d with
  | zero =>
    intro i a k hi hk _ _
    obtain ⟨k, rfl⟩ : ∃ j, k = j + 1 := ⟨k - 1, by omega⟩
    have : i = l.length := by omega
    subst this
    exact ⟨.inr a, by rw [qr, hn]; rfl, by simp [QT]⟩
  | succ d ih =>
    intro i a k hi hk h0 h1
    obtain ⟨k, rfl⟩ : ∃ j, k = j + 1 := ⟨k - 1, by omega⟩
    have hlt : i < l.length := by omega
    have hg : l.getD i default = l[i] := by simp [List.getD_eq_getElem?_getD, List.getElem?_eq_getElem hlt]
    rw [List.drop_eq_getElem_cons hlt, qr, hb i a hlt h0 h1, hg]
    by_cases hx : Qb l[i] a < 0
    · exact ⟨.inl (-1), by simp [hx], by simp [QT, hx]⟩
    · have hle := szRec_le (r := l[i]) (a := a) (by omega)
      obtain ⟨z, hz, hP⟩ := ih (i + 1) (Qb l[i] a) k (by omega) (by omega) (by omega) (by omega)
      rw [Int.natCast_add, Int.natCast_one] at hz
      exact ⟨z, by simp only [hx, if_false, Option.bind_some]; exact hz, by simp only [QT, hx, if_false]; exact hP⟩
theorem vm.eq (a0 : List Rec) (a1 : Int) (h0 : 0 ≤ a1) (h1 : a1 ≤ 1048576) (h2 : a0.length ≤ 9223372036854775807) (h3 : ∀ x ∈ a0, VW x) : ∃ k, vm.sh k a0 a1 = some (yG a0 a1) := by
 refine ⟨a0.length + 1, ?_⟩
 unfold vm.sh yG
 rw [wrap_small (n := a1 - (a0.length : Int)) (by omega) (by omega)]
 by_cases hl : a1 - (a0.length : Int) < 0
 ·simp [hl]
 ·simp only [hl, decide_false, cond_false, if_false]
  obtain ⟨z, hz, hP⟩ := XK a0 (vm.b1 a0) (fun i a hi ha0 ha1 => by
   have hg : a0.getD i default = a0[i] := by simp [List.getD_eq_getElem?_getD, List.getElem?_eq_getElem hi]
   have ho := h3 a0[i] (List.getElem_mem hi)
   simp only [vm.b1, yy, hi, decide_true, cond_true, qX hi, yh, hg, ha0, ha1, ho.1, ho.2, vz hi (by omega)]
   by_cases hx : Qb a0[i] a < 0 <;> simp [hx]) (fun a => by simp [vm.b1]) a0.length 0 (a1 - (a0.length : Int)) (a0.length + 1) (by omega) (by omega) (by omega) (by omega)
  simp only [Int.natCast_zero] at hz
  rw [hz]
  simpa using hP
def qM.b1 (a0 : List Rec) : Int × List Rec → Option (Step (List Rec) (Int × List Rec) (List Rec)) :=
 fun q => match q with
 | (x4_8, y9) => bif (decide (x4_8 < (a0.length : Int))) then (bif inR x4_8 a0.length then (bif inR x4_8 y9.length then (some (.nxt (IntKind.wrap .i64 (x4_8 + 1), QB y9 x4_8 (gt a0 x4_8)))) else none) else none) else (some (.brk y9))
def qM.sh (k : Nat) (a0 : List Rec) : Option (List Rec) :=
  bif decide (a0.length * 56 ≤ 281474976710656) then ((qr (qM.b1 a0) k (0, List.replicate a0.length (⟨0, [], [], 0, false⟩ : Rec))).bind fun z => match z with | .inl t => some t | .inr y13 => some y13) else none
theorem qM.eq (a0 : List Rec) (h : a0.length ≤ 1048576) : ∃ k, qM.sh k a0 = some a0 := by
 refine ⟨a0.length + 1, ?_⟩
 unfold qM.sh
 have h1 : a0.length * 56 ≤ 281474976710656 := by omega
 simp only [h1, decide_true, cond_true]
 have := fill_run (List.replicate a0.length (⟨0, [], [], 0, false⟩ : Rec)) (fun i => a0.getD i default) (qM.b1 a0) (fun i hi y hy => by
  have hi' : i < a0.length := by simpa using hi
  have hy' : y.length = a0.length := by simpa using hy
  simp only [qM.b1, hy', yy, hi', decide_true, cond_true, qX hi', yh, vz hi' (by omega)]) (fun y hy => by
  have hy' : y.length = a0.length := by simpa using hy
  simp [qM.b1])
 simp only [List.length_replicate, map_getD] at this
 rw [this]; rfl
def qJ (l : List Rec) (p : List UInt8) : Int := jd (fun r => decide (r.path = p)) l
def vZ.b1 (a0 : List Rec) (a1 : List UInt8) : Int → Option (Step (Int) (Int) (Unit)) :=
 fun x5_1 => bif (decide (x5_1 < (a0.length : Int))) then (bif inR x5_1 a0.length then (bif (decide (((gt a0 x5_1).path) = a1)) then (some (.ret x5_1)) else (some (.nxt (IntKind.wrap .i64 (x5_1 + 1))))) else none) else (some (.brk ()))
def vZ.sh (k : Nat) (a0 : List Rec) (a1 : List UInt8) : Option (Int) :=
  (qr (vZ.b1 a0 a1) k 0).bind fun z => match z with | .inl t => some t | .inr _ => some (-1)
theorem vZ.eq (a0 : List Rec) (a1 : List UInt8) (h : a0.length ≤ 1048576) : ∃ k, vZ.sh k a0 a1 = some (qJ a0 a1) := by
 refine ⟨a0.length + 1, ?_⟩
 unfold vZ.sh qJ
 rw [findI_run (fun r : Rec => decide (r.path = a1)) a0 (vZ.b1 a0 a1) (fun i hi => by
  simp only [vZ.b1, yy, hi, decide_true, cond_true, qX hi, yh, vz hi (by omega)]
  rfl) (by simp [vZ.b1])]
 by_cases hm : jd (fun r : Rec => decide (r.path = a1)) a0 = -1
 ·simp [hm]
 ·simp [hm]
def yd.sh (a0 : List Rec) : Option (Bool) :=
 some (decide (4096 < (a0.length : Int)))
theorem yd.eq (a0 : List Rec) : yd.sh a0 = some (decide (4096 < a0.length)) := by
 have : (4096 : Int) < (a0.length : Int) ↔ 4096 < a0.length := by omega
 simp [yd.sh, this]
def Qc.sh (a0 : Rec) (a1 : List UInt8) : Option (Bool) :=
 some (decide (a0.path = a1))
theorem Qc.eq (a0 : Rec) (a1 : List UInt8) : Qc.sh a0 a1 = some (decide (a0.path = a1)) := rfl
def qR.b1 (a0 : List Rec) (a1 : Rec → Option Bool) : Int → Option (Step (Int) (Int) (Unit)) :=
 fun x8_1 => bif (decide (x8_1 < (a0.length : Int))) then (bif inR x8_1 a0.length then ((a1 (gt a0 x8_1)).bind fun z22 => bif z22 then (some (.ret x8_1)) else (some (.nxt (IntKind.wrap .i64 (x8_1 + 1))))) else none) else (some (.brk ()))
def qR.sh (k : Nat) (a0 : List Rec) (a1 : Rec → Option Bool) : Option (Int) :=
  (qr (qR.b1 a0 a1) k 0).bind fun z => match z with | .inl t => some t | .inr _ => some (-1)
theorem qR.eq (a0 : List Rec) (a1 : Rec → Option Bool) (h : a0.length ≤ 4611686018427387904) {r : Int} (H : V3 a1 a0 = some r) : ∃ k, qR.sh k a0 a1 = some r := by
 refine ⟨a0.length + 1, ?_⟩
 have := JE a0 a0.length 0 (by omega) r (by simpa using H) (qR.b1 a0 a1) (fun i hi => by
  simp only [qR.b1, yy, hi, decide_true, cond_true, qX hi, yh, vz hi h]) (by simp [qR.b1]) (a0.length + 1) (by omega)
 simp only [Int.natCast_zero] at this
 unfold qR.sh
 rw [this]
 by_cases hr : r = -1
 ·simp [hr]
 ·simp [hr]
def ji.sh (a0 : List Rec) (a1 : List UInt8) : Option (Int) :=
 bif decide (a0.length ≤ 4611686018427387904) then (((V3 (fun (x0_ : Rec) => some (decide (x0_.path = a1))) a0)).bind fun z12 => some z12) else none
theorem ji.eq (a0 : List Rec) (a1 : List UInt8) (h : a0.length ≤ 1048576) : ji.sh a0 a1 = some (qJ a0 a1) := by
 have h1 : a0.length ≤ 4611686018427387904 := by omega
 have h2 := Jz (p := fun (x0_ : Rec) => some (decide (x0_.path = a1))) (q := fun r => decide (r.path = a1)) (l := a0) (fun _ _ => rfl)
 simp only [ji.sh, h1, decide_true, cond_true, h2, Option.bind_some, qJ]
def vj.b1 (a0 : List Rec) (a1 : List Rec) : Int → Option (Step (Bool) (Int) (Unit)) :=
 fun x5_2 => bif (decide (x5_2 < (a0.length : Int))) then (bif inR x5_2 a0.length then (bif inR x5_2 a1.length then (bif (!(decide ((gt a0 x5_2) = (gt a1 x5_2)))) then (some (.ret false)) else (some (.nxt (IntKind.wrap .i64 (x5_2 + 1))))) else none) else none) else (some (.brk ()))
def vj.sh (k : Nat) (a0 : List Rec) (a1 : List Rec) : Option (Bool) :=
  bif (!decide ((a0.length : Int) = (a1.length : Int))) then (some false) else ((qr (vj.b1 a0 a1) k 0).bind fun z => match z with | .inl t => some t | .inr _ => some true)
theorem eq_run {α : Type} [DecidableEq α] [Inhabited α] (a b : List α) (f : Int → Option (Step Bool Int Unit)) (hl : a.length = b.length)
  (hb : ∀ i : Nat, i < a.length → f i = some (if a.getD i default = b.getD i default then .nxt ((i : Int) + 1) else .ret false)) (hn : f a.length = some (.brk ())) :
  qr f (a.length + 1) 0 = some (if a = b then .inr () else .inl false) := by
 have hb' : ∀ i : Nat, i < a.length → f i = some (sc (if !decide (a.getD i default = b.getD i default) then some false else none : Option Bool) ((i : Int) + 1)) := by
  intro i hi
  rw [hb i hi]
  by_cases he : a.getD i default = b.getD i default
  ·simp only [he, if_true, decide_true, Bool.not_true, Bool.false_eq_true, if_false, Je]
  ·simp only [he, if_false, decide_false, Bool.not_false, if_true, YW]
 rw [jq a.length _ hb' hn (a.length + 1) (by omega), XZ a b hl]
 by_cases he : a = b <;> simp [he]
theorem vj.eq (a0 a1 : List Rec) (h : a0.length ≤ 4611686018427387904) : ∃ k, vj.sh k a0 a1 = some (decide (a0 = a1)) := by
 refine ⟨a0.length + 1, ?_⟩
 unfold vj.sh
 by_cases hl : a0.length = a1.length
 ·rw [eq_run a0 a1 (vj.b1 a0 a1) hl (fun i hi => by
   have hi2 : i < a1.length := by omega
   simp only [vj.b1, yy, hi, decide_true, cond_true, qX hi, qX hi2, yh, vz hi h]
   by_cases he : a0.getD i default = a1.getD i default
   ·simp only [he, decide_true, Bool.not_true, cond_false, if_true]
   ·simp only [he, decide_false, Bool.not_false, cond_true, if_false]) (by simp [vj.b1])]
  have : (a0.length : Int) = (a1.length : Int) := by omega
  by_cases he : a0 = a1 <;> simp [this, he]
 ·have h1 : ¬ (a0.length : Int) = (a1.length : Int) := by omega
  have h2 : a0 ≠ a1 := fun e => hl (by rw [e])
  simp [h1, h2]
def yx (l : List Rec) (i : Nat) : Int :=
 if i = 16 then 6 else if qB (l.getD i default) ≠ 0 then qB (l.getD i default)
 else if 0 < i ∧ (l.getD i default).path = (l.getD (i - 1) default).path then 18
 else if 0 < i ∧ vo (cut 47 (l.getD (i - 1) default).path) (cut 47 (l.getD i default).path) = false then 11
 else if qd (l.getD i default).path = [] then 0
 else if qJ (l.take i) (qd (l.getD i default).path) < 0 then 12
 else if (gt l (qJ (l.take i) (qd (l.getD i default).path))).kind ≠ 3 then 13 else 0
def qo (l : List Rec) : Int × Int := match (List.range l.length).findSome? (fun i => if yx l i = 0 then none else some ((i : Int), yx l i)) with
 | some x => x
 | none => (0, 0)
def vn (l : List Rec) : Int × Int := if 4096 < l.length then (0, 2) else qo l
theorem Js {α : Type} [Inhabited α] (l : List α) (i : Nat) : gt l (i : Int) = l.getD i default := rfl
theorem Gk {l : List Rec} {i : Nat} (h : i < l.length) : l.getD i default ∈ l := by
 have : l.getD i default = l[i] := by simp [List.getD_eq_getElem?_getD, List.getElem?_eq_getElem h]
 rw [this]; exact List.getElem_mem h
theorem J2 {l : List Rec} {p : List UInt8} {i : Nat} (hi : i ≤ l.length) (h : ¬ qJ (l.take i) p < 0) : inR (qJ (l.take i) p) l.length = true := by
 have h1 : qJ (l.take i) p < (l.take i).length := Yj _ _
 have h2 : (l.take i).length ≤ i := by simp; omega
 exact Yi (by omega) (by omega)
def ve.b1 (a0 : List Rec) : Int → Option (Step (Int × Int) (Int) (Unit)) :=
 fun x4_1 => bif (decide (x4_1 < (a0.length : Int))) then (bif (decide (x4_1 = 16)) then (some (.ret (x4_1, 6))) else (bif inR x4_1 a0.length then (bif (!decide ((qB (gt a0 x4_1)) = 0)) then (some (.ret (x4_1, (qB (gt a0 x4_1))))) else (bif (!(decide (0 < x4_1)) || (inR x4_1 a0.length)) then (bif (!(decide (0 < x4_1)) || (inR (IntKind.wrap .i64 (x4_1 - 1)) a0.length)) then (bif ((decide (0 < x4_1)) && (decide (((gt a0 x4_1).path) = ((gt a0 (IntKind.wrap .i64 (x4_1 - 1))).path)))) then (some (.ret (x4_1, 18))) else (bif (!(decide (0 < x4_1)) || (inR (IntKind.wrap .i64 (x4_1 - 1)) a0.length)) then (bif (!(decide (0 < x4_1)) || (inR x4_1 a0.length)) then (bif (!(decide (0 < x4_1)) || (decide (((gt a0 (IntKind.wrap .i64 (x4_1 - 1))).path).length ≤ 1048576))) then (bif (!(decide (0 < x4_1)) || (decide (((gt a0 x4_1).path).length ≤ 1048576))) then (bif ((decide (0 < x4_1)) && (!(vo (cut 47 ((gt a0 (IntKind.wrap .i64 (x4_1 - 1))).path)) (cut 47 ((gt a0 x4_1).path))))) then (some (.ret (x4_1, 11))) else (bif inR x4_1 a0.length then (bif decide (((gt a0 x4_1).path).length ≤ 4611686018427387904) then (bif (decide ((qd ((gt a0 x4_1).path)) = ([] : List UInt8))) then (some (.nxt (IntKind.wrap .i64 (x4_1 + 1)))) else (bif inS 0 x4_1 (a0.length : Int) then (bif decide ((sub a0 0 x4_1).length ≤ 1048576) then (bif (decide ((qJ (sub a0 0 x4_1) (qd ((gt a0 x4_1).path))) < 0)) then (some (.ret (x4_1, 12))) else (bif inR (qJ (sub a0 0 x4_1) (qd ((gt a0 x4_1).path))) a0.length then (bif (!decide (((gt a0 (qJ (sub a0 0 x4_1) (qd ((gt a0 x4_1).path)))).kind) = 3)) then (some (.ret (x4_1, 13))) else (some (.nxt (IntKind.wrap .i64 (x4_1 + 1))))) else none)) else none) else none)) else none) else none)) else none) else none) else none) else none)) else none) else none)) else none)) else (some (.brk ()))
def ve.sh (k : Nat) (a0 : List Rec) : Option (Int × Int) :=
  (qr (ve.b1 a0) k 0).bind fun z => match z with | .inl t => some t | .inr _ => some (0, 0)
theorem ve.eq (a0 : List Rec) (h0 : a0.length ≤ 1048576) (h1 : ∀ x ∈ a0, x.path.length ≤ 1048576) : ∃ k, ve.sh k a0 = some ((qo a0).1, (qo a0).2) := by
 refine ⟨a0.length + 1, ?_⟩
 unfold ve.sh
 have hb : ∀ i : Nat, i < a0.length → ve.b1 a0 i = some (sc (if yx a0 i = 0 then none else some ((i : Int), yx a0 i) : Option (Int × Int)) ((i : Int) + 1)) := by
  intro i hi
  have hp := h1 _ (Gk hi)
  have hp2 : (a0.getD i default).path.length ≤ 4611686018427387904 := by omega
  simp only [ve.b1, yy, hi, decide_true, cond_true, qX hi, Js, vz hi (by omega), Bool.or_true, hp, hp2]
  have e16 : decide ((i : Int) = 16) = decide (i = 16) := by rw [decide_eq_decide]; omega
  rw [e16]
  unfold yx
  obtain ⟨r, hr⟩ : ∃ r, a0.getD i default = r := ⟨_, rfl⟩
  simp only [hr] at hp hp2 ⊢
  by_cases h16 : i = 16
  ·subst h16; simp
  ·simp only [h16, decide_false, cond_false, if_false]
   by_cases hf : qB r = 0
   ·simp only [hf, decide_true, Bool.not_true, cond_false, ne_eq, not_true_eq_false, if_false]
    by_cases hz : i = 0
    ·subst hz
     simp only [Int.natCast_zero, Int.lt_irrefl, decide_false, Bool.not_false, Bool.true_or, cond_true, Bool.false_and, cond_false, Nat.lt_irrefl, false_and, if_false]
     by_cases hpp : qd r.path = []
     ·simp [hpp]
     ·simp only [hpp, decide_false, cond_false, if_false]
      have hs : sub a0 0 ((0 : Nat) : Int) = a0.take 0 := rfl
      simp only [Int.natCast_zero] at hs
      rw [YM (l := 0) (h := 0) (n := (a0.length : Int)) (by omega) (by omega) (by omega)]
      simp only [hs]
      simp [qJ, jd]
    ·have hi1 : i - 1 < a0.length := by omega
     have hw : IntKind.wrap .i64 ((i : Int) - 1) = ((i - 1 : Nat) : Int) := by rw [wrap_small (by omega) (by omega)]; omega
     have hpos : (0 : Int) < (i : Int) := by omega
     have hpos' : 0 < i := by omega
     have hp3 := h1 _ (Gk hi1)
     simp only [hw, Js, qX hi1, hpos, hpos', hp3, decide_true, Bool.not_true, Bool.false_or, Bool.or_true, cond_true, Bool.true_and, true_and]
     obtain ⟨q, hq0⟩ : ∃ q, a0.getD (i - 1) default = q := ⟨_, rfl⟩
     simp only [hq0]
     by_cases hq : r.path = q.path
     ·simp [hq]
     ·simp only [hq, decide_false, cond_false, if_false]
      cases hL : vo (cut 47 q.path) (cut 47 r.path) with
      | false => simp
      | true =>
       simp only [Bool.not_true, cond_false, Bool.true_eq_false, if_false]
       by_cases hpp : qd r.path = []
       ·simp [hpp]
       ·simp only [hpp, decide_false, cond_false, if_false]
        have hs : sub a0 0 (i : Int) = a0.take i := by simp [sub]
        have hl : (a0.take i).length ≤ 1048576 := by simp; omega
        rw [YM (l := 0) (h := (i : Int)) (n := (a0.length : Int)) (by omega) (by omega) (by omega)]
        simp only [hs, cond_true, hl, decide_true]
        by_cases hk : qJ (a0.take i) (qd r.path) < 0
        ·simp [hk]
        ·simp only [hk, decide_false, cond_false, if_false, J2 (Nat.le_of_lt hi) hk, cond_true]
         by_cases hd : (gt a0 (qJ (a0.take i) (qd r.path))).kind = 3
         ·simp [hd]
         ·simp [hd]
   ·simp [hf]
 have hn : ve.b1 a0 a0.length = some (.brk ()) := by simp [ve.b1]
 rw [jq a0.length _ hb hn _ (by omega)]
 unfold qo
 cases (List.range a0.length).findSome? _ <;> rfl
def jS.sh (a0 : List Rec) : Option (Bool) :=
 bif decide (a0.length ≤ 1048576) then (bif decide (∀ x ∈ a0, x.path.length ≤ 1048576) then (some (decide (((qo a0).2) = 0))) else none) else none
theorem jS.eq (a0 : List Rec) (h0 : a0.length ≤ 1048576) (h1 : ∀ x ∈ a0, x.path.length ≤ 1048576) : jS.sh a0 = some (decide ((qo a0).2 = 0)) := by
 simp only [jS.sh, h0, decide_true, cond_true, decide_eq_true h1]
def faultAt (l : List Rec) (i : Int) : Int :=
 if 16 ≤ i then 6 else if qB (gt l i) ≠ 0 then qB (gt l i) else if 0 < i ∧ (gt l (i - 1)).path = (gt l i).path then 18
 else if 0 < i ∧ yj (gt l (i - 1)).path (gt l i).path = false then 11 else if qd (gt l i).path = [] then 0
 else if qJ (l.take i.toNat) (qd (gt l i).path) < 0 then 12 else if (gt l (qJ (l.take i.toNat) (qd (gt l i).path))).kind ≠ 3 then 13 else 0
def qn.sh (a0 : List Rec) (a1 : Int) : Option (Int) :=
  bif inR a1 a0.length then (bif decide (((gt a0 a1).path).length ≤ 1048576) then ((bif (!decide ((qd ((gt a0 a1).path)) = ([] : List UInt8))) then (bif inS 0 a1 (a0.length : Int) then (bif decide ((sub a0 0 a1).length ≤ 1048576) then (some (.inr (qJ (sub a0 0 a1) (qd ((gt a0 a1).path))))) else none) else none) else (some (.inr 0)) : Option ((Int) ⊕ (Int))).bind fun z => match z with | .inl t => some t | .inr x6_19 => bif (!(decide (0 < a1)) || (inR (if ((IntKind.wrap .i64 (a1 - 1)) < 0 : Prop) then 0 else (IntKind.wrap .i64 (a1 - 1))) a0.length)) then (bif (!(decide (0 < a1)) || (inR (if ((IntKind.wrap .i64 (a1 - 1)) < 0 : Prop) then 0 else (IntKind.wrap .i64 (a1 - 1))) a0.length)) then (bif decide (((gt a0 a1).path).length ≤ 1048576) then (bif (!(!decide ((qd ((gt a0 a1).path)) = ([] : List UInt8))) || (inR (if (x6_19 < 0 : Prop) then 0 else x6_19) a0.length)) then (bif decide (([.inl (!(decide (qB (gt a0 a1) = 0))), .inr (qB (gt a0 a1)), .inl ((decide (0 < a1)) && (decide (((gt a0 (if ((IntKind.wrap .i64 (a1 - 1)) < 0 : Prop) then 0 else (IntKind.wrap .i64 (a1 - 1)))).path) = ((gt a0 a1).path)))), .inr 18, .inl ((decide (0 < a1)) && (!(yj ((gt a0 (if ((IntKind.wrap .i64 (a1 - 1)) < 0 : Prop) then 0 else (IntKind.wrap .i64 (a1 - 1)))).path) ((gt a0 a1).path)))), .inr 11, .inl (decide (x6_19 < 0)), .inr 12, .inl ((!decide ((qd ((gt a0 a1).path)) = ([] : List UInt8))) && (!decide (((gt a0 (if (x6_19 < 0 : Prop) then 0 else x6_19)).kind) = 3))), .inr 13] : List (Bool ⊕ Int)).length ≤ 4611686018427387904) then (bif decide (([.inl (decide (16 ≤ a1)), .inr 6, .inl true, .inr (vA ([.inl (!(decide (qB (gt a0 a1) = 0))), .inr (qB (gt a0 a1)), .inl ((decide (0 < a1)) && (decide (((gt a0 (if ((IntKind.wrap .i64 (a1 - 1)) < 0 : Prop) then 0 else (IntKind.wrap .i64 (a1 - 1)))).path) = ((gt a0 a1).path)))), .inr 18, .inl ((decide (0 < a1)) && (!(yj ((gt a0 (if ((IntKind.wrap .i64 (a1 - 1)) < 0 : Prop) then 0 else (IntKind.wrap .i64 (a1 - 1)))).path) ((gt a0 a1).path)))), .inr 11, .inl (decide (x6_19 < 0)), .inr 12, .inl ((!decide ((qd ((gt a0 a1).path)) = ([] : List UInt8))) && (!decide (((gt a0 (if (x6_19 < 0 : Prop) then 0 else x6_19)).kind) = 3))), .inr 13] : List (Bool ⊕ Int)))] : List (Bool ⊕ Int)).length ≤ 4611686018427387904) then (some (vA ([.inl (decide (16 ≤ a1)), .inr 6, .inl true, .inr (vA ([.inl (!(decide (qB (gt a0 a1) = 0))), .inr (qB (gt a0 a1)), .inl ((decide (0 < a1)) && (decide (((gt a0 (if ((IntKind.wrap .i64 (a1 - 1)) < 0 : Prop) then 0 else (IntKind.wrap .i64 (a1 - 1)))).path) = ((gt a0 a1).path)))), .inr 18, .inl ((decide (0 < a1)) && (!(yj ((gt a0 (if ((IntKind.wrap .i64 (a1 - 1)) < 0 : Prop) then 0 else (IntKind.wrap .i64 (a1 - 1)))).path) ((gt a0 a1).path)))), .inr 11, .inl (decide (x6_19 < 0)), .inr 12, .inl ((!decide ((qd ((gt a0 a1).path)) = ([] : List UInt8))) && (!decide (((gt a0 (if (x6_19 < 0 : Prop) then 0 else x6_19)).kind) = 3))), .inr 13] : List (Bool ⊕ Int)))] : List (Bool ⊕ Int)))) else none) else none) else none) else none) else none) else none) else none) else none
theorem GS (b : Bool) (n : Int) (l : List (Bool ⊕ Int)) : vA (.inl b :: .inr n :: l) = if b then n else vA l := rfl
theorem qn.eq (a0 : List Rec) (a1 : Int) (h0 : a0.length ≤ 1048576) (h1 : ∀ x ∈ a0, x.path.length ≤ 1048576) (h2 : inR a1 a0.length = true) : qn.sh a0 a1 = some (faultAt a0 a1) := by
 obtain ⟨i, rfl⟩ : ∃ i : Nat, a1 = i := ⟨a1.toNat, by have := jO h2; omega⟩
 have hi : i < a0.length := by have := jC h2; omega
 have hp := h1 _ (Gk hi)
 obtain ⟨r, hr⟩ : ∃ r, a0.getD i default = r := ⟨_, rfl⟩
 have hs : sub a0 0 (i : Int) = a0.take i := by simp [sub]
 have hl : (a0.take i).length ≤ 1048576 := by simp; omega
 have hm : (if (IntKind.wrap .i64 ((i : Int) - 1) < 0 : Prop) then (0 : Int) else IntKind.wrap .i64 ((i : Int) - 1)) = ((i - 1 : Nat) : Int) := by
  rw [wrap_small (by omega) (by omega)]; split <;> omega
 have hi1 : i - 1 < a0.length := by omega
 obtain ⟨q, hq⟩ : ∃ q, a0.getD (i - 1) default = q := ⟨_, rfl⟩
 have hq2 : ∀ _ : 0 < i, gt a0 ((i : Int) - 1) = q := fun h => by
  have : ((i : Int) - 1) = ((i - 1 : Nat) : Int) := by omega
  rw [this, Js, hq]
 rw [hr] at hp
 have e16 : decide ((16 : Int) ≤ (i : Int)) = decide (16 ≤ i) := by rw [decide_eq_decide]; omega
 have epos : decide ((0 : Int) < (i : Int)) = decide (0 < i) := by rw [decide_eq_decide]; omega
 have e16' : ((16 : Int) ≤ (i : Int)) = (16 ≤ i) := propext (by omega)
 have epos' : ((0 : Int) < (i : Int)) = (0 < i) := propext (by omega)
 unfold qn.sh faultAt
 simp only [qX hi, Js, hr, hp, hs, hl, hm, hq, qX hi1, e16, epos, decide_true, cond_true, Bool.or_true, Int.toNat_natCast, YM (l := 0) (h := (i : Int)) (n := (a0.length : Int)) (by omega) (by omega) (by omega), GS, List.length_cons, List.length_nil]
 simp only [e16', epos']
 by_cases hpp : qd r.path = []
 ·have h00 : inR (if (0 : Int) < 0 then 0 else 0) a0.length = true := Yi (by omega) (by simp; omega)
  by_cases c0 : 0 < i
  ·simp only [hq2 c0]
   by_cases c16 : 16 ≤ i <;> by_cases cf : qB r = 0 <;> by_cases cq : q.path = r.path <;> cases cl : yj q.path r.path <;> simp [hpp, c16, cf, cq, cl, c0, vA]
  ·by_cases c16 : 16 ≤ i <;> by_cases cf : qB r = 0 <;> simp [hpp, c16, cf, c0, vA]
 ·by_cases ck : qJ (a0.take i) (qd r.path) < 0
  ·have h00 : inR 0 a0.length = true := Yi (by omega) (by omega)
   by_cases c0 : 0 < i
   ·simp only [hq2 c0]
    by_cases c16 : 16 ≤ i <;> by_cases cf : qB r = 0 <;> by_cases cq : q.path = r.path <;> cases cl : yj q.path r.path <;> simp [hpp, c16, cf, cq, cl, c0, ck, h00]
   ·by_cases c16 : 16 ≤ i <;> by_cases cf : qB r = 0 <;> simp [hpp, c16, cf, c0, ck, h00]
  ·have hk := J2 (Nat.le_of_lt hi) ck
   by_cases cd : (gt a0 (qJ (a0.take i) (qd r.path))).kind = 3
   ·by_cases c0 : 0 < i
    ·simp only [hq2 c0]
     by_cases c16 : 16 ≤ i <;> by_cases cf : qB r = 0 <;> by_cases cq : q.path = r.path <;> cases cl : yj q.path r.path <;> simp [hpp, c16, cf, cq, cl, c0, ck, hk, cd, vA]
    ·by_cases c16 : 16 ≤ i <;> by_cases cf : qB r = 0 <;> simp [hpp, c16, cf, c0, ck, hk, cd, vA]
   ·by_cases c0 : 0 < i
    ·simp only [hq2 c0]
     by_cases c16 : 16 ≤ i <;> by_cases cf : qB r = 0 <;> by_cases cq : q.path = r.path <;> cases cl : yj q.path r.path <;> simp [hpp, c16, cf, cq, cl, c0, ck, hk, cd, vA]
    ·by_cases c16 : 16 ≤ i <;> by_cases cf : qB r = 0 <;> simp [hpp, c16, cf, c0, ck, hk, cd, vA]
theorem yw {r : Rec} (h : qB r = 0) : qz r.path = true := by
 unfold qB at h
 split at h
 ·cases h
 ·split at h
  ·cases h
  ·rename_i h2; simpa using h2
theorem J1 {l : List Rec} {i : Nat} (h : yx l i = 0) : qB (l.getD i default) = 0 := by
 unfold yx at h
 split at h
 ·cases h
 ·split at h
  ·rename_i h1; exact absurd h h1
  ·rename_i h1; simpa using h1
theorem Xy (l : List Rec) (i : Nat) (hp : ∀ j, j < i → yx l j = 0) : faultAt l (i : Int) = yx l i := by
 have h16 : ¬ 16 < i := fun h => by have := hp 16 h; simp [yx] at this
 unfold faultAt yx
 have e : ((16 : Int) ≤ (i : Int)) = (i = 16) := propext (by omega)
 have epos : ((0 : Int) < (i : Int)) = (0 < i) := propext (by omega)
 simp only [e, epos, Js, Int.toNat_natCast]
 by_cases c16 : i = 16
 ·simp [c16]
 ·simp only [c16, if_false]
  obtain ⟨r, hr⟩ : ∃ r, l.getD i default = r := ⟨_, rfl⟩
  simp only [hr]
  by_cases cf : qB r = 0
  ·simp only [cf, ne_eq, not_true_eq_false, if_false]
   by_cases c0 : 0 < i
   ·have hg : gt l ((i : Int) - 1) = l.getD (i - 1) default := by
     have : ((i : Int) - 1) = ((i - 1 : Nat) : Int) := by omega
     rw [this, Js]
    obtain ⟨q, hq⟩ : ∃ q, l.getD (i - 1) default = q := ⟨_, rfl⟩
    have hqok : qz q.path = true := by rw [← hq]; exact yw (J1 (hp (i - 1) (by omega)))
    have hrok := yw cf
    have e1 : yj q.path r.path = vo (cut 47 q.path) (cut 47 r.path) := by simp [yj, hqok, hrok]
    have e2 : (q.path = r.path) = (r.path = q.path) := propext ⟨Eq.symm, Eq.symm⟩
    simp only [hg, hq, e1, e2, c0, true_and]
   ·simp only [c0, false_and, if_false]
  ·simp only [cf, ne_eq, not_false_eq_true, if_true]
def vU.b1 (a0 : List Rec) : Int → Option (Step (Int × Int) (Int) (Unit)) :=
 fun x8_1 => bif (decide (x8_1 < (a0.length : Int))) then (bif decide (a0.length ≤ 1048576) then (bif decide (∀ x ∈ a0, x.path.length ≤ 1048576) then (bif decide (inR x8_1 a0.length = true) then (bif (!decide ((faultAt a0 x8_1) = 0)) then (some (.ret (x8_1, (faultAt a0 x8_1)))) else (some (.nxt (IntKind.wrap .i64 (x8_1 + 1))))) else none) else none) else none) else (some (.brk ()))
def vU.sh (k : Nat) (a0 : List Rec) : Option (Int × Int) :=
  (qr (vU.b1 a0) k 0).bind fun z => match z with | .inl t => some t | .inr _ => some (0, 0)
theorem vU.eq (a0 : List Rec) (h0 : a0.length ≤ 1048576) (h1 : ∀ x ∈ a0, x.path.length ≤ 1048576) : ∃ k, vU.sh k a0 = some ((qo a0).1, (qo a0).2) := by
 refine ⟨a0.length + 1, ?_⟩
 unfold vU.sh
 have hb : ∀ i : Nat, i < a0.length → vU.b1 a0 i = some (sc (if faultAt a0 i = 0 then none else some ((i : Int), faultAt a0 i) : Option (Int × Int)) ((i : Int) + 1)) := by
  intro i hi
  simp only [vU.b1, yy, hi, decide_true, cond_true, qX hi, h0, decide_eq_true h1, vz hi (by omega)]
  by_cases hf : faultAt a0 i = 0 <;> simp [hf]
 have hn : vU.b1 a0 a0.length = some (.brk ()) := by simp [vU.b1]
 rw [jq a0.length _ hb hn _ (by omega)]
 have hag := GM (f := fun i => if yx a0 i = 0 then none else some ((i : Int), yx a0 i)) (g := fun i => if faultAt a0 i = 0 then none else some ((i : Int), faultAt a0 i)) a0.length a0.length 0 (by omega) (fun j hj => by omega) (fun i _ hp => by
  have : faultAt a0 i = yx a0 i := Xy a0 i fun j hj => by
   have := hp j hj
   by_cases h : yx a0 j = 0
   ·exact h
   ·simp [h] at this
  simp only [this])
 rw [List.range_eq_range', hag, ← List.range_eq_range']
 unfold qo
 cases (List.range a0.length).findSome? _ <;> rfl
def yb.sh (a0 : List Rec) : Option (Int × Int) :=
 bif (decide (4096 < a0.length)) then (some (0, 2)) else (bif decide (a0.length ≤ 1048576) then (bif decide (∀ x ∈ a0, x.path.length ≤ 1048576) then (some ((qo a0).1, (qo a0).2)) else none) else none)
theorem yb.eq (a0 : List Rec) (h0 : a0.length ≤ 1048576) (h1 : ∀ x ∈ a0, x.path.length ≤ 1048576) : yb.sh a0 = some ((vn a0).1, (vn a0).2) := by
 unfold yb.sh vn
 by_cases h : 4096 < a0.length
 ·simp [h]
 ·simp only [h, h0, decide_false, decide_true, cond_false, cond_true, if_false, decide_eq_true h1]
def jk.sh (a0 : List Rec) : Option (Bool) :=
 bif decide (a0.length ≤ 1048576) then (bif decide (∀ x ∈ a0, x.path.length ≤ 1048576) then (some (decide (((vn a0).2) = 0))) else none) else none
theorem jk.eq (a0 : List Rec) (h0 : a0.length ≤ 1048576) (h1 : ∀ x ∈ a0, x.path.length ≤ 1048576) : jk.sh a0 = some (decide ((vn a0).2 = 0)) := by
 simp only [jk.sh, h0, decide_true, cond_true, decide_eq_true h1]
theorem sz_of {l : List Rec} {a : Int} (h : ¬ yG l a < 0) (h0 : 0 ≤ a) (ha : a ≤ 1048576) : l.length ≤ 1048576 ∧ (∀ x ∈ l, x.path.length ≤ 1048576) ∧ (∀ x ∈ l, x.body.length ≤ 1048576) ∧ 0 ≤ yG l a ∧ yG l a ≤ 1048576 := by
 have := szRecS_le h h0
 refine ⟨by omega, fun x hx => ?_, fun x hx => ?_, by omega, by omega⟩
 ·have := (this.2.2.2 x hx).1; omega
 ·have := (this.2.2.2 x hx).2; omega
theorem findR_in {l : List Rec} {p : List UInt8} (h : ¬ qJ l p < 0) : inR (qJ l p) l.length = true := (findI_get _ l (by unfold qJ at h; omega)).1
end Go.UL
