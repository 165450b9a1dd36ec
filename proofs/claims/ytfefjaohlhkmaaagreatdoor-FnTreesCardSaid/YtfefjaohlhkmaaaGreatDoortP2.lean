/- Plain Lean: what the functions compute. -/
import Derived.Test.YtfefjaohlhkmaaaGreatDoorK
set_option linter.unusedVariables false
set_option linter.unusedSimpArgs false
namespace Go.UL
open Go.RowKit
/-! ### loops over places -/
theorem wrap_small {n : Int} (h0 : -9223372036854775808 ≤ n) (h1 : n ≤ 9223372036854775807) : IntKind.wrap .i64 n = n := by rw [IntKind.wrap_i64]; omega
/-- One round: an answer, or on to the next. -/
def sc {T V E : Type} (o : Option T) (v : V) : Step T V E := match o with | some t => .ret t | none => .nxt v
@[simp] theorem sc_some {T V E : Type} (t : T) (v : V) : (sc (some t) v : Step T V E) = .ret t := rfl
@[simp] theorem sc_none {T V E : Type} (v : V) : (sc (none : Option T) v : Step T V E) = .nxt v := rfl
/-- A loop that asks one place after the other. -/
theorem loop_scan {T : Type} {b : Int → Option (Step T Int Unit)} (n : Nat) (f : Nat → Option T) (hb : ∀ i : Nat, i < n → b i = some (sc (f i) ((i : Int) + 1))) (hn : b n = some (.brk ())) :
    ∀ (m i k : Nat), i + m = n → m < k → loopF b k i = some (match (List.range' i m).findSome? f with | some t => .inl t | none => .inr ()) := by
  intro m
  induction m with
  | zero =>
    intro i k hi hk
    obtain ⟨k, rfl⟩ : ∃ j, k = j + 1 := ⟨k - 1, by omega⟩
    have : i = n := by omega
    subst this
    simp [loopF, hn]
  | succ m ih =>
    intro i k hi hk
    obtain ⟨k, rfl⟩ : ∃ j, k = j + 1 := ⟨k - 1, by omega⟩
    simp only [loopF, hb i (by omega), Option.bind_some, List.range'_succ, List.findSome?_cons]
    cases hf : f i with
    | some t => simp
    | none =>
      simp only []
      have := ih (i + 1) k (by omega) (by omega)
      rw [Int.natCast_add, Int.natCast_one] at this
      exact this
theorem loop_scan0 {T : Type} {b : Int → Option (Step T Int Unit)} (n : Nat) (f : Nat → Option T) (hb : ∀ i : Nat, i < n → b i = some (sc (f i) ((i : Int) + 1))) (hn : b n = some (.brk ())) (k : Nat) (hk : n < k) :
    loopF b k 0 = some (match (List.range n).findSome? f with | some t => .inl t | none => .inr ()) := by
  have := loop_scan n f hb hn n 0 k (by omega) hk
  rw [List.range_eq_range']
  exact this
theorem find_any {α : Type} {T : Type} (l : List α) (d : α) (q : α → Bool) (r : T) : ∀ (i : Nat) (m : Nat), i + m = l.length → (List.range' i m).findSome? (fun j => if q (l.getD j d) then some r else none) = if (l.drop i).any q then some r else none := by
  intro i m
  induction m generalizing i with
  | zero => intro h; have : l.length ≤ i := by omega
            simp [List.drop_of_length_le this]
  | succ m ih =>
    intro h
    have hi : i < l.length := by omega
    rw [List.range'_succ, List.findSome?_cons, List.drop_eq_getElem_cons hi]
    have hg : l.getD i d = l[i] := by simp [List.getD_eq_getElem?_getD, List.getElem?_eq_getElem hi]
    rw [hg, List.any_cons]
    cases hq : q l[i] with
    | true => simp
    | false => simp only [Bool.false_eq_true, if_false, Bool.false_or]; exact ih (i + 1) (by omega)
theorem find_any0 {α : Type} {T : Type} (l : List α) (d : α) (q : α → Bool) (r : T) : (List.range l.length).findSome? (fun j => if q (l.getD j d) then some r else none) = if l.any q then some r else none := by
  have := find_any l d q r 0 l.length (by omega)
  rw [List.range_eq_range', this]; simp
theorem inR_nat {i n : Nat} (h : i < n) : inR (i : Int) n = true := inR_mk (by omega) (by omega)
theorem lt_nat (i n : Nat) : decide ((i : Int) < (n : Int)) = decide (i < n) := by by_cases h : i < n <;> simp [h]
theorem wrap_succ {i n : Nat} (h : i < n) (hn : n ≤ 4611686018427387904) : IntKind.wrap .i64 ((i : Int) + 1) = (i : Int) + 1 := wrap_small (by omega) (by omega)
/-- One byte as a number. -/
abbrev bn (c : UInt8) : Int := (c.toNat : Int)
theorem byt_nat (t : List UInt8) (i : Nat) : byt t (i : Int) = bn (t.getD i 0) := rfl
theorem bn_range (c : UInt8) : 0 ≤ bn c ∧ bn c ≤ 255 := by have := c.toNat_lt; unfold bn; omega

/-! ### numbers, names, codes, parts -/
def within (n lo hi : Int) : Bool := decide (lo ≤ n) && decide (n ≤ hi)
def impl_within.sh (a0 : Int) (a1 : Int) (a2 : Int) : Option (Bool) :=
  some ((decide (a1 ≤ a0)) && (decide (a0 ≤ a2)))
theorem impl_within.eq (a0 a1 a2 : Int) : impl_within.sh a0 a1 a2 = some (within a0 a1 a2) := rfl
def spec_l01In.sh (a0 : Int) (a1 : Int) (a2 : Int) : Option (Bool) :=
  some ((decide (a1 ≤ a0)) && (decide (a0 ≤ a2)))
theorem spec_l01In.eq (a0 a1 a2 : Int) : spec_l01In.sh a0 a1 a2 = some (within a0 a1 a2) := rfl
def partByte (c : Int) : Bool := decide (33 ≤ c) && decide (c ≤ 126) && !decide (c = 47)
def partOK (t : List UInt8) : Bool := within (t.length : Int) 1 8 && !decide (t = [46]) && !decide (t = [46, 46]) && t.all fun c => partByte (bn c)
def spec_l01Part.b1 (a0 : List UInt8) : Int → Option (Step (Bool) (Int) (Unit)) :=
  fun x3_16 => bif (decide (x3_16 < (a0.length : Int))) then (bif inR x3_16 a0.length then (((bif (decide ((byt a0 x3_16) < 33)) then some true else (bif inR x3_16 a0.length then (some (decide (126 < (byt a0 x3_16)))) else none))).bind fun z36 => ((bif z36 then some true else (bif inR x3_16 a0.length then (some (decide ((byt a0 x3_16) = 47))) else none))).bind fun z45 => bif z45 then (some (.ret false)) else (some (.nxt (IntKind.wrap .i64 (x3_16 + 1))))) else none) else (some (.brk ()))
def spec_l01Part.sh (k : Nat) (a0 : List UInt8) : Option (Bool) :=
  bif (((!(within (a0.length : Int) 1 8)) || (decide (a0 = ([46] : List UInt8)))) || (decide (a0 = ([46, 46] : List UInt8)))) then (some false) else ((loopF (spec_l01Part.b1 a0) k 0).bind fun z => match z with | .inl t => some t | .inr _ => some true)
theorem spec_l01Part.eq (a0 : List UInt8) : ∃ k, spec_l01Part.sh k a0 = some (partOK a0) := by
  refine ⟨a0.length + 1, ?_⟩
  unfold spec_l01Part.sh
  cases hh : (((!(within (a0.length : Int) 1 8)) || (decide (a0 = ([46] : List UInt8)))) || (decide (a0 = ([46, 46] : List UInt8)))) with
  | true =>
    simp only [cond_true]
    have : (within (a0.length : Int) 1 8 && !decide (a0 = [46]) && !decide (a0 = [46, 46])) = false := by
      revert hh
      cases within (a0.length : Int) 1 8 <;> cases decide (a0 = ([46] : List UInt8)) <;> cases decide (a0 = ([46, 46] : List UInt8)) <;> simp
    simp [partOK, this]
  | false =>
    simp only [cond_false]
    have h3 : (within (a0.length : Int) 1 8 && !decide (a0 = [46]) && !decide (a0 = [46, 46])) = true := by
      revert hh
      cases within (a0.length : Int) 1 8 <;> cases decide (a0 = ([46] : List UInt8)) <;> cases decide (a0 = ([46, 46] : List UInt8)) <;> simp
    have hlen : a0.length ≤ 4611686018427387904 := by
      have : within (a0.length : Int) 1 8 = true := by revert h3; cases within (a0.length : Int) 1 8 <;> simp
      simp [within] at this; omega
    have hb : ∀ i : Nat, i < a0.length → spec_l01Part.b1 a0 i = some (sc (if !partByte (bn (a0.getD i 0)) then some false else none : Option Bool) ((i : Int) + 1)) := by
      intro i hi
      simp only [spec_l01Part.b1, lt_nat, hi, decide_true, cond_true, inR_nat hi, byt_nat, wrap_succ hi hlen]
      obtain ⟨c, hc⟩ : ∃ c, bn (a0.getD i 0) = c := ⟨_, rfl⟩
      simp only [hc]
      by_cases h1 : c < 33
      · have : partByte c = false := by simp [partByte]; omega
        simp [h1, this]
      · by_cases h2 : 126 < c
        · have : partByte c = false := by simp [partByte]; omega
          simp [h1, h2, this]
        · by_cases h4 : c = 47
          · have : partByte c = false := by simp [partByte, h4]
            simp [h4, show partByte 47 = false from rfl]
          · have : partByte c = true := by simp [partByte, h4]; omega
            simp [h1, h2, h4, this]
    rw [loop_scan0 a0.length _ hb (by simp [spec_l01Part.b1]) (a0.length + 1) (by omega), find_any0 a0 0 (fun c => !partByte (bn c)) false]
    have hna : (a0.any fun c => !partByte (bn c)) = !(a0.all fun c => partByte (bn c)) := by rw [List.not_all_eq_any_not]
    rw [hna]
    unfold partOK
    rw [h3]
    cases (a0.all fun c => partByte (bn c)) <;> simp
def impl_PartOK.b1 (a0 : List UInt8) : Int → Option (Step (Bool) (Int) (Unit)) :=
  fun x6_1 => bif (decide (x6_1 < (a0.length : Int))) then (bif inR x6_1 a0.length then (((bif (!(within (IntKind.wrap .i64 (byt a0 x6_1)) 33 126)) then some true else (bif inR x6_1 a0.length then (some (decide ((byt a0 x6_1) = 47))) else none))).bind fun z23 => bif z23 then (some (.ret false)) else (some (.nxt (IntKind.wrap .i64 (x6_1 + 1))))) else none) else (some (.brk ()))
def impl_PartOK.sh (k : Nat) (a0 : List UInt8) : Option (Bool) :=
  (loopF (impl_PartOK.b1 a0) k 0).bind fun z => match z with | .inl t => some t | .inr _ => some (((within (a0.length : Int) 1 8) && (!decide (a0 = ([46] : List UInt8)))) && (!decide (a0 = ([46, 46] : List UInt8))))
theorem impl_PartOK.eq (a0 : List UInt8) (hlen : a0.length ≤ 4611686018427387904) : ∃ k, impl_PartOK.sh k a0 = some (partOK a0) := by
  refine ⟨a0.length + 1, ?_⟩
  unfold impl_PartOK.sh
  have hb : ∀ i : Nat, i < a0.length → impl_PartOK.b1 a0 i = some (sc (if !partByte (bn (a0.getD i 0)) then some false else none : Option Bool) ((i : Int) + 1)) := by
    intro i hi
    have hr := bn_range (a0.getD i 0)
    simp only [impl_PartOK.b1, lt_nat, hi, decide_true, cond_true, inR_nat hi, byt_nat, wrap_succ hi hlen, wrap_small (show -9223372036854775808 ≤ bn (a0.getD i 0) by omega) (by omega)]
    obtain ⟨c, hc⟩ : ∃ c, bn (a0.getD i 0) = c := ⟨_, rfl⟩
    simp only [hc]
    cases hw : within c 33 126 with
    | false =>
      have : partByte c = false := by simp only [within] at hw; simp only [partByte, hw, Bool.false_and]
      simp [this]
    | true =>
      have : partByte c = !decide (c = 47) := by simp only [within] at hw; simp only [partByte, hw, Bool.true_and]
      rw [this]
      cases decide (c = 47) <;> simp
  rw [loop_scan0 a0.length _ hb (by simp [impl_PartOK.b1]) (a0.length + 1) (by omega), find_any0 a0 0 (fun c => !partByte (bn c)) false]
  have hna : (a0.any fun c => !partByte (bn c)) = !(a0.all fun c => partByte (bn c)) := by rw [List.not_all_eq_any_not]
  rw [hna]
  unfold partOK
  cases (a0.all fun c => partByte (bn c)) <;> simp
/-! ### the laws -/

/-! ### cutting a text -/
def preL (p : List UInt8) : List (List UInt8) → List (List UInt8)
  | [] => [p]
  | q :: qs => (p ++ q) :: qs
def cut (c : Int) : List UInt8 → List (List UInt8)
  | [] => [[]]
  | b :: l => if bn b = c then [] :: cut c l else preL [b] (cut c l)
theorem preL_ne (p : List UInt8) (l : List (List UInt8)) : preL p l ≠ [] := by cases l <;> simp [preL]
theorem cut_ne (c : Int) (l : List UInt8) : cut c l ≠ [] := by
  cases l with
  | nil => simp [cut]
  | cons b l => unfold cut; split
                · simp
                · exact preL_ne _ _
theorem preL_nil {l : List (List UInt8)} (h : l ≠ []) : preL [] l = l := by cases l <;> simp_all [preL]
theorem preL_preL (p q : List UInt8) (l : List (List UInt8)) : preL p (preL q l) = preL (p ++ q) l := by cases l <;> simp [preL]
theorem cut_len (c : Int) (l : List UInt8) : (cut c l).length ≤ l.length + 1 := by
  induction l with
  | nil => simp [cut]
  | cons b l ih =>
    unfold cut; split
    · simp; omega
    · have := cut_ne c l
      cases h : cut c l with
      | nil => exact absurd h this
      | cons q qs => simp [preL]; rw [h] at ih; simp at ih; omega
theorem cut_mem (c : Int) (l : List UInt8) : ∀ x ∈ cut c l, x.length ≤ l.length := by
  induction l with
  | nil => simp [cut]
  | cons b l ih =>
    unfold cut; split
    · intro x hx; simp at hx; rcases hx with rfl | hx
      · simp
      · have := ih x hx; simp; omega
    · have := cut_ne c l
      cases h : cut c l with
      | nil => exact absurd h this
      | cons q qs =>
        intro x hx; simp [preL] at hx
        rcases hx with rfl | hx
        · have := ih q (by rw [h]; simp); simp; omega
        · have := ih x (by rw [h]; simp [hx]); simp; omega
def spec_l00Cut.b1 (a0 : List UInt8) (a1 : Int) : List (List UInt8) × Int × Int → Option (Step (List (List UInt8)) (List (List UInt8) × Int × Int) (List (List UInt8) × Int)) :=
  fun q => match q with
  | (x5_7, x6_9, x7_10) => bif (decide (x7_10 < (a0.length : Int))) then (bif inR x7_10 a0.length then (bif (decide ((byt a0 x7_10) = a1)) then (bif inS x6_9 x7_10 (a0.length : Int) then (bif decide ((x5_7.length + ([sub a0 x6_9 x7_10] : List (List UInt8)).length) * 16 ≤ 140737488355328) then (some (.nxt (x5_7 ++ ([sub a0 x6_9 x7_10] : List (List UInt8)), IntKind.wrap .i64 (x7_10 + 1), IntKind.wrap .i64 (x7_10 + 1)))) else none) else none) else (some (.nxt (x5_7, x6_9, IntKind.wrap .i64 (x7_10 + 1))))) else none) else (some (.brk (x5_7, x6_9)))
def spec_l00Cut.sh (k : Nat) (a0 : List UInt8) (a1 : Int) : Option (List (List UInt8)) :=
  (loopF (spec_l00Cut.b1 a0 a1) k (([] : List (List UInt8)), 0, 0)).bind fun z => match z with | .inl t => some t | .inr (x5_14, x6_16) => bif inS x6_16 (a0.length : Int) (a0.length : Int) then (bif decide ((x5_14.length + ([sub a0 x6_16 (a0.length : Int)] : List (List UInt8)).length) * 16 ≤ 140737488355328) then (some (x5_14 ++ ([sub a0 x6_16 (a0.length : Int)] : List (List UInt8)))) else none) else none
theorem sub_nat {α : Type} (l : List α) (s i : Nat) : sub l (s : Int) (i : Int) = (l.take i).drop s := rfl
theorem spec_l00Cut.eq (a0 : List UInt8) (a1 : Int) (h : a0.length ≤ 1048576) : ∃ k, spec_l00Cut.sh k a0 a1 = some (cut a1 a0) := by
  refine ⟨a0.length + 1, ?_⟩
  unfold spec_l00Cut.sh
  obtain ⟨z, hz, hP⟩ : ∃ z, loopF (spec_l00Cut.b1 a0 a1) (a0.length + 1) (([] : List (List UInt8)), 0, 0) = some z ∧ ∃ out, ∃ s : Nat, z = .inr (out, (s : Int)) ∧ s ≤ a0.length ∧ out.length ≤ a0.length ∧ out ++ [(a0.take a0.length).drop s] = cut a1 a0 := by
    refine loopF_run (fun (v : List (List UInt8) × Int × Int) => ∃ s i : Nat, v.2.1 = s ∧ v.2.2 = i ∧ s ≤ i ∧ i ≤ a0.length ∧ v.1.length ≤ i ∧ v.1 ++ preL ((a0.take i).drop s) (cut a1 (a0.drop i)) = cut a1 a0)
      (fun v => a0.length - v.2.2.toNat) (fun z => ∃ out, ∃ s : Nat, z = .inr (out, (s : Int)) ∧ s ≤ a0.length ∧ out.length ≤ a0.length ∧ out ++ [(a0.take a0.length).drop s] = cut a1 a0) ?_ (a0.length + 1) (([] : List (List UInt8)), (0 : Int), (0 : Int)) ⟨0, 0, rfl, rfl, by omega, by omega, by simp, by simpa using preL_nil (cut_ne _ _)⟩ (by simp)
    rintro ⟨out, s, i⟩ ⟨s', i', hs, hi, hsi, hin, hlen, he⟩
    simp only at hs hi hlen he; subst hs hi
    unfold spec_l00Cut.b1
    by_cases hlt : i' < a0.length
    · have hd : a0.drop i' = a0[i'] :: a0.drop (i' + 1) := List.drop_eq_getElem_cons hlt
      have hg : a0.getD i' 0 = a0[i'] := by simp [List.getD_eq_getElem?_getD, List.getElem?_eq_getElem hlt]
      have ht : (a0.take (i' + 1)).drop s' = (a0.take i').drop s' ++ [a0[i']] := by
        rw [List.take_succ_eq_append_getElem hlt, List.drop_append_of_le_length (by simp; omega)]
      simp only [lt_nat, hlt, decide_true, cond_true, inR_nat hlt, byt_nat, hg, wrap_succ hlt (by omega)]
      by_cases hc : bn a0[i'] = a1
      · have h1 : decide ((out.length + ([sub a0 (s' : Int) (i' : Int)] : List (List UInt8)).length) * 16 ≤ 140737488355328) = true := by simp; omega
        simp only [hc, decide_true, cond_true, inS_mk (l := (s' : Int)) (h := (i' : Int)) (n := (a0.length : Int)) (by omega) (by omega) (by omega), h1]
        refine ⟨_, rfl, ⟨i' + 1, i' + 1, by simp, by simp, by omega, by omega, by simp; omega, ?_⟩, by simp; omega⟩
        rw [← he, hd]
        have hc' : cut a1 (a0[i'] :: a0.drop (i' + 1)) = [] :: cut a1 (a0.drop (i' + 1)) := by rw [cut]; simp [hc]
        rw [hc']
        have this : (a0.take (i' + 1)).drop (i' + 1) = [] := by simp
        rw [this, preL_nil (cut_ne _ _), sub_nat]
        simp [preL]
      · simp only [hc, decide_false, cond_false]
        refine ⟨_, rfl, ⟨s', i' + 1, by simp, by simp, by omega, by omega, by simp; omega, ?_⟩, by simp; omega⟩
        simp only
        rw [← he, hd]
        have hc' : cut a1 (a0[i'] :: a0.drop (i' + 1)) = preL [a0[i']] (cut a1 (a0.drop (i' + 1))) := by rw [cut]; simp [hc]
        rw [hc', preL_preL, ht]
    · have : i' = a0.length := by omega
      subst this
      simp only [lt_nat, Nat.lt_irrefl, decide_false, cond_false]
      refine ⟨_, rfl, ⟨_, s', rfl, by omega, by omega, ?_⟩⟩
      rw [← he]
      simp [cut, preL]
  rw [hz]
  obtain ⟨out, s, rfl, hs, hl, he⟩ := hP
  have h1 : decide ((out.length + ([sub a0 (s : Int) (a0.length : Int)] : List (List UInt8)).length) * 16 ≤ 140737488355328) = true := by simp; omega
  simp only [Option.bind_some, inS_mk (l := (s : Int)) (h := (a0.length : Int)) (n := (a0.length : Int)) (by omega) (by omega) (by omega), cond_true, h1]
  rw [sub_nat, he]
/-! ### a path: parts -/
theorem cut_sum (c : Int) (n : Nat) (l : List UInt8) : ∀ m, (cut c l).length ≤ m → (∀ x ∈ cut c l, x.length ≤ n) → l.length + 1 ≤ m * (n + 1) := by
  induction l with
  | nil => intro m h1 _; simp [cut] at h1; have : 1 * 1 ≤ m * (n + 1) := Nat.mul_le_mul h1 (by omega); simpa using this
  | cons b l ih =>
    intro m h1 h2
    unfold cut at h1 h2
    split at h1
    · rename_i hc
      rw [if_pos hc] at h2
      obtain ⟨m, rfl⟩ : ∃ j, m = j + 1 := ⟨m - 1, by simp at h1; omega⟩
      have := ih m (by simpa using h1) (fun x hx => h2 x (by simp [hx]))
      rw [Nat.succ_mul]; simp; omega
    · rename_i hc
      rw [if_neg hc] at h2
      have hne := cut_ne c l
      cases h : cut c l with
      | nil => exact absurd h hne
      | cons q qs =>
        rw [h] at h1 h2
        simp only [preL, List.length_cons] at h1
        have hq := h2 ([b] ++ q) (by simp [preL])
        -- one place less is needed: the head piece has one byte less than it may have
        have key : ∀ (l : List UInt8) (q : List UInt8) (qs : List (List UInt8)), cut c l = q :: qs → l.length = q.length + (qs.map fun x => x.length + 1).sum := by
          intro l
          induction l with
          | nil => intro q qs h; simp [cut] at h; obtain ⟨rfl, rfl⟩ := h; simp
          | cons b l ih2 =>
            intro q qs h
            unfold cut at h
            have hne := cut_ne c l
            cases h' : cut c l with
            | nil => exact absurd h' hne
            | cons q' qs' =>
              have := ih2 q' qs' h'
              rw [h'] at h
              split at h
              · simp at h; obtain ⟨rfl, rfl⟩ := h; simp; omega
              · simp [preL] at h; obtain ⟨rfl, rfl⟩ := h; simp; omega
        have hk := key l q qs h
        have hsum : ∀ (qs : List (List UInt8)), (∀ x ∈ qs, x.length ≤ n) → (qs.map fun x => x.length + 1).sum ≤ qs.length * (n + 1) := by
          intro qs
          induction qs with
          | nil => simp
          | cons x r ih3 => intro hx; have h4 := ih3 (fun y hy => hx y (by simp [hy])); have h5 := hx x (by simp); simp only [List.map_cons, List.sum_cons, List.length_cons, Nat.succ_mul]; omega
        have h6 := hsum qs (fun x hx => h2 x (by simp [preL, hx]))
        have h7 : (qs.length + 1) * (n + 1) ≤ m * (n + 1) := Nat.mul_le_mul_right _ h1
        rw [Nat.succ_mul] at h7
        simp at hq ⊢
        omega
def pathOK (t : List UInt8) : Bool := decide (t.length < 36) && (decide ((cut 47 t).length ≤ 4) && (cut 47 t).all partOK)
def spec_l01OK.b1 (a0 : List UInt8) : Int → Option (Step (Bool) (Int) (Unit)) :=
  fun x4_8 => bif (decide (x4_8 < ((cut 47 a0).length : Int))) then (bif inR x4_8 (cut 47 a0).length then (bif (!(partOK (gt (cut 47 a0) x4_8))) then (some (.ret false)) else (some (.nxt (IntKind.wrap .i64 (x4_8 + 1))))) else none) else (some (.brk ()))
def spec_l01OK.sh (k : Nat) (a0 : List UInt8) : Option (Bool) :=
  bif (decide (36 < (a0.length : Int))) then (some false) else (bif decide (a0.length ≤ 1048576) then (bif (decide (4 < ((cut 47 a0).length : Int))) then (some false) else ((loopF (spec_l01OK.b1 a0) k 0).bind fun z => match z with | .inl t => some t | .inr _ => some true)) else none)
theorem partOK_len {t : List UInt8} (h : partOK t = true) : t.length ≤ 8 := by
  simp [partOK, within] at h; omega
theorem getD_gt {α : Type} [Inhabited α] (l : List α) (i : Nat) : gt l (i : Int) = l.getD i default := rfl
theorem spec_l01OK.eq (a0 : List UInt8) : ∃ k, spec_l01OK.sh k a0 = some (pathOK a0) := by
  refine ⟨a0.length + 2, ?_⟩
  unfold spec_l01OK.sh
  by_cases h1 : 36 < a0.length
  · have : (36 : Int) < (a0.length : Int) := by omega
    have h2 : ¬ a0.length < 36 := by omega
    simp [this, pathOK, h2]
  · have h2 : ¬ (36 : Int) < (a0.length : Int) := by omega
    have h3 : a0.length ≤ 1048576 := by omega
    simp only [h2, decide_false, cond_false, h3, decide_true, cond_true]
    by_cases h4 : 4 < (cut 47 a0).length
    · have h5 : (4 : Int) < ((cut 47 a0).length : Int) := by omega
      have h6 : ¬ (cut 47 a0).length ≤ 4 := by omega
      simp [h5, pathOK, h6]
    · have h5 : ¬ (4 : Int) < ((cut 47 a0).length : Int) := by omega
      simp only [h5, decide_false, cond_false]
      have hb : ∀ i : Nat, i < (cut 47 a0).length → spec_l01OK.b1 a0 i = some (sc (if !partOK ((cut 47 a0).getD i default) then some false else none : Option Bool) ((i : Int) + 1)) := by
        intro i hi
        simp only [spec_l01OK.b1, lt_nat, hi, decide_true, cond_true, inR_nat hi, getD_gt, wrap_succ hi (by omega)]
        cases partOK ((cut 47 a0).getD i default) <;> rfl
      have hn : spec_l01OK.b1 a0 (cut 47 a0).length = some (.brk ()) := by simp [spec_l01OK.b1]
      rw [loop_scan0 _ _ hb hn (a0.length + 2) (by have := cut_len 47 a0; omega), find_any0 (cut 47 a0) default (fun t => !partOK t) false]
      have h6 : (cut 47 a0).length ≤ 4 := by omega
      have h7 : (cut 47 a0).any (fun t => !partOK t) = !(cut 47 a0).all partOK := by rw [List.not_all_eq_any_not]
      rw [h7]
      cases ha : (cut 47 a0).all partOK with
      | false => simp [pathOK, ha]
      | true =>
        have := cut_sum 47 8 a0 4 h6 (fun x hx => partOK_len (List.all_eq_true.1 ha x hx))
        have h8 : a0.length < 36 := by omega
        simp [pathOK, h6, ha, h8]
/-! ### lists and tests that may fail -/
def idxO {α : Type} (p : α → Option Bool) : List α → Option Int
  | [] => some (-1)
  | x :: l => (p x).bind fun b => bif b then some 0 else (idxO p l).map fun i => if i = -1 then -1 else i + 1
def anyO {α : Type} (p : α → Option Bool) : List α → Option Bool
  | [] => some false
  | x :: l => (p x).bind fun b => bif b then some true else anyO p l
def allO {α : Type} (p : α → Option Bool) : List α → Option Bool
  | [] => some true
  | x :: l => (p x).bind fun b => bif b then allO p l else some false
theorem anyO_some {α : Type} {p : α → Option Bool} {q : α → Bool} : ∀ {l : List α}, (∀ x ∈ l, p x = some (q x)) → anyO p l = some (l.any q) := by
  intro l
  induction l with
  | nil => intro _; rfl
  | cons x l ih => intro h; simp only [anyO, h x (by simp), Option.bind_some, List.any_cons]; rw [ih fun y hy => h y (by simp [hy])]; cases q x <;> rfl
theorem allO_some {α : Type} {p : α → Option Bool} {q : α → Bool} : ∀ {l : List α}, (∀ x ∈ l, p x = some (q x)) → allO p l = some (l.all q) := by
  intro l
  induction l with
  | nil => intro _; rfl
  | cons x l ih => intro h; simp only [allO, h x (by simp), Option.bind_some, List.all_cons]; rw [ih fun y hy => h y (by simp [hy])]; cases q x <;> rfl
theorem idxO_any {α : Type} {p : α → Option Bool} : ∀ {l : List α} {i : Int}, idxO p l = some i → -1 ≤ i ∧ anyO p l = some (decide (0 ≤ i)) := by
  intro l
  induction l with
  | nil => intro i h; simp [idxO] at h; subst h; simp [anyO]
  | cons x l ih =>
    intro i h
    simp only [idxO] at h
    obtain ⟨b, hb, h⟩ := bind_some h
    cases b with
    | true => simp at h; subst h; simp [anyO, hb]
    | false =>
      simp only [cond_false, Option.map_eq_some_iff] at h
      obtain ⟨j, hj, rfl⟩ := h
      obtain ⟨h1, h2⟩ := ih hj
      simp only [anyO, hb, Option.bind_some, cond_false, h2]
      split <;> simp_all <;> omega
theorem any_idxO {α : Type} {p : α → Option Bool} : ∀ {l : List α} {b : Bool}, anyO p l = some b → ∃ i, idxO p l = some i := by
  intro l
  induction l with
  | nil => intro b _; exact ⟨_, rfl⟩
  | cons x l ih =>
    intro b h
    simp only [anyO] at h
    obtain ⟨c, hc, h⟩ := bind_some h
    cases c with
    | true => exact ⟨0, by simp [idxO, hc]⟩
    | false => obtain ⟨i, hi⟩ := ih (by simpa using h); exact ⟨if i = -1 then -1 else i + 1, by simp [idxO, hc, hi]⟩
theorem anyO_not {α : Type} {p : α → Option Bool} : ∀ (l : List α), anyO (fun x => (p x).map (!·)) l = (allO p l).map (!·) := by
  intro l
  induction l with
  | nil => rfl
  | cons x l ih =>
    simp only [anyO, allO]
    cases p x with
    | none => rfl
    | some b => cases b <;> simp [ih]
def slices_IndexFuncS.b1 (a0 : List (List UInt8)) (a1 : List UInt8 → Option Bool) : Int → Option (Step (Int) (Int) (Unit)) :=
  fun x8_1 => bif (decide (x8_1 < (a0.length : Int))) then (bif inR x8_1 a0.length then ((a1 (gt a0 x8_1)).bind fun z22 => bif z22 then (some (.ret x8_1)) else (some (.nxt (IntKind.wrap .i64 (x8_1 + 1))))) else none) else (some (.brk ()))
def slices_IndexFuncS.sh (k : Nat) (a0 : List (List UInt8)) (a1 : List UInt8 → Option Bool) : Option (Int) :=
  (loopF (slices_IndexFuncS.b1 a0 a1) k 0).bind fun z => match z with | .inl t => some t | .inr _ => some (-1)
theorem idxO_find {α : Type} [Inhabited α] {p : α → Option Bool} (l : List α) : ∀ (m i : Nat), i + m = l.length → ∀ r, idxO p (l.drop i) = some r → ∀ b : Int → Option (Step Int Int Unit),
    (∀ i : Nat, i < l.length → b i = (p (l.getD i default)).bind fun z => bif z then some (.ret (i : Int)) else some (.nxt ((i : Int) + 1))) → b l.length = some (.brk ()) → ∀ k, m < k →
    loopF b k i = some (if r = -1 then .inr () else .inl ((i : Int) + r)) := by
  intro m
  induction m with
  | zero =>
    intro i hi r hr b hb hn k hk
    obtain ⟨k, rfl⟩ : ∃ j, k = j + 1 := ⟨k - 1, by omega⟩
    have : i = l.length := by omega
    subst this
    simp [idxO] at hr; subst hr
    simp [loopF, hn]
  | succ m ih =>
    intro i hi r hr b hb hn k hk
    obtain ⟨k, rfl⟩ : ∃ j, k = j + 1 := ⟨k - 1, by omega⟩
    have hlt : i < l.length := by omega
    rw [List.drop_eq_getElem_cons hlt] at hr
    have hg : l.getD i default = l[i] := by simp [List.getD_eq_getElem?_getD, List.getElem?_eq_getElem hlt]
    simp only [idxO] at hr
    obtain ⟨c, hc, hr⟩ := bind_some hr
    simp only [loopF, hb i hlt, hg, hc, Option.bind_some]
    cases c with
    | true => simp at hr; subst hr; simp
    | false =>
      simp only [cond_false, Option.map_eq_some_iff] at hr
      obtain ⟨j, hj, rfl⟩ := hr
      simp only [cond_false, Option.bind_some]
      have := ih (i + 1) (by omega) j hj b hb hn k (by omega)
      rw [Int.natCast_add, Int.natCast_one] at this
      rw [this]
      have := (idxO_any hj).1
      by_cases h : j = -1
      · simp [h]
      · simp [h]
        have h2 : ¬ j + 1 = -1 := by omega
        simp [h2]; omega
theorem slices_IndexFuncS.eq (a0 : List (List UInt8)) (a1 : List UInt8 → Option Bool) (h : a0.length ≤ 4611686018427387904) {r : Int} (H : idxO a1 a0 = some r) : ∃ k, slices_IndexFuncS.sh k a0 a1 = some r := by
  refine ⟨a0.length + 1, ?_⟩
  have := idxO_find a0 a0.length 0 (by omega) r (by simpa using H) (slices_IndexFuncS.b1 a0 a1) (fun i hi => by
    simp only [slices_IndexFuncS.b1, lt_nat, hi, decide_true, cond_true, inR_nat hi, getD_gt, wrap_succ hi h]) (by simp [slices_IndexFuncS.b1]) (a0.length + 1) (by omega)
  simp only [Int.natCast_zero] at this
  unfold slices_IndexFuncS.sh
  rw [this]
  by_cases hr : r = -1
  · simp [hr]
  · simp [hr]
def slices_ContainsFuncS.sh (a0 : List (List UInt8)) (a1 : List UInt8 → Option Bool) : Option (Bool) :=
  bif decide (a0.length ≤ 4611686018427387904) then (((idxO a1 a0)).bind fun z2 => some (decide (0 ≤ z2))) else none
theorem slices_ContainsFuncS.eq (a0 : List (List UInt8)) (a1 : List UInt8 → Option Bool) (h : a0.length ≤ 4611686018427387904) {r : Bool} (H : anyO a1 a0 = some r) : slices_ContainsFuncS.sh a0 a1 = some r := by
  obtain ⟨i, hi⟩ := any_idxO H
  have := (idxO_any hi).2
  rw [this] at H
  simp [slices_ContainsFuncS.sh, h, hi, Option.some.inj H]
def impl_allS_1.sh (a0 : List UInt8) (a1 : List UInt8 → Option Bool) : Option (Bool) :=
  (a1 a0).bind fun z1 => some (!z1)
theorem impl_allS_1.eq (a0 : List UInt8) (a1 : List UInt8 → Option Bool) {r : Bool} (H : ((a1 a0).map (!·)) = some r) : impl_allS_1.sh a0 a1 = some r := by
  simp only [Option.map_eq_some_iff] at H
  obtain ⟨b, hb, rfl⟩ := H
  simp [impl_allS_1.sh, hb]
def impl_allS.sh (a0 : List (List UInt8)) (a1 : List UInt8 → Option Bool) : Option (Bool) :=
  bif decide (a0.length ≤ 4611686018427387904) then (((anyO (fun (x0_ : List UInt8) => ((a1 x0_).map (!·))) a0)).bind fun z12 => some (!z12)) else none
theorem impl_allS.eq (a0 : List (List UInt8)) (a1 : List UInt8 → Option Bool) (h : a0.length ≤ 4611686018427387904) {r : Bool} (H : allO a1 a0 = some r) : impl_allS.sh a0 a1 = some r := by
  have e : anyO (fun x => (a1 x).map (!·)) a0 = some (!r) := by rw [anyO_not, H]; rfl
  simp only [impl_allS.sh, h, decide_true, cond_true]
  rw [e]; simp
def impl_parts.sh (a0 : List UInt8) : Option (List (List UInt8)) :=
  bif decide (a0.length ≤ 1048576) then (bif decide (([47] : List UInt8) = [47]) then (some (cut 47 a0)) else none) else none
theorem impl_parts.eq (a0 : List UInt8) (h : a0.length ≤ 1048576) : impl_parts.sh a0 = some (cut 47 a0) := by simp [impl_parts.sh, h]
def impl_PathOK.sh (a0 : List UInt8) : Option (Bool) :=
  ((bif (decide ((a0.length : Int) < 36)) then (bif decide (a0.length ≤ 1048576) then (some (decide (((cut 47 a0).length : Int) ≤ 4))) else none) else some false)).bind fun z2 => ((bif z2 then (bif decide (a0.length ≤ 1048576) then (bif decide ((cut 47 a0).length ≤ 4611686018427387904) then (((allO (fun (x0_ : List UInt8) => bif decide (x0_.length ≤ 4611686018427387904) then (some (partOK x0_)) else none) (cut 47 a0))).bind fun z21 => some z21) else none) else none) else some false)).bind fun z11 => some z11
theorem impl_PathOK.eq (a0 : List UInt8) : impl_PathOK.sh a0 = some (pathOK a0) := by
  unfold impl_PathOK.sh
  by_cases h : a0.length < 36
  · have h1 : (a0.length : Int) < 36 := by omega
    have h2 : a0.length ≤ 1048576 := by omega
    have h3 : (cut 47 a0).length ≤ 4611686018427387904 := by have := cut_len 47 a0; omega
    have h4 : ((cut 47 a0).length : Int) ≤ 4 ↔ (cut 47 a0).length ≤ 4 := by omega
    have h5 := allO_some (p := fun (x0_ : List UInt8) => bif decide (x0_.length ≤ 4611686018427387904) then (some (partOK x0_)) else none) (q := partOK) (l := cut 47 a0) (fun x hx => by
      have := cut_mem 47 a0 x hx
      have h6 : x.length ≤ 4611686018427387904 := by omega
      simp [h6])
    simp only [h1, h2, h3, h4, h5, decide_true, cond_true, Option.bind_some]
    by_cases h7 : (cut 47 a0).length ≤ 4
    · simp [h7, pathOK, h]
    · simp [h7, pathOK]
  · have h1 : ¬ (a0.length : Int) < 36 := by omega
    simp [h1, pathOK, h]
def impl_isLong_1.sh (a0 : List UInt8) : Option (Bool) :=
  some (decide ((a0.length : Int) ≤ 65536))
theorem impl_isLong_1.eq (a0 : List UInt8) : impl_isLong_1.sh a0 = some (decide (a0.length ≤ 65536)) := by
  have : (a0.length : Int) ≤ 65536 ↔ a0.length ≤ 65536 := by omega
  simp [impl_isLong_1.sh, this]
def impl_isLong.sh (a0 : List (List UInt8)) : Option (Bool) :=
  bif decide (a0.length ≤ 4611686018427387904) then (((allO (fun (x0_ : List UInt8) => some (decide (x0_.length ≤ 65536))) a0)).bind fun z6 => some (!z6)) else none
theorem impl_isLong.eq (a0 : List (List UInt8)) (h : a0.length ≤ 4611686018427387904) : impl_isLong.sh a0 = some (a0.any fun t => decide (65536 < t.length)) := by
  have h5 := allO_some (p := fun (x0_ : List UInt8) => some (decide (x0_.length ≤ 65536))) (q := fun x => decide (x.length ≤ 65536)) (l := a0) (fun x _ => rfl)
  simp only [impl_isLong.sh, h, decide_true, cond_true, h5, Option.bind_some]
  rw [List.not_all_eq_any_not]
  congr 2; funext t; by_cases h : t.length ≤ 65536 <;> simp [h] <;> omega
/-- The first code whose test holds. -/
def firstOf : List (Bool ⊕ Int) → Int
  | a :: b :: l => if anyB a then anyI b else firstOf l
  | _ => 0
def impl_first.b1 (a0 : List (Bool ⊕ Int)) : Int → Option (Step (Int) (Int) (Unit)) :=
  fun x3_1 => bif (decide ((IntKind.wrap .i64 (x3_1 + 1)) < (a0.length : Int))) then (bif inR x3_1 a0.length then (bif (anyB (gt a0 x3_1)) then (bif inR (IntKind.wrap .i64 (x3_1 + 1)) a0.length then (some (.ret (anyI (gt a0 (IntKind.wrap .i64 (x3_1 + 1)))))) else none) else (some (.nxt (IntKind.wrap .i64 (x3_1 + 2))))) else none) else (some (.brk ()))
def impl_first.sh (k : Nat) (a0 : List (Bool ⊕ Int)) : Option (Int) :=
  (loopF (impl_first.b1 a0) k 0).bind fun z => match z with | .inl t => some t | .inr _ => some 0
theorem impl_first.eq (a0 : List (Bool ⊕ Int)) (h : a0.length ≤ 4611686018427387904) : ∃ k, impl_first.sh k a0 = some (firstOf a0) := by
  refine ⟨a0.length + 1, ?_⟩
  unfold impl_first.sh
  have key : ∀ (m i k : Nat), a0.length ≤ i + m → i ≤ a0.length → m < k → ∃ z, loopF (impl_first.b1 a0) k (i : Int) = some z ∧ (match z with | .inl t => some t | .inr _ => some 0) = some (firstOf (a0.drop i)) := by
    intro m
    induction m using Nat.strongRecOn with
    | _ m ih =>
      intro i k him hi hk
      obtain ⟨k, rfl⟩ : ∃ j, k = j + 1 := ⟨k - 1, by omega⟩
      simp only [loopF, impl_first.b1]
      have hw : IntKind.wrap .i64 ((i : Int) + 1) = ((i + 1 : Nat) : Int) := by rw [wrap_small (by omega) (by omega)]; simp
      by_cases h1 : i + 1 < a0.length
      · have h2 : i < a0.length := by omega
        have e : a0.drop i = a0[i] :: a0[i + 1] :: a0.drop (i + 2) := by rw [List.drop_eq_getElem_cons h2, List.drop_eq_getElem_cons h1]
        have g1 : a0.getD i default = a0[i] := by simp [List.getD_eq_getElem?_getD, List.getElem?_eq_getElem h2]
        have g2 : a0.getD (i + 1) default = a0[i + 1] := by simp [List.getD_eq_getElem?_getD, List.getElem?_eq_getElem h1]
        rw [hw]
        simp only [lt_nat, h1, decide_true, cond_true, inR_nat h2, inR_nat h1, getD_gt, g1, g2, e, firstOf]
        cases hb : anyB a0[i] with
        | true => simp
        | false =>
          simp only [cond_false, Option.bind_some]
          have hw2 : IntKind.wrap .i64 ((i : Int) + 2) = ((i + 2 : Nat) : Int) := by rw [wrap_small (by omega) (by omega)]; simp
          rw [hw2]
          by_cases hm : m = 0
          · omega
          · obtain ⟨z, hz, hP⟩ := ih (m - 1) (by omega) (i + 2) k (by omega) (by omega) (by omega)
            exact ⟨z, hz, by simpa using hP⟩
      · rw [hw]
        simp only [lt_nat, h1, decide_false, cond_false, Option.bind_some]
        refine ⟨_, rfl, ?_⟩
        have : (a0.drop i).length ≤ 1 := by simp; omega
        cases hd : a0.drop i with
        | nil => simp [firstOf]
        | cons x r => cases r with
          | nil => simp [firstOf]
          | cons y s => rw [hd] at this; simp at this
  obtain ⟨z, hz, hP⟩ := key a0.length 0 (a0.length + 1) (by omega) (by omega) (by omega)
  simp only [Int.natCast_zero] at hz
  rw [hz]; simp only [Option.bind_some]; simpa using hP
theorem list_ne_any {α : Type} [DecidableEq α] [Inhabited α] : ∀ (a b : List α), a.length = b.length → (List.range a.length).findSome? (fun j => if !decide (a.getD j default = b.getD j default) then some false else none) = if decide (a = b) then none else some false := by
  intro a b hl
  by_cases h : a = b
  · subst h
    have : (List.range a.length).findSome? (fun j => if !decide (a.getD j default = a.getD j default) then some false else none) = none := by
      rw [List.findSome?_eq_none_iff]; intro j _; simp
    rw [this]; simp
  · have : ∃ j, j < a.length ∧ a.getD j default ≠ b.getD j default := by
      apply Classical.byContradiction
      intro hn
      apply h
      apply List.ext_getElem hl
      intro i h1 h2
      have := fun hh => hn ⟨i, h1, hh⟩
      simp only [ne_eq, Classical.not_not] at this
      simpa [List.getD_eq_getElem?_getD, List.getElem?_eq_getElem h1, List.getElem?_eq_getElem h2] using Classical.not_not.1 this
    obtain ⟨j, hj, hne⟩ := this
    simp only [h, decide_false, Bool.false_eq_true, if_false]
    cases hf : (List.range a.length).findSome? (fun j => if !decide (a.getD j default = b.getD j default) then some false else none) with
    | none =>
      rw [List.findSome?_eq_none_iff] at hf
      have := hf j (List.mem_range.2 hj)
      have hd : decide (a.getD j default = b.getD j default) = false := by simpa using hne
      rw [hd] at this; simp at this
    | some t =>
      obtain ⟨j, _, ht⟩ := List.exists_of_findSome?_eq_some hf
      split at ht
      · rw [← ht]
      · cases ht

end Go.UL
