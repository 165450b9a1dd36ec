/- Plain Lean: what the functions compute. -/
import Derived.Test.YtfefjaohlhkmaaaGreatDoorK
set_option linter.unusedVariables false
set_option linter.unusedSimpArgs false
namespace Go.UL
open Go.RowKit
/-! ### loops over places -/
theorem wrap_small {n : Int} (h0 : -9223372036854775808 ≤ n) (h1 : n ≤ 9223372036854775807) : IntKind.wrap .i64 n = n := by rw [IntKind.wrap_i64]; omega
/-- One round: an answer, or on to the next. -/
def sc {T V E : Type} (o : Option T) (v : V) : Step T V E := match o with | some t => .ret t | none => .nxt v
@[simp] theorem sc_some {T V E : Type} (t : T) (v : V) : (sc (some t) v : Step T V E) = .ret t := rfl
@[simp] theorem sc_none {T V E : Type} (v : V) : (sc (none : Option T) v : Step T V E) = .nxt v := rfl
/-- A loop that asks one place after the other. -/
theorem loop_scan {T : Type} {b : Int → Option (Step T Int Unit)} (n : Nat) (f : Nat → Option T) (hb : ∀ i : Nat, i < n → b i = some (sc (f i) ((i : Int) + 1))) (hn : b n = some (.brk ())) :
    ∀ (m i k : Nat), i + m = n → m < k → loopF b k i = some (match (List.range' i m).findSome? f with | some t => .inl t | none => .inr ()) := by
  intro m
  induction m with
  | zero =>
    intro i k hi hk
    obtain ⟨k, rfl⟩ : ∃ j, k = j + 1 := ⟨k - 1, by omega⟩
    have : i = n := by omega
    subst this
    simp [loopF, hn]
  | succ m ih =>
    intro i k hi hk
    obtain ⟨k, rfl⟩ : ∃ j, k = j + 1 := ⟨k - 1, by omega⟩
    simp only [loopF, hb i (by omega), Option.bind_some, List.range'_succ, List.findSome?_cons]
    cases hf : f i with
    | some t => simp
    | none =>
      simp only []
      have := ih (i + 1) k (by omega) (by omega)
      rw [Int.natCast_add, Int.natCast_one] at this
      exact this
theorem loop_scan0 {T : Type} {b : Int → Option (Step T Int Unit)} (n : Nat) (f : Nat → Option T) (hb : ∀ i : Nat, i < n → b i = some (sc (f i) ((i : Int) + 1))) (hn : b n = some (.brk ())) (k : Nat) (hk : n < k) :
    loopF b k 0 = some (match (List.range n).findSome? f with | some t => .inl t | none => .inr ()) := by
  have := loop_scan n f hb hn n 0 k (by omega) hk
  rw [List.range_eq_range']
  exact this
theorem find_any {α : Type} {T : Type} (l : List α) (d : α) (q : α → Bool) (r : T) : ∀ (i : Nat) (m : Nat), i + m = l.length → (List.range' i m).findSome? (fun j => if q (l.getD j d) then some r else none) = if (l.drop i).any q then some r else none := by
  intro i m
  induction m generalizing i with
  | zero => intro h; have : l.length ≤ i := by omega
            simp [List.drop_of_length_le this]
  | succ m ih =>
    intro h
    have hi : i < l.length := by omega
    rw [List.range'_succ, List.findSome?_cons, List.drop_eq_getElem_cons hi]
    have hg : l.getD i d = l[i] := by simp [List.getD_eq_getElem?_getD, List.getElem?_eq_getElem hi]
    rw [hg, List.any_cons]
    cases hq : q l[i] with
    | true => simp
    | false => simp only [Bool.false_eq_true, if_false, Bool.false_or]; exact ih (i + 1) (by omega)
theorem find_any0 {α : Type} {T : Type} (l : List α) (d : α) (q : α → Bool) (r : T) : (List.range l.length).findSome? (fun j => if q (l.getD j d) then some r else none) = if l.any q then some r else none := by
  have := find_any l d q r 0 l.length (by omega)
  rw [List.range_eq_range', this]; simp
theorem inR_nat {i n : Nat} (h : i < n) : inR (i : Int) n = true := inR_mk (by omega) (by omega)
theorem lt_nat (i n : Nat) : decide ((i : Int) < (n : Int)) = decide (i < n) := by by_cases h : i < n <;> simp [h]
theorem wrap_succ {i n : Nat} (h : i < n) (hn : n ≤ 4611686018427387904) : IntKind.wrap .i64 ((i : Int) + 1) = (i : Int) + 1 := wrap_small (by omega) (by omega)
/-- One byte as a number. -/
abbrev bn (c : UInt8) : Int := (c.toNat : Int)
theorem byt_nat (t : List UInt8) (i : Nat) : byt t (i : Int) = bn (t.getD i 0) := rfl
theorem bn_range (c : UInt8) : 0 ≤ bn c ∧ bn c ≤ 255 := by have := c.toNat_lt; unfold bn; omega

/-! ### numbers, names, codes, parts -/
def within (n lo hi : Int) : Bool := decide (lo ≤ n) && decide (n ≤ hi)
def impl_within.sh (a0 : Int) (a1 : Int) (a2 : Int) : Option (Bool) :=
  some ((decide (a1 ≤ a0)) && (decide (a0 ≤ a2)))
theorem impl_within.eq (a0 a1 a2 : Int) : impl_within.sh a0 a1 a2 = some (within a0 a1 a2) := rfl
def spec_l01In.sh (a0 : Int) (a1 : Int) (a2 : Int) : Option (Bool) :=
  some ((decide (a1 ≤ a0)) && (decide (a0 ≤ a2)))
theorem spec_l01In.eq (a0 a1 a2 : Int) : spec_l01In.sh a0 a1 a2 = some (within a0 a1 a2) := rfl
def partByte (c : Int) : Bool := decide (33 ≤ c) && decide (c ≤ 126) && !decide (c = 47)
def partOK (t : List UInt8) : Bool := within (t.length : Int) 1 8 && !decide (t = [46]) && !decide (t = [46, 46]) && t.all fun c => partByte (bn c)
def spec_l01Part.b1 (a0 : List UInt8) : Int → Option (Step (Bool) (Int) (Unit)) :=
  fun x3_16 => bif (decide (x3_16 < (a0.length : Int))) then (bif inR x3_16 a0.length then (((bif (decide ((byt a0 x3_16) < 33)) then some true else (bif inR x3_16 a0.length then (some (decide (126 < (byt a0 x3_16)))) else none))).bind fun z36 => ((bif z36 then some true else (bif inR x3_16 a0.length then (some (decide ((byt a0 x3_16) = 47))) else none))).bind fun z45 => bif z45 then (some (.ret false)) else (some (.nxt (IntKind.wrap .i64 (x3_16 + 1))))) else none) else (some (.brk ()))
def spec_l01Part.sh (k : Nat) (a0 : List UInt8) : Option (Bool) :=
  bif (((!(within (a0.length : Int) 1 8)) || (decide (a0 = ([46] : List UInt8)))) || (decide (a0 = ([46, 46] : List UInt8)))) then (some false) else ((loopF (spec_l01Part.b1 a0) k 0).bind fun z => match z with | .inl t => some t | .inr _ => some true)
theorem spec_l01Part.eq (a0 : List UInt8) : ∃ k, spec_l01Part.sh k a0 = some (partOK a0) := by
  refine ⟨a0.length + 1, ?_⟩
  unfold spec_l01Part.sh
  cases hh : (((!(within (a0.length : Int) 1 8)) || (decide (a0 = ([46] : List UInt8)))) || (decide (a0 = ([46, 46] : List UInt8)))) with
  | true =>
    simp only [cond_true]
    have : (within (a0.length : Int) 1 8 && !decide (a0 = [46]) && !decide (a0 = [46, 46])) = false := by
      revert hh
      cases within (a0.length : Int) 1 8 <;> cases decide (a0 = ([46] : List UInt8)) <;> cases decide (a0 = ([46, 46] : List UInt8)) <;> simp
    simp [partOK, this]
  | false =>
    simp only [cond_false]
    have h3 : (within (a0.length : Int) 1 8 && !decide (a0 = [46]) && !decide (a0 = [46, 46])) = true := by
      revert hh
      cases within (a0.length : Int) 1 8 <;> cases decide (a0 = ([46] : List UInt8)) <;> cases decide (a0 = ([46, 46] : List UInt8)) <;> simp
    have hlen : a0.length ≤ 4611686018427387904 := by
      have : within (a0.length : Int) 1 8 = true := by revert h3; cases within (a0.length : Int) 1 8 <;> simp
      simp [within] at this; omega
    have hb : ∀ i : Nat, i < a0.length → spec_l01Part.b1 a0 i = some (sc (if !partByte (bn (a0.getD i 0)) then some false else none : Option Bool) ((i : Int) + 1)) := by
      intro i hi
      simp only [spec_l01Part.b1, lt_nat, hi, decide_true, cond_true, inR_nat hi, byt_nat, wrap_succ hi hlen]
      obtain ⟨c, hc⟩ : ∃ c, bn (a0.getD i 0) = c := ⟨_, rfl⟩
      simp only [hc]
      by_cases h1 : c < 33
      · have : partByte c = false := by simp [partByte]; omega
        simp [h1, this]
      · by_cases h2 : 126 < c
        · have : partByte c = false := by simp [partByte]; omega
          simp [h1, h2, this]
        · by_cases h4 : c = 47
          · have : partByte c = false := by simp [partByte, h4]
            simp [h4, show partByte 47 = false from rfl]
          · have : partByte c = true := by simp [partByte, h4]; omega
            simp [h1, h2, h4, this]
    rw [loop_scan0 a0.length _ hb (by simp [spec_l01Part.b1]) (a0.length + 1) (by omega), find_any0 a0 0 (fun c => !partByte (bn c)) false]
    have hna : (a0.any fun c => !partByte (bn c)) = !(a0.all fun c => partByte (bn c)) := by rw [List.not_all_eq_any_not]
    rw [hna]
    unfold partOK
    rw [h3]
    cases (a0.all fun c => partByte (bn c)) <;> simp
def impl_PartOK.b1 (a0 : List UInt8) : Int → Option (Step (Bool) (Int) (Unit)) :=
  fun x6_1 => bif (decide (x6_1 < (a0.length : Int))) then (bif inR x6_1 a0.length then (((bif (!(within (IntKind.wrap .i64 (byt a0 x6_1)) 33 126)) then some true else (bif inR x6_1 a0.length then (some (decide ((byt a0 x6_1) = 47))) else none))).bind fun z23 => bif z23 then (some (.ret false)) else (some (.nxt (IntKind.wrap .i64 (x6_1 + 1))))) else none) else (some (.brk ()))
def impl_PartOK.sh (k : Nat) (a0 : List UInt8) : Option (Bool) :=
  (loopF (impl_PartOK.b1 a0) k 0).bind fun z => match z with | .inl t => some t | .inr _ => some (((within (a0.length : Int) 1 8) && (!decide (a0 = ([46] : List UInt8)))) && (!decide (a0 = ([46, 46] : List UInt8))))
theorem impl_PartOK.eq (a0 : List UInt8) (hlen : a0.length ≤ 4611686018427387904) : ∃ k, impl_PartOK.sh k a0 = some (partOK a0) := by
  refine ⟨a0.length + 1, ?_⟩
  unfold impl_PartOK.sh
  have hb : ∀ i : Nat, i < a0.length → impl_PartOK.b1 a0 i = some (sc (if !partByte (bn (a0.getD i 0)) then some false else none : Option Bool) ((i : Int) + 1)) := by
    intro i hi
    have hr := bn_range (a0.getD i 0)
    simp only [impl_PartOK.b1, lt_nat, hi, decide_true, cond_true, inR_nat hi, byt_nat, wrap_succ hi hlen, wrap_small (show -9223372036854775808 ≤ bn (a0.getD i 0) by omega) (by omega)]
    obtain ⟨c, hc⟩ : ∃ c, bn (a0.getD i 0) = c := ⟨_, rfl⟩
    simp only [hc]
    cases hw : within c 33 126 with
    | false =>
      have : partByte c = false := by simp only [within] at hw; simp only [partByte, hw, Bool.false_and]
      simp [this]
    | true =>
      have : partByte c = !decide (c = 47) := by simp only [within] at hw; simp only [partByte, hw, Bool.true_and]
      rw [this]
      cases decide (c = 47) <;> simp
  rw [loop_scan0 a0.length _ hb (by simp [impl_PartOK.b1]) (a0.length + 1) (by omega), find_any0 a0 0 (fun c => !partByte (bn c)) false]
  have hna : (a0.any fun c => !partByte (bn c)) = !(a0.all fun c => partByte (bn c)) := by rw [List.not_all_eq_any_not]
  rw [hna]
  unfold partOK
  cases (a0.all fun c => partByte (bn c)) <;> simp
/-! ### the laws -/

end Go.UL
