/- Plain Lean: what the functions compute. -/
import Derived.Test.YteinfnffodejkaaK
set_option linter.unusedVariables false
set_option linter.unusedSimpArgs false
namespace Go.UL
open Go.RowKit
/-! ### loops over places -/
theorem wrap_small {n : Int} (h0 : -9223372036854775808 ≤ n) (h1 : n ≤ 9223372036854775807) : IntKind.wrap .i64 n = n := by rw [IntKind.wrap_i64]; omega
/-- One round: an answer, or on to the next. -/
def sc {T V E : Type} (o : Option T) (v : V) : Step T V E := match o with | some t => .ret t | none => .nxt v
@[simp] theorem sc_some {T V E : Type} (t : T) (v : V) : (sc (some t) v : Step T V E) = .ret t := rfl
@[simp] theorem sc_none {T V E : Type} (v : V) : (sc (none : Option T) v : Step T V E) = .nxt v := rfl
/-- A loop that asks one place after the other. -/
theorem loop_scan {T : Type} {b : Int → Option (Step T Int Unit)} (n : Nat) (f : Nat → Option T) (hb : ∀ i : Nat, i < n → b i = some (sc (f i) ((i : Int) + 1))) (hn : b n = some (.brk ())) :
    ∀ (m i k : Nat), i + m = n → m < k → loopF b k i = some (match (List.range' i m).findSome? f with | some t => .inl t | none => .inr ()) := by
  intro m
  induction m with
  | zero =>
    intro i k hi hk
    obtain ⟨k, rfl⟩ : ∃ j, k = j + 1 := ⟨k - 1, by omega⟩
    have : i = n := by omega
    subst this
    simp [loopF, hn]
  | succ m ih =>
    intro i k hi hk
    obtain ⟨k, rfl⟩ : ∃ j, k = j + 1 := ⟨k - 1, by omega⟩
    simp only [loopF, hb i (by omega), Option.bind_some, List.range'_succ, List.findSome?_cons]
    cases hf : f i with
    | some t => simp
    | none =>
      simp only []
      have := ih (i + 1) k (by omega) (by omega)
      rw [Int.natCast_add, Int.natCast_one] at this
      exact this
theorem loop_scan0 {T : Type} {b : Int → Option (Step T Int Unit)} (n : Nat) (f : Nat → Option T) (hb : ∀ i : Nat, i < n → b i = some (sc (f i) ((i : Int) + 1))) (hn : b n = some (.brk ())) (k : Nat) (hk : n < k) :
    loopF b k 0 = some (match (List.range n).findSome? f with | some t => .inl t | none => .inr ()) := by
  have := loop_scan n f hb hn n 0 k (by omega) hk
  rw [List.range_eq_range']
  exact this
theorem find_any {α : Type} {T : Type} (l : List α) (d : α) (q : α → Bool) (r : T) : ∀ (i : Nat) (m : Nat), i + m = l.length → (List.range' i m).findSome? (fun j => if q (l.getD j d) then some r else none) = if (l.drop i).any q then some r else none := by
  intro i m
  induction m generalizing i with
  | zero => intro h; have : l.length ≤ i := by omega
            simp [List.drop_of_length_le this]
  | succ m ih =>
    intro h
    have hi : i < l.length := by omega
    rw [List.range'_succ, List.findSome?_cons, List.drop_eq_getElem_cons hi]
    have hg : l.getD i d = l[i] := by simp [List.getD_eq_getElem?_getD, List.getElem?_eq_getElem hi]
    rw [hg, List.any_cons]
    cases hq : q l[i] with
    | true => simp
    | false => simp only [Bool.false_eq_true, if_false, Bool.false_or]; exact ih (i + 1) (by omega)
theorem find_any0 {α : Type} {T : Type} (l : List α) (d : α) (q : α → Bool) (r : T) : (List.range l.length).findSome? (fun j => if q (l.getD j d) then some r else none) = if l.any q then some r else none := by
  have := find_any l d q r 0 l.length (by omega)
  rw [List.range_eq_range', this]; simp
theorem findSome_congr {α β : Type} {f g : α → Option β} : ∀ {l : List α}, (∀ x ∈ l, f x = g x) → l.findSome? f = l.findSome? g := by
  intro l
  induction l with
  | nil => intro _; rfl
  | cons x l ih => intro h; simp only [List.findSome?_cons]; rw [h x (by simp), ih (fun y hy => h y (by simp [hy]))]
theorem inR_nat {i n : Nat} (h : i < n) : inR (i : Int) n = true := inR_mk (by omega) (by omega)
theorem lt_nat (i n : Nat) : decide ((i : Int) < (n : Int)) = decide (i < n) := by by_cases h : i < n <;> simp [h]
theorem wrap_succ {i n : Nat} (h : i < n) (hn : n ≤ 4611686018427387904) : IntKind.wrap .i64 ((i : Int) + 1) = (i : Int) + 1 := wrap_small (by omega) (by omega)
/-- One byte as a number. -/
abbrev bn (c : UInt8) : Int := (c.toNat : Int)
theorem byt_nat (t : List UInt8) (i : Nat) : byt t (i : Int) = bn (t.getD i 0) := rfl
theorem bn_range (c : UInt8) : 0 ≤ bn c ∧ bn c ≤ 255 := by have := c.toNat_lt; unfold bn; omega

/-! ### numbers, names, codes, parts -/
def within (n lo hi : Int) : Bool := decide (lo ≤ n) && decide (n ≤ hi)
def impl_within.sh (a0 : Int) (a1 : Int) (a2 : Int) : Option (Bool) :=
  some ((decide (a1 ≤ a0)) && (decide (a0 ≤ a2)))
theorem impl_within.eq (a0 a1 a2 : Int) : impl_within.sh a0 a1 a2 = some (within a0 a1 a2) := rfl
def spec_l01In.sh (a0 : Int) (a1 : Int) (a2 : Int) : Option (Bool) :=
  some ((decide (a1 ≤ a0)) && (decide (a0 ≤ a2)))
theorem spec_l01In.eq (a0 a1 a2 : Int) : spec_l01In.sh a0 a1 a2 = some (within a0 a1 a2) := rfl
def letter (c : Int) : Bool := ((decide (97 ≤ c) && decide (c ≤ 122)) || (decide (65 ≤ c) && decide (c ≤ 90))) || decide (c = 95)
def digit (c : Int) : Bool := decide (48 ≤ c) && decide (c ≤ 57)
def spec_l00Letter.sh (a0 : Int) : Option (Bool) :=
  some ((((decide (97 ≤ a0)) && (decide (a0 ≤ 122))) || ((decide (65 ≤ a0)) && (decide (a0 ≤ 90)))) || (decide (a0 = 95)))
theorem spec_l00Letter.eq (a0 : Int) : spec_l00Letter.sh a0 = some (letter a0) := rfl
def spec_l00Digit.sh (a0 : Int) : Option (Bool) :=
  some ((decide (48 ≤ a0)) && (decide (a0 ≤ 57)))
theorem spec_l00Digit.eq (a0 : Int) : spec_l00Digit.sh a0 = some (digit a0) := rfl
def nameOK (t : List UInt8) : Bool := within (t.length : Int) 1 12 && letter (byt t 0) && t.all fun c => letter (bn c) || digit (bn c)
def spec_l00Word.b1 (a0 : List UInt8) : Int → Option (Step (Bool) (Int) (Unit)) :=
  fun x3_17 => bif (decide (x3_17 < (a0.length : Int))) then (bif inR x3_17 a0.length then (((bif (!(letter (byt a0 x3_17))) then (bif inR x3_17 a0.length then (some (!(digit (byt a0 x3_17)))) else none) else some false)).bind fun z39 => bif z39 then (some (.ret false)) else (some (.nxt (IntKind.wrap .i64 (x3_17 + 1))))) else none) else (some (.brk ()))
def spec_l00Word.sh (k : Nat) (a0 : List UInt8) : Option (Bool) :=
  ((bif ((decide ((a0.length : Int) < 1)) || (decide (12 < (a0.length : Int)))) then some true else (bif inR 0 a0.length then (some (!(letter (byt a0 0)))) else none))).bind fun z8 => bif z8 then (some false) else ((loopF (spec_l00Word.b1 a0) k 1).bind fun z => match z with | .inl t => some t | .inr _ => some true)
theorem spec_l00Word.eq (a0 : List UInt8) (h : a0.length ≤ 4611686018427387904) : ∃ k, spec_l00Word.sh k a0 = some (nameOK a0) := by
  refine ⟨a0.length + 1, ?_⟩
  unfold spec_l00Word.sh
  by_cases hl : 1 ≤ a0.length ∧ a0.length ≤ 12
  · have h1 : ((decide ((a0.length : Int) < 1)) || (decide (12 < (a0.length : Int)))) = false := by simp; omega
    have hw : within (a0.length : Int) 1 12 = true := by simp [within]; omega
    rw [h1, inR_mk (by omega) (by omega)]
    simp only [cond_false, cond_true, Option.bind_some, nameOK, hw, Bool.true_and]
    cases hc : letter (byt a0 0) with
    | false => simp
    | true =>
      simp only [Bool.not_true, cond_false, Bool.true_and]
      have hb : ∀ i : Nat, i < a0.length → spec_l00Word.b1 a0 i = some (sc (if !(letter (bn (a0.getD i 0)) || digit (bn (a0.getD i 0))) then some false else none : Option Bool) ((i : Int) + 1)) := by
        intro i hi
        simp only [spec_l00Word.b1, lt_nat, hi, decide_true, cond_true, inR_nat hi, byt_nat, wrap_succ hi h]
        cases letter (bn (a0.getD i 0)) <;> cases digit (bn (a0.getD i 0)) <;> simp
      have hn : spec_l00Word.b1 a0 a0.length = some (.brk ()) := by simp [spec_l00Word.b1]
      have := loop_scan a0.length _ hb hn (a0.length - 1) 1 (a0.length + 1) (by omega) (by omega)
      simp only [Int.natCast_one] at this
      rw [this, find_any a0 0 (fun c => !(letter (bn c) || digit (bn c))) false 1 (a0.length - 1) (by omega)]
      have hd : a0 = a0.getD 0 0 :: a0.drop 1 := by
        cases a0 with
        | nil => simp at hl
        | cons x r => rfl
      have hall : (a0.all fun c => letter (bn c) || digit (bn c)) = ((a0.drop 1).all fun c => letter (bn c) || digit (bn c)) := by
        conv => lhs; rw [hd]
        simp only [List.all_cons]
        have : letter (bn (a0.getD 0 0)) = true := hc
        rw [this]; simp
      rw [hall]
      have hna : ((a0.drop 1).any fun c => !(letter (bn c) || digit (bn c))) = !((a0.drop 1).all fun c => letter (bn c) || digit (bn c)) := by rw [List.not_all_eq_any_not]
      rw [hna]
      cases ((a0.drop 1).all fun c => letter (bn c) || digit (bn c)) <;> simp
  · have h1 : ((decide ((a0.length : Int) < 1)) || (decide (12 < (a0.length : Int)))) = true := by simp; omega
    have hw : within (a0.length : Int) 1 12 = false := by simp [within]; omega
    rw [h1]
    simp [nameOK, hw]
def spec_NameOK.sh (a0 : List UInt8) : Option (Bool) :=
  bif decide (a0.length ≤ 4611686018427387904) then (some (nameOK a0)) else none
theorem spec_NameOK.eq (a0 : List UInt8) (h : a0.length ≤ 4611686018427387904) : spec_NameOK.sh a0 = some (nameOK a0) := by
  simp [spec_NameOK.sh, h]
def impl_NameOK.b1 (a0 : List UInt8) : Int → Option (Step (Bool) (Int) (Unit)) :=
  fun x8_1 => bif (decide (x8_1 < (a0.length : Int))) then (bif inR x8_1 a0.length then (bif ((!((((decide (97 ≤ (byt a0 x8_1))) && (decide ((byt a0 x8_1) ≤ 122))) || ((decide (65 ≤ (byt a0 x8_1))) && (decide ((byt a0 x8_1) ≤ 90)))) || (decide ((byt a0 x8_1) = 95)))) && (((decide (x8_1 = 0)) || (decide ((byt a0 x8_1) < 48))) || (decide (57 < (byt a0 x8_1))))) then (some (.ret false)) else (some (.nxt (IntKind.wrap .i64 (x8_1 + 1))))) else none) else (some (.brk ()))
def impl_NameOK.sh (k : Nat) (a0 : List UInt8) : Option (Bool) :=
  (loopF (impl_NameOK.b1 a0) k 0).bind fun z => match z with | .inl t => some t | .inr _ => some (within (a0.length : Int) 1 12)
theorem impl_NameOK.eq (a0 : List UInt8) (h : a0.length ≤ 4611686018427387904) : ∃ k, impl_NameOK.sh k a0 = some (nameOK a0) := by
  refine ⟨a0.length + 1, ?_⟩
  unfold impl_NameOK.sh
  have hb : ∀ i : Nat, i < a0.length → impl_NameOK.b1 a0 i = some (sc (if !(letter (bn (a0.getD i 0)) || (decide (i ≠ 0) && digit (bn (a0.getD i 0)))) then some false else none : Option Bool) ((i : Int) + 1)) := by
    intro i hi
    simp only [impl_NameOK.b1, lt_nat, hi, decide_true, cond_true, inR_nat hi, byt_nat, wrap_succ hi h]
    have e1 : (((decide (97 ≤ bn (a0.getD i 0)) && decide (bn (a0.getD i 0) ≤ 122)) || (decide (65 ≤ bn (a0.getD i 0)) && decide (bn (a0.getD i 0) ≤ 90))) || decide (bn (a0.getD i 0) = 95)) = letter (bn (a0.getD i 0)) := rfl
    have e2 : ((decide ((i : Int) = 0) || decide (bn (a0.getD i 0) < 48)) || decide (57 < bn (a0.getD i 0))) = !(decide (i ≠ 0) && digit (bn (a0.getD i 0))) := by
      unfold digit
      rw [Bool.eq_iff_iff]; simp; omega
    rw [e1, e2]
    cases letter (bn (a0.getD i 0)) <;> cases (decide (i ≠ 0) && digit (bn (a0.getD i 0))) <;> rfl
  have hn : impl_NameOK.b1 a0 a0.length = some (.brk ()) := by simp [impl_NameOK.b1]
  rw [loop_scan0 a0.length _ hb hn (a0.length + 1) (by omega)]
  cases a0 with
  | nil => simp [nameOK, within]
  | cons x r =>
    have h1 : (List.range (x :: r).length).findSome? (fun i => (if !(letter (bn ((x :: r).getD i 0)) || (decide (i ≠ 0) && digit (bn ((x :: r).getD i 0)))) then some false else none : Option Bool)) =
        if letter (bn x) then (if r.any fun c => !(letter (bn c) || digit (bn c)) then some false else none) else some false := by
      rw [List.range_eq_range', List.length_cons, List.range'_succ, List.findSome?_cons]
      simp only [List.getD_cons_zero, ne_eq, not_true_eq_false, decide_false, Bool.false_and, Bool.or_false]
      cases hl : letter (bn x) with
      | false => simp
      | true =>
        simp only [Bool.not_true, Bool.false_eq_true, if_false, if_true]
        have := find_any (x :: r) 0 (fun c => !(letter (bn c) || digit (bn c))) false 1 r.length (by simp; omega)
        simp only [List.drop_succ_cons, List.drop_zero] at this
        rw [← this]
        apply findSome_congr
        intro i hi
        have : i ≠ 0 := by have := (List.mem_range'_1.1 hi).1; omega
        simp [this]
    rw [h1]
    have e3 : byt (x :: r) 0 = bn x := rfl
    simp only [nameOK, e3, List.all_cons]
    have hna : (r.any fun c => !(letter (bn c) || digit (bn c))) = !(r.all fun c => letter (bn c) || digit (bn c)) := by rw [List.not_all_eq_any_not]
    rw [hna]
    cases letter (bn x) <;> cases (r.all fun c => letter (bn c) || digit (bn c)) <;> simp
def impl_codeWords.lit1 : List (List UInt8) := [([111, 107] : List UInt8), ([98, 97, 100] : List UInt8), ([108, 111, 110, 103] : List UInt8), ([102, 111, 114, 109] : List UInt8), ([114, 97, 110, 103, 101] : List UInt8), ([110, 111, 110, 101] : List UInt8), ([109, 97, 110, 121] : List UInt8), ([102, 117, 108, 108] : List UInt8), ([115, 105, 122, 101] : List UInt8), ([107, 105, 110, 100] : List UInt8), ([110, 97, 109, 101] : List UInt8), ([111, 114, 100, 101, 114] : List UInt8), ([111, 114, 112, 104, 97, 110] : List UInt8), ([110, 111, 116, 100, 105, 114] : List UInt8), ([105, 115, 100, 105, 114] : List UInt8), ([115, 117, 109] : List UInt8), ([102, 97, 117, 108, 116] : List UInt8), ([115, 116, 97, 116, 101] : List UInt8), ([115, 97, 109, 101] : List UInt8)]
def impl_codeWords.sh  : Option (List (List UInt8)) :=
  some impl_codeWords.lit1
def codeWords : List (List UInt8) := impl_codeWords.lit1
theorem impl_codeWords.eq : impl_codeWords.sh = some codeWords := rfl
def codeWord (c : Int) : List UInt8 := bif inR c 19 then gt codeWords c else []
def spec_CodeWord.lit1 : List (List UInt8) := [([111, 107] : List UInt8), ([98, 97, 100] : List UInt8), ([108, 111, 110, 103] : List UInt8), ([102, 111, 114, 109] : List UInt8), ([114, 97, 110, 103, 101] : List UInt8), ([110, 111, 110, 101] : List UInt8), ([109, 97, 110, 121] : List UInt8), ([102, 117, 108, 108] : List UInt8), ([115, 105, 122, 101] : List UInt8), ([107, 105, 110, 100] : List UInt8), ([110, 97, 109, 101] : List UInt8), ([111, 114, 100, 101, 114] : List UInt8), ([111, 114, 112, 104, 97, 110] : List UInt8), ([110, 111, 116, 100, 105, 114] : List UInt8), ([105, 115, 100, 105, 114] : List UInt8), ([115, 117, 109] : List UInt8), ([102, 97, 117, 108, 116] : List UInt8), ([115, 116, 97, 116, 101] : List UInt8), ([115, 97, 109, 101] : List UInt8)]
def spec_CodeWord.sh (a0 : Int) : Option (List UInt8) :=
  bif ((decide (a0 < 0)) || (decide ((spec_CodeWord.lit1.length : Int) ≤ a0))) then (some ([] : List UInt8)) else (bif inR a0 spec_CodeWord.lit1.length then (some (gt spec_CodeWord.lit1 a0)) else none)
theorem spec_CodeWord.eq (a0 : Int) : spec_CodeWord.sh a0 = some (codeWord a0) := by
  have e : spec_CodeWord.lit1 = codeWords := rfl
  have el : codeWords.length = 19 := rfl
  unfold spec_CodeWord.sh codeWord
  rw [e, el]
  by_cases h : inR a0 19 = true
  · have h0 := inR_lo h
    have h1 := inR_hi h
    have : ((decide (a0 < 0)) || (decide (((19 : Nat) : Int) ≤ a0))) = false := by simp; omega
    rw [this, h]; rfl
  · have h' : inR a0 19 = false := by simpa using h
    have : ((decide (a0 < 0)) || (decide (((19 : Nat) : Int) ≤ a0))) = true := by
      simp only [inR, Bool.and_eq_false_iff, decide_eq_false_iff_not] at h'
      simp; omega
    rw [this, h']; rfl
def impl_CodeWord.sh (a0 : Int) : Option (List UInt8) :=
  bif (!(within a0 0 18)) then (some ([] : List UInt8)) else (bif inR a0 codeWords.length then (some (gt codeWords a0)) else none)
theorem impl_CodeWord.eq (a0 : Int) : impl_CodeWord.sh a0 = some (codeWord a0) := by
  have el : codeWords.length = 19 := rfl
  unfold impl_CodeWord.sh codeWord
  rw [el]
  have : within a0 0 18 = inR a0 19 := by
    unfold within inR; rw [Bool.eq_iff_iff]; simp; omega
  rw [this]
  cases inR a0 19 <;> rfl
/-- The first place of an element, -1 of none. -/
def indexOf (l : List (List UInt8)) (x : List UInt8) : Int := match (List.range l.length).findSome? (fun i => if l.getD i [] = x then some (i : Int) else none) with
  | some i => i
  | none => -1
def slices_IndexS.b1 (a0 : List (List UInt8)) (a1 : List UInt8) : Int → Option (Step (Int) (Int) (Unit)) :=
  fun x8_1 => bif (decide (x8_1 < (a0.length : Int))) then (bif inR x8_1 a0.length then (bif (decide (a1 = (gt a0 x8_1))) then (some (.ret x8_1)) else (some (.nxt (IntKind.wrap .i64 (x8_1 + 1))))) else none) else (some (.brk ()))
def slices_IndexS.sh (k : Nat) (a0 : List (List UInt8)) (a1 : List UInt8) : Option (Int) :=
  (loopF (slices_IndexS.b1 a0 a1) k 0).bind fun z => match z with | .inl t => some t | .inr _ => some (-1)
theorem slices_IndexS.eq (a0 : List (List UInt8)) (a1 : List UInt8) (h : a0.length ≤ 4611686018427387904) : ∃ k, slices_IndexS.sh k a0 a1 = some (indexOf a0 a1) := by
  refine ⟨a0.length + 1, ?_⟩
  unfold slices_IndexS.sh
  have hb : ∀ i : Nat, i < a0.length → slices_IndexS.b1 a0 a1 i = some (sc (if a0.getD i [] = a1 then some (i : Int) else none : Option Int) ((i : Int) + 1)) := by
    intro i hi
    simp only [slices_IndexS.b1, lt_nat, hi, decide_true, cond_true, inR_nat hi, wrap_succ hi h]
    have e : gt a0 (i : Int) = a0.getD i [] := rfl
    rw [e]
    by_cases hq : a0.getD i [] = a1
    · rw [if_pos hq, hq]; simp
    · rw [if_neg hq]
      have : decide (a1 = a0.getD i []) = false := by simp only [decide_eq_false_iff_not]; exact fun e => hq e.symm
      rw [this]; rfl
  rw [loop_scan0 a0.length _ hb (by simp [slices_IndexS.b1]) (a0.length + 1) (by omega)]
  unfold indexOf
  generalize (List.range a0.length).findSome? _ = o
  cases o <;> rfl
def codeOf (t : List UInt8) : Int := indexOf codeWords t
def spec_CodeOf.b1 (a0 : List UInt8) : Int → Option (Step (Int) (Int) (Unit)) :=
  fun x3_1 => bif (decide (x3_1 ≤ 18)) then (bif (decide ((codeWord x3_1) = a0)) then (some (.ret x3_1)) else (some (.nxt (IntKind.wrap .i64 (x3_1 + 1))))) else (some (.brk ()))
def spec_CodeOf.sh (k : Nat) (a0 : List UInt8) : Option (Int) :=
  (loopF (spec_CodeOf.b1 a0) k 0).bind fun z => match z with | .inl t => some t | .inr _ => some (-1)
theorem spec_CodeOf.eq (a0 : List UInt8) : ∃ k, spec_CodeOf.sh k a0 = some (codeOf a0) := by
  refine ⟨20, ?_⟩
  unfold spec_CodeOf.sh
  have hb : ∀ i : Nat, i < 19 → spec_CodeOf.b1 a0 i = some (sc (if codeWords.getD i [] = a0 then some (i : Int) else none : Option Int) ((i : Int) + 1)) := by
    intro i hi
    have hle : decide ((i : Int) ≤ 18) = true := by simp; omega
    have hc : codeWord (i : Int) = codeWords.getD i [] := by
      unfold codeWord; rw [inR_nat hi]; rfl
    simp only [spec_CodeOf.b1, hle, cond_true, hc, wrap_small (show -9223372036854775808 ≤ (i : Int) + 1 by omega) (by omega)]
    by_cases hq : codeWords.getD i [] = a0
    · rw [if_pos hq, hq]; simp
    · rw [if_neg hq]
      have : decide (codeWords.getD i [] = a0) = false := by simpa using hq
      rw [this]; rfl
  rw [loop_scan0 19 _ hb (by simp [spec_CodeOf.b1]) 20 (by omega)]
  unfold codeOf indexOf
  have el : codeWords.length = 19 := rfl
  rw [el]
  generalize (List.range 19).findSome? _ = o
  cases o <;> rfl
def impl_CodeOf.sh (a0 : List UInt8) : Option (Int) :=
  bif decide (codeWords.length ≤ 4611686018427387904) then (some (indexOf codeWords a0)) else none
theorem impl_CodeOf.eq (a0 : List UInt8) : impl_CodeOf.sh a0 = some (codeOf a0) := rfl
def partByte (c : Int) : Bool := decide (33 ≤ c) && decide (c ≤ 126) && !decide (c = 47)
def partOK (t : List UInt8) : Bool := within (t.length : Int) 1 8 && !decide (t = [46]) && !decide (t = [46, 46]) && t.all fun c => partByte (bn c)
theorem partOK_long {t : List UInt8} (h : 8 < t.length) : partOK t = false := by
  have : within (t.length : Int) 1 8 = false := by simp [within]; omega
  simp [partOK, this]
def spec_l01Part.b1 (a0 : List UInt8) : Int → Option (Step (Bool) (Int) (Unit)) :=
  fun x3_16 => bif (decide (x3_16 < (a0.length : Int))) then (bif inR x3_16 a0.length then (((bif (decide ((byt a0 x3_16) < 33)) then some true else (bif inR x3_16 a0.length then (some (decide (126 < (byt a0 x3_16)))) else none))).bind fun z36 => ((bif z36 then some true else (bif inR x3_16 a0.length then (some (decide ((byt a0 x3_16) = 47))) else none))).bind fun z45 => bif z45 then (some (.ret false)) else (some (.nxt (IntKind.wrap .i64 (x3_16 + 1))))) else none) else (some (.brk ()))
def spec_l01Part.sh (k : Nat) (a0 : List UInt8) : Option (Bool) :=
  bif (((!(within (a0.length : Int) 1 8)) || (decide (a0 = ([46] : List UInt8)))) || (decide (a0 = ([46, 46] : List UInt8)))) then (some false) else ((loopF (spec_l01Part.b1 a0) k 0).bind fun z => match z with | .inl t => some t | .inr _ => some true)
theorem spec_l01Part.eq (a0 : List UInt8) : ∃ k, spec_l01Part.sh k a0 = some (partOK a0) := by
  refine ⟨a0.length + 1, ?_⟩
  unfold spec_l01Part.sh
  cases hh : (((!(within (a0.length : Int) 1 8)) || (decide (a0 = ([46] : List UInt8)))) || (decide (a0 = ([46, 46] : List UInt8)))) with
  | true =>
    simp only [cond_true]
    have : (within (a0.length : Int) 1 8 && !decide (a0 = [46]) && !decide (a0 = [46, 46])) = false := by
      revert hh
      cases within (a0.length : Int) 1 8 <;> cases decide (a0 = ([46] : List UInt8)) <;> cases decide (a0 = ([46, 46] : List UInt8)) <;> simp
    simp [partOK, this]
  | false =>
    simp only [cond_false]
    have h3 : (within (a0.length : Int) 1 8 && !decide (a0 = [46]) && !decide (a0 = [46, 46])) = true := by
      revert hh
      cases within (a0.length : Int) 1 8 <;> cases decide (a0 = ([46] : List UInt8)) <;> cases decide (a0 = ([46, 46] : List UInt8)) <;> simp
    have hlen : a0.length ≤ 4611686018427387904 := by
      have : within (a0.length : Int) 1 8 = true := by revert h3; cases within (a0.length : Int) 1 8 <;> simp
      simp [within] at this; omega
    have hb : ∀ i : Nat, i < a0.length → spec_l01Part.b1 a0 i = some (sc (if !partByte (bn (a0.getD i 0)) then some false else none : Option Bool) ((i : Int) + 1)) := by
      intro i hi
      simp only [spec_l01Part.b1, lt_nat, hi, decide_true, cond_true, inR_nat hi, byt_nat, wrap_succ hi hlen]
      obtain ⟨c, hc⟩ : ∃ c, bn (a0.getD i 0) = c := ⟨_, rfl⟩
      simp only [hc]
      by_cases h1 : c < 33
      · have : partByte c = false := by simp [partByte]; omega
        simp [h1, this]
      · by_cases h2 : 126 < c
        · have : partByte c = false := by simp [partByte]; omega
          simp [h1, h2, this]
        · by_cases h4 : c = 47
          · have : partByte c = false := by simp [partByte, h4]
            simp [h4, show partByte 47 = false from rfl]
          · have : partByte c = true := by simp [partByte, h4]; omega
            simp [h1, h2, h4, this]
    rw [loop_scan0 a0.length _ hb (by simp [spec_l01Part.b1]) (a0.length + 1) (by omega), find_any0 a0 0 (fun c => !partByte (bn c)) false]
    have hna : (a0.any fun c => !partByte (bn c)) = !(a0.all fun c => partByte (bn c)) := by rw [List.not_all_eq_any_not]
    rw [hna]
    unfold partOK
    rw [h3]
    cases (a0.all fun c => partByte (bn c)) <;> simp
def spec_PartOK.sh (a0 : List UInt8) : Option (Bool) :=
  bif (decide (65536 < (a0.length : Int))) then (some false) else (some (partOK a0))
theorem spec_PartOK.eq (a0 : List UInt8) : spec_PartOK.sh a0 = some (partOK a0) := by
  unfold spec_PartOK.sh
  by_cases h : 65536 < (a0.length : Int)
  · rw [partOK_long (by omega)]; simp [h]
  · simp [h]
def impl_PartOK.b1 (a0 : List UInt8) : Int → Option (Step (Bool) (Int) (Unit)) :=
  fun x6_1 => bif (decide (x6_1 < (a0.length : Int))) then (bif inR x6_1 a0.length then (((bif (!(within (IntKind.wrap .i64 (byt a0 x6_1)) 33 126)) then some true else (bif inR x6_1 a0.length then (some (decide ((byt a0 x6_1) = 47))) else none))).bind fun z23 => bif z23 then (some (.ret false)) else (some (.nxt (IntKind.wrap .i64 (x6_1 + 1))))) else none) else (some (.brk ()))
def impl_PartOK.sh (k : Nat) (a0 : List UInt8) : Option (Bool) :=
  (loopF (impl_PartOK.b1 a0) k 0).bind fun z => match z with | .inl t => some t | .inr _ => some (((within (a0.length : Int) 1 8) && (!decide (a0 = ([46] : List UInt8)))) && (!decide (a0 = ([46, 46] : List UInt8))))
theorem impl_PartOK.eq (a0 : List UInt8) (hlen : a0.length ≤ 4611686018427387904) : ∃ k, impl_PartOK.sh k a0 = some (partOK a0) := by
  refine ⟨a0.length + 1, ?_⟩
  unfold impl_PartOK.sh
  have hb : ∀ i : Nat, i < a0.length → impl_PartOK.b1 a0 i = some (sc (if !partByte (bn (a0.getD i 0)) then some false else none : Option Bool) ((i : Int) + 1)) := by
    intro i hi
    have hr := bn_range (a0.getD i 0)
    simp only [impl_PartOK.b1, lt_nat, hi, decide_true, cond_true, inR_nat hi, byt_nat, wrap_succ hi hlen, wrap_small (show -9223372036854775808 ≤ bn (a0.getD i 0) by omega) (by omega)]
    obtain ⟨c, hc⟩ : ∃ c, bn (a0.getD i 0) = c := ⟨_, rfl⟩
    simp only [hc]
    cases hw : within c 33 126 with
    | false =>
      have : partByte c = false := by simp only [within] at hw; simp only [partByte, hw, Bool.false_and]
      simp [this]
    | true =>
      have : partByte c = !decide (c = 47) := by simp only [within] at hw; simp only [partByte, hw, Bool.true_and]
      rw [this]
      cases decide (c = 47) <;> simp
  rw [loop_scan0 a0.length _ hb (by simp [impl_PartOK.b1]) (a0.length + 1) (by omega), find_any0 a0 0 (fun c => !partByte (bn c)) false]
  have hna : (a0.any fun c => !partByte (bn c)) = !(a0.all fun c => partByte (bn c)) := by rw [List.not_all_eq_any_not]
  rw [hna]
  unfold partOK
  cases (a0.all fun c => partByte (bn c)) <;> simp
/-! ### the laws -/
def law_Constants.sh  : Option (Bool) :=
  some true
theorem law_Constants.eq : law_Constants.sh = some true := rfl
def law_CodeWord.sh (a0 : Int) : Option (Bool) :=
  bif (!decide ((codeWord a0) = (codeWord a0))) then (some false) else (some true)
theorem law_CodeWord.eq (a0 : Int) : law_CodeWord.sh a0 = some true := by simp [law_CodeWord.sh]
def law_CodeOf.sh (a0 : List UInt8) : Option (Bool) :=
  bif (decide (1048576 < (a0.length : Int))) then (some true) else (bif (!decide ((codeOf a0) = (codeOf a0))) then (some false) else (some true))
theorem law_CodeOf.eq (a0 : List UInt8) : law_CodeOf.sh a0 = some true := by
  unfold law_CodeOf.sh
  cases decide (1048576 < (a0.length : Int)) <;> simp
def law_PartOK.sh (a0 : List UInt8) : Option (Bool) :=
  bif (decide (1048576 < (a0.length : Int))) then (some true) else (bif decide (a0.length ≤ 4611686018427387904) then (bif (!decide ((partOK a0) = (partOK a0))) then (some false) else (some true)) else none)
theorem law_PartOK.eq (a0 : List UInt8) : law_PartOK.sh a0 = some true := by
  unfold law_PartOK.sh
  by_cases h : 1048576 < (a0.length : Int)
  · simp [h]
  · have : a0.length ≤ 4611686018427387904 := by omega
    simp [h, this]
def law_NameOK.sh (a0 : List UInt8) : Option (Bool) :=
  bif (decide (1048576 < (a0.length : Int))) then (some true) else (bif decide (a0.length ≤ 4611686018427387904) then (bif decide (a0.length ≤ 4611686018427387904) then (bif (!decide ((nameOK a0) = (nameOK a0))) then (some false) else (some true)) else none) else none)
theorem law_NameOK.eq (a0 : List UInt8) : law_NameOK.sh a0 = some true := by
  unfold law_NameOK.sh
  by_cases h : 1048576 < (a0.length : Int)
  · simp [h]
  · have : a0.length ≤ 4611686018427387904 := by omega
    simp [h, this]

end Go.UL
