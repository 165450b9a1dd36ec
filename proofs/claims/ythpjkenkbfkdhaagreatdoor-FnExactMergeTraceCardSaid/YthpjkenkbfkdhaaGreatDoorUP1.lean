/- Plain Lean: what the functions compute. -/
import Derived.Test.YthpjkenkbfkdhaaGreatDoorUK
set_option linter.unusedVariables false
set_option linter.unusedSimpArgs false
namespace Go.UD
open Go.RowKit
/-! ### loops over places -/
theorem wrap_small {n : Int} (h0 : -9223372036854775808 ≤ n) (h1 : n ≤ 9223372036854775807) : IntKind.wrap .i64 n = n := by rw [IntKind.wrap_i64]; omega
/-- One round: an answer, or on to the next. -/
def sc {T V E : Type} (o : Option T) (v : V) : Step T V E := match o with | some t => .ret t | none => .nxt v
@[simp] theorem sc_some {T V E : Type} (t : T) (v : V) : (sc (some t) v : Step T V E) = .ret t := rfl
@[simp] theorem sc_none {T V E : Type} (v : V) : (sc (none : Option T) v : Step T V E) = .nxt v := rfl
/-- A loop that asks one place after the other. -/
theorem loop_scan {T : Type} {b : Int → Option (Step T Int Unit)} (n : Nat) (f : Nat → Option T) (hb : ∀ i : Nat, i < n → b i = some (sc (f i) ((i : Int) + 1))) (hn : b n = some (.brk ())) :
    ∀ (m i k : Nat), i + m = n → m < k → loopF b k i = some (match (List.range' i m).findSome? f with | some t => .inl t | none => .inr ()) := by
  intro m
  induction m with
  | zero =>
    intro i k hi hk
    obtain ⟨k, rfl⟩ : ∃ j, k = j + 1 := ⟨k - 1, by omega⟩
    have : i = n := by omega
    subst this
    simp [loopF, hn]
  | succ m ih =>
    intro i k hi hk
    obtain ⟨k, rfl⟩ : ∃ j, k = j + 1 := ⟨k - 1, by omega⟩
    simp only [loopF, hb i (by omega), Option.bind_some, List.range'_succ, List.findSome?_cons]
    cases hf : f i with
    | some t => simp
    | none =>
      simp only []
      have := ih (i + 1) k (by omega) (by omega)
      rw [Int.natCast_add, Int.natCast_one] at this
      exact this
theorem loop_scan0 {T : Type} {b : Int → Option (Step T Int Unit)} (n : Nat) (f : Nat → Option T) (hb : ∀ i : Nat, i < n → b i = some (sc (f i) ((i : Int) + 1))) (hn : b n = some (.brk ())) (k : Nat) (hk : n < k) :
    loopF b k 0 = some (match (List.range n).findSome? f with | some t => .inl t | none => .inr ()) := by
  have := loop_scan n f hb hn n 0 k (by omega) hk
  rw [List.range_eq_range']
  exact this
theorem find_any {α : Type} {T : Type} (l : List α) (d : α) (q : α → Bool) (r : T) : ∀ (i : Nat) (m : Nat), i + m = l.length → (List.range' i m).findSome? (fun j => if q (l.getD j d) then some r else none) = if (l.drop i).any q then some r else none := by
  intro i m
  induction m generalizing i with
  | zero => intro h; have : l.length ≤ i := by omega
            simp [List.drop_of_length_le this]
  | succ m ih =>
    intro h
    have hi : i < l.length := by omega
    rw [List.range'_succ, List.findSome?_cons, List.drop_eq_getElem_cons hi]
    have hg : l.getD i d = l[i] := by simp [List.getD_eq_getElem?_getD, List.getElem?_eq_getElem hi]
    rw [hg, List.any_cons]
    cases hq : q l[i] with
    | true => simp
    | false => simp only [Bool.false_eq_true, if_false, Bool.false_or]; exact ih (i + 1) (by omega)
theorem find_any0 {α : Type} {T : Type} (l : List α) (d : α) (q : α → Bool) (r : T) : (List.range l.length).findSome? (fun j => if q (l.getD j d) then some r else none) = if l.any q then some r else none := by
  have := find_any l d q r 0 l.length (by omega)
  rw [List.range_eq_range', this]; simp
theorem findSome_congr {α β : Type} {f g : α → Option β} : ∀ {l : List α}, (∀ x ∈ l, f x = g x) → l.findSome? f = l.findSome? g := by
  intro l
  induction l with
  | nil => intro _; rfl
  | cons x l ih => intro h; simp only [List.findSome?_cons]; rw [h x (by simp), ih (fun y hy => h y (by simp [hy]))]
theorem inR_nat {i n : Nat} (h : i < n) : inR (i : Int) n = true := inR_mk (by omega) (by omega)
theorem lt_nat (i n : Nat) : decide ((i : Int) < (n : Int)) = decide (i < n) := by by_cases h : i < n <;> simp [h]
theorem wrap_succ {i n : Nat} (h : i < n) (hn : n ≤ 4611686018427387904) : IntKind.wrap .i64 ((i : Int) + 1) = (i : Int) + 1 := wrap_small (by omega) (by omega)
/-- One byte as a number. -/
abbrev bn (c : UInt8) : Int := (c.toNat : Int)
theorem byt_nat (t : List UInt8) (i : Nat) : byt t (i : Int) = bn (t.getD i 0) := rfl
theorem bn_range (c : UInt8) : 0 ≤ bn c ∧ bn c ≤ 255 := by have := c.toNat_lt; unfold bn; omega

/-! ### numbers, names, codes, parts -/
def within (n lo hi : Int) : Bool := decide (lo ≤ n) && decide (n ≤ hi)
def letter (c : Int) : Bool := ((decide (97 ≤ c) && decide (c ≤ 122)) || (decide (65 ≤ c) && decide (c ≤ 90))) || decide (c = 95)
def digit (c : Int) : Bool := decide (48 ≤ c) && decide (c ≤ 57)
def nameOK (t : List UInt8) : Bool := within (t.length : Int) 1 12 && letter (byt t 0) && t.all fun c => letter (bn c) || digit (bn c)
/-- The first place of an element, -1 of none. -/
def indexOf (l : List (List UInt8)) (x : List UInt8) : Int := match (List.range l.length).findSome? (fun i => if l.getD i [] = x then some (i : Int) else none) with
  | some i => i
  | none => -1
def partByte (c : Int) : Bool := decide (33 ≤ c) && decide (c ≤ 126) && !decide (c = 47)
def partOK (t : List UInt8) : Bool := within (t.length : Int) 1 8 && !decide (t = [46]) && !decide (t = [46, 46]) && t.all fun c => partByte (bn c)
theorem partOK_long {t : List UInt8} (h : 8 < t.length) : partOK t = false := by
  have : within (t.length : Int) 1 8 = false := by simp [within]; omega
  simp [partOK, this]
/-! ### the laws -/

end Go.UD
