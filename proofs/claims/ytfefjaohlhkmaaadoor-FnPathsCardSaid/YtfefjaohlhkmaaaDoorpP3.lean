/- Plain Lean: what the functions compute. -/
import Derived.Test.YtfefjaohlhkmaaaDoorpP2
set_option linter.unusedVariables false
set_option linter.unusedSimpArgs false
namespace Go.UL
open Go.RowKit
/-! ### records -/
/-- The first thing that is wrong with a record. -/
def recFault (r : Rec) : Int :=
  if !within r.kind 1 4 then 9 else if !pathOK r.path then 10
  else if decide (20 < r.body.length) || (decide (r.kind = 2) && decide (r.body = [])) then 8
  else if ((decide (r.kind = 3) || decide (r.kind = 4)) && !decide (r.body = [])) || (!decide (r.kind = 3) && r.opq) then 3
  else if !within r.mode 0 511 || ((decide (r.kind = 2) || decide (r.kind = 4)) && !decide (r.mode = 0)) then 4 else 0
/-! ### below, joined -/
def belowP (a b : List UInt8) : Bool := (b ++ [47]).isPrefixOf a
def isBelow (a b : List UInt8) : Bool := (pathOK a && (decide (b = []) || pathOK b)) && (decide (b = []) || belowP a b)
theorem pathOK_len {t : List UInt8} (h : pathOK t = true) : t.length < 36 := by simp [pathOK] at h; exact h.1
theorem pathOK_ne {t : List UInt8} (h : pathOK t = true) : t ≠ [] := by rintro rfl; revert h; decide
theorem prefix_take (p a : List UInt8) : p.isPrefixOf a = (decide (p.length ≤ a.length) && decide (a.take p.length = p)) := by
  rw [Bool.eq_iff_iff, List.isPrefixOf_iff_prefix]
  simp only [Bool.and_eq_true, decide_eq_true_eq]
  constructor
  · intro h; exact ⟨h.length_le, (List.prefix_iff_eq_take.1 h).symm⟩
  · rintro ⟨_, h⟩; exact List.prefix_iff_eq_take.2 h.symm
def strings_HasPrefixL.sh (a0 : List UInt8) (a1 : List UInt8) : Option (Bool) :=
  ((bif (decide ((a1.length : Int) ≤ (a0.length : Int))) then (bif inS 0 (a1.length : Int) (a0.length : Int) then (some (decide ((sub a0 0 (a1.length : Int)) = a1))) else none) else some false)).bind fun z2 => some z2
theorem strings_HasPrefixL.eq (a0 a1 : List UInt8) : strings_HasPrefixL.sh a0 a1 = some (List.isPrefixOf a1 a0) := by
  unfold strings_HasPrefixL.sh
  rw [prefix_take]
  by_cases h : a1.length ≤ a0.length
  · have h1 : (a1.length : Int) ≤ (a0.length : Int) := by omega
    simp only [h1, decide_true, cond_true, inS_mk (l := 0) (h := (a1.length : Int)) (n := (a0.length : Int)) (by omega) (by omega) h1, Option.bind_some, h, Bool.true_and]
    simp [sub]
  · have h1 : ¬ (a1.length : Int) ≤ (a0.length : Int) := by omega
    simp [h1, h]
def strings_HasPrefix.sh (a0 : List UInt8) (a1 : List UInt8) : Option (Bool) :=
  some (List.isPrefixOf a1 a0)
theorem strings_HasPrefix.eq (a0 a1 : List UInt8) : strings_HasPrefix.sh a0 a1 = some (List.isPrefixOf a1 a0) := rfl
theorem belowP_eq (a b : List UInt8) : belowP a b = (decide (b.length < a.length) && (decide (a.take b.length = b) && decide (byt a (b.length : Int) = 47))) := by
  unfold belowP
  rw [prefix_take, Bool.eq_iff_iff]
  simp only [Bool.and_eq_true, decide_eq_true_eq, List.length_append, List.length_cons, List.length_nil]
  constructor
  · rintro ⟨h1, h2⟩
    have hlt : b.length < a.length := by omega
    rw [List.take_succ_eq_append_getElem hlt] at h2
    have := List.append_inj h2 (by simp; omega)
    refine ⟨hlt, this.1, ?_⟩
    have h3 : a[b.length] = 47 := by simpa using this.2
    show bn (a.getD b.length 0) = 47
    simp [bn, List.getD_eq_getElem?_getD, List.getElem?_eq_getElem hlt, h3]
  · rintro ⟨hlt, h1, h2⟩
    refine ⟨by omega, ?_⟩
    rw [List.take_succ_eq_append_getElem hlt, h1]
    have h3 : bn (a.getD b.length 0) = 47 := h2
    have h4 : a.getD b.length 0 = a[b.length] := by simp [List.getD_eq_getElem?_getD, List.getElem?_eq_getElem hlt]
    rw [h4] at h3
    have : a[b.length] = 47 := UInt8.toNat.inj (by unfold bn at h3; have : a[b.length].toNat = 47 := by omega
                                                   rw [this]; rfl)
    rw [this]
def spec_l01Below.sh (a0 : List UInt8) (a1 : List UInt8) : Option (Bool) :=
  ((bif ((decide (a1 = ([] : List UInt8))) && (!decide (a0 = ([] : List UInt8)))) then some true else (((bif (decide ((a1.length : Int) < (a0.length : Int))) then (bif inS 0 (a1.length : Int) (a0.length : Int) then (some (decide ((sub a0 0 (a1.length : Int)) = a1))) else none) else some false)).bind fun z9 => ((bif z9 then (bif inR (a1.length : Int) a0.length then (some (decide ((byt a0 (a1.length : Int)) = 47))) else none) else some false)).bind fun z18 => some z18))).bind fun z8 => some z8
theorem spec_l01Below.eq (a0 a1 : List UInt8) : spec_l01Below.sh a0 a1 = some ((decide (a1 = []) && !decide (a0 = [])) || belowP a0 a1) := by
  unfold spec_l01Below.sh
  rw [belowP_eq]
  cases hc : (decide (a1 = ([] : List UInt8)) && !decide (a0 = ([] : List UInt8))) with
  | true => simp
  | false =>
    simp only [cond_false, Bool.false_or]
    by_cases h : a1.length < a0.length
    · have h1 : (a1.length : Int) < (a0.length : Int) := by omega
      simp only [h1, h, decide_true, cond_true, inS_mk (l := 0) (h := (a1.length : Int)) (n := (a0.length : Int)) (by omega) (by omega) (by omega), Option.bind_some, Bool.true_and, inR_nat h]
      have : sub a0 0 (a1.length : Int) = a0.take a1.length := by simp [sub]
      rw [this]
      cases decide (List.take a1.length a0 = a1) <;> simp
    · have h1 : ¬ (a1.length : Int) < (a0.length : Int) := by omega
      simp [h1, h]
def spec_IsBelow.sh (a0 : List UInt8) (a1 : List UInt8) : Option (Bool) :=
  bif ((decide (65536 < (a0.length : Int))) || (decide (65536 < (a1.length : Int)))) then (some false) else (some (((pathOK a0) && ((decide (a1 = ([] : List UInt8))) || (pathOK a1))) && ((decide (a1 = []) && !decide (a0 = [])) || belowP a0 a1)))
theorem spec_IsBelow.eq (a0 a1 : List UInt8) : spec_IsBelow.sh a0 a1 = some (isBelow a0 a1) := by
  unfold spec_IsBelow.sh isBelow
  cases hp : pathOK a0 with
  | false => simp
  | true =>
    have h1 := pathOK_len hp
    have h2 := pathOK_ne hp
    have h3 : ¬ (65536 : Int) < (a0.length : Int) := by omega
    simp only [h3, decide_false, Bool.false_or, Bool.true_and, h2, Bool.not_false, Bool.and_true]
    by_cases h4 : (65536 : Int) < (a1.length : Int)
    · have h5 : a1 ≠ [] := by rintro rfl; simp at h4
      have h6 : pathOK a1 = false := by
        cases h : pathOK a1 with
        | false => rfl
        | true => have := pathOK_len h; omega
      simp [h4, h5, h6]
    · simp [h4]
def impl_isPlace.sh (a0 : List UInt8) : Option (Bool) :=
  some ((decide (a0 = ([] : List UInt8))) || (pathOK a0))
theorem impl_isPlace.eq (a0 : List UInt8) : impl_isPlace.sh a0 = some (decide (a0 = []) || pathOK a0) := rfl
def impl_below.sh (a0 : List UInt8) (a1 : List UInt8) : Option (Bool) :=
  ((bif (decide (a1 = ([] : List UInt8))) then some true else (bif decide (a1.length + ([47] : List UInt8).length ≤ 9223372036854775807) then (some (List.isPrefixOf (a1 ++ ([47] : List UInt8)) a0)) else none))).bind fun z2 => some z2
theorem impl_below.eq (a0 a1 : List UInt8) (h : a1.length ≤ 1048576) : impl_below.sh a0 a1 = some (decide (a1 = []) || belowP a0 a1) := by
  unfold impl_below.sh belowP
  by_cases h1 : a1 = []
  · simp [h1]
  · have h2 : a1.length + ([47] : List UInt8).length ≤ 9223372036854775807 := by simp; omega
    have h3 : a1.length ≤ 9223372036854775806 := by omega
    simp [h1, h3]
def impl_IsBelow.sh (a0 : List UInt8) (a1 : List UInt8) : Option (Bool) :=
  ((bif ((pathOK a0) && (decide (a1 = []) || pathOK a1)) then (bif decide (a1.length ≤ 1048576) then (some (decide (a1 = []) || belowP a0 a1)) else none) else some false)).bind fun z10 => some z10
theorem impl_IsBelow.eq (a0 a1 : List UInt8) : impl_IsBelow.sh a0 a1 = some (isBelow a0 a1) := by
  unfold impl_IsBelow.sh isBelow
  cases hc : (pathOK a0 && (decide (a1 = []) || pathOK a1)) with
  | false => simp
  | true =>
    have h1 : a1.length ≤ 1048576 := by
      simp only [Bool.and_eq_true, Bool.or_eq_true, decide_eq_true_eq] at hc
      rcases hc.2 with rfl | h
      · simp
      · have := pathOK_len h; omega
    simp [h1]
def joinP (d p : List UInt8) : List UInt8 := if d = [] then p else d ++ [47] ++ p
def impl_join.sh (a0 : List UInt8) (a1 : List UInt8) : Option (List UInt8) :=
  bif (decide (a0 = ([] : List UInt8))) then (some a1) else (bif decide (a0.length + ([47] : List UInt8).length ≤ 9223372036854775807) then (bif decide ((a0 ++ ([47] : List UInt8)).length + a1.length ≤ 9223372036854775807) then (some ((a0 ++ ([47] : List UInt8)) ++ a1)) else none) else none)
theorem impl_join.eq (a0 a1 : List UInt8) (h0 : a0.length ≤ 1048576) (h1 : a1.length ≤ 1048576) : impl_join.sh a0 a1 = some (joinP a0 a1) := by
  unfold impl_join.sh joinP
  by_cases h : a0 = []
  · simp [h]
  · have h2 : a0.length + ([47] : List UInt8).length ≤ 9223372036854775807 := by simp; omega
    have h3 : (a0 ++ ([47] : List UInt8)).length + a1.length ≤ 9223372036854775807 := by simp; omega
    simp only [h, decide_false, cond_false, h2, h3, decide_true, cond_true, if_false]
def joinPath (d p : List UInt8) : List UInt8 × Int :=
  if decide (65536 < d.length) || decide (65536 < p.length) then ([], 2) else if !(decide (d = []) || pathOK d) || !partOK p then ([], 10) else if !pathOK (joinP d p) then ([], 6) else (joinP d p, 0)
def impl_JoinPath.sh (a0 : List UInt8) (a1 : List UInt8) : Option (List UInt8 × Int) :=
  bif decide (a0.length ≤ 1048576) then (bif decide (a1.length ≤ 1048576) then (bif decide (([a0, a1] : List (List UInt8)).length ≤ 4611686018427387904) then (((bif (!(decide (a0 = []) || pathOK a0)) then some true else (bif decide (a1.length ≤ 4611686018427387904) then (some (!(partOK a1))) else none))).bind fun z17 => bif decide (([.inl (([a0, a1] : List (List UInt8)).any fun t => decide (65536 < t.length)), .inr 2, .inl z17, .inr 10, .inl (!(pathOK (joinP a0 a1))), .inr 6] : List (Bool ⊕ Int)).length ≤ 4611686018427387904) then ((some (firstOf ([.inl (([a0, a1] : List (List UInt8)).any fun t => decide (65536 < t.length)), .inr 2, .inl z17, .inr 10, .inl (!(pathOK (joinP a0 a1))), .inr 6] : List (Bool ⊕ Int)))).bind fun z36 => bif (!decide (z36 = 0)) then (some (([] : List UInt8), z36)) else (some ((joinP a0 a1), 0))) else none) else none) else none) else none
theorem impl_JoinPath.eq (a0 a1 : List UInt8) (h0 : a0.length ≤ 1048576) (h1 : a1.length ≤ 1048576) : impl_JoinPath.sh a0 a1 = some ((joinPath a0 a1).1, (joinPath a0 a1).2) := by
  show _ = some (joinPath a0 a1)
  unfold impl_JoinPath.sh joinPath
  have h2 : a1.length ≤ 4611686018427387904 := by omega
  have e : (bif (!(decide (a0 = []) || pathOK a0)) then some true else (bif decide (a1.length ≤ 4611686018427387904) then (some (!(partOK a1))) else none)) = some (!(decide (a0 = []) || pathOK a0) || !partOK a1) := by
    simp only [h2, decide_true, cond_true]
    cases (decide (a0 = []) || pathOK a0) <;> rfl
  rw [e]
  simp only [h0, h1, decide_true, cond_true, Option.bind_some, firstOf, anyB, anyI, List.any_cons, List.any_nil, Bool.or_false, List.length_cons, List.length_nil]
  by_cases c1 : (decide (65536 < a0.length) || decide (65536 < a1.length)) = true
  · simp [c1]
  · by_cases c2 : (!(decide (a0 = []) || pathOK a0) || !partOK a1) = true
    · simp only [c1, c2, if_true, if_false]; simp
    · by_cases c3 : (!pathOK (joinP a0 a1)) = true
      · simp only [c1, c2, c3, if_true, if_false]; simp
      · simp only [c1, c2, c3, if_false]; simp
/-! ### less -/
theorem lt8_irrefl (a : List UInt8) : lt8 a a = false := by
  induction a with
  | nil => rfl
  | cons x a ih => simp only [lt8] at ih ⊢; simp [Op.bytesLess, ih]
def lessL : List (List UInt8) → List (List UInt8) → Bool
  | x :: xs, y :: ys => if x = y then lessL xs ys else lt8 x y
  | [], _ :: _ => true
  | _, [] => false
def cmpS (x y : List UInt8) : Int := if lt8 x y then -1 else if x = y then 0 else 1
def cmpL : List (List UInt8) → List (List UInt8) → Int
  | x :: xs, y :: ys => if cmpS x y = 0 then cmpL xs ys else cmpS x y
  | [], _ :: _ => -1
  | _ :: _, [] => 1
  | [], [] => 0
theorem cmpL_less : ∀ a b, decide (cmpL a b < 0) = lessL a b := by
  intro a
  induction a with
  | nil => intro b; cases b <;> simp [cmpL, lessL]
  | cons x a ih =>
    intro b
    cases b with
    | nil => simp [cmpL, lessL]
    | cons y b =>
      unfold cmpL lessL cmpS
      by_cases h : x = y
      · subst h; simp [lt8_irrefl, ih]
      · cases hl : lt8 x y <;> simp [h]
def cmp_isNaNS.sh (a0 : List UInt8) : Option (Bool) :=
  some (!decide (a0 = a0))
theorem cmp_isNaNS.eq (a0 : List UInt8) : cmp_isNaNS.sh a0 = some false := by simp [cmp_isNaNS.sh]
def cmp_CompareS.sh (a0 : List UInt8) (a1 : List UInt8) : Option (Int) :=
  bif false then (bif false then (some 0) else (some (-1))) else (bif false then (some 1) else (bif (lt8 a0 a1) then (some (-1)) else (bif (!(lt8 a0 a1 || decide (a0 = a1))) then (some 1) else (some 0))))
theorem cmp_CompareS.eq (a0 a1 : List UInt8) : cmp_CompareS.sh a0 a1 = some (cmpS a0 a1) := by
  unfold cmp_CompareS.sh cmpS
  cases lt8 a0 a1 with
  | true => simp
  | false => by_cases h : a0 = a1 <;> simp [h]
theorem range_succ_find {β : Type} (f : Nat → Option β) (n : Nat) : (List.range (n + 1)).findSome? f = match f 0 with | some t => some t | none => (List.range n).findSome? fun j => f (j + 1) := by
  rw [List.range_succ_eq_map, List.findSome?_cons, List.findSome?_map]; rfl
theorem less_scan : ∀ (v w : List (List UInt8)), (match (List.range (min v.length w.length)).findSome? (fun j => if v.getD j default = w.getD j default then none else some (lt8 (v.getD j default) (w.getD j default))) with | some t => t | none => decide (v.length < w.length)) = lessL v w := by
  intro v
  induction v with
  | nil => intro w; cases w <;> simp [lessL]
  | cons x v ih =>
    intro w
    cases w with
    | nil => simp [lessL]
    | cons y w =>
      simp only [List.length_cons, Nat.add_min_add_right, range_succ_find, List.getD_cons_zero, List.getD_cons_succ]
      by_cases h : x = y
      · simp only [h, if_true, lessL]
        rw [← ih w]
        simp only [Nat.add_lt_add_iff_right]
      · simp [h, lessL]
theorem cmp_scan : ∀ (v w : List (List UInt8)), (match (List.range v.length).findSome? (fun j => if w.length ≤ j then some 1 else if cmpS (v.getD j default) (w.getD j default) = 0 then none else some (cmpS (v.getD j default) (w.getD j default))) with | some t => t | none => if v.length < w.length then -1 else 0) = cmpL v w := by
  intro v
  induction v with
  | nil => intro w; cases w <;> simp [cmpL]
  | cons x v ih =>
    intro w
    simp only [List.length_cons, range_succ_find]
    cases w with
    | nil => simp [cmpL]
    | cons y w =>
      simp only [List.length_cons, List.getD_cons_zero, List.getD_cons_succ, Nat.add_le_add_iff_right, Nat.add_lt_add_iff_right]
      by_cases h : cmpS x y = 0
      · simp only [h, if_true, cmpL]
        rw [← ih w]
        simp
      · simp [h, cmpL]
def spec_l01Less.b1 (a0 : List UInt8) (a1 : List UInt8) : Int → Option (Step (Bool) (Int) (Unit)) :=
  fun x7_11 => bif ((decide (x7_11 < ((cut 47 a0).length : Int))) && (decide (x7_11 < ((cut 47 a1).length : Int)))) then (bif inR x7_11 (cut 47 a0).length then (bif inR x7_11 (cut 47 a1).length then (bif (!decide ((gt (cut 47 a0) x7_11) = (gt (cut 47 a1) x7_11))) then (bif inR x7_11 (cut 47 a0).length then (bif inR x7_11 (cut 47 a1).length then (some (.ret (lt8 (gt (cut 47 a0) x7_11) (gt (cut 47 a1) x7_11)))) else none) else none) else (some (.nxt (IntKind.wrap .i64 (x7_11 + 1))))) else none) else none) else (some (.brk ()))
def spec_l01Less.sh (k : Nat) (a0 : List UInt8) (a1 : List UInt8) : Option (Bool) :=
  bif decide (a0.length ≤ 1048576) then (bif decide (a1.length ≤ 1048576) then ((loopF (spec_l01Less.b1 a0 a1) k 0).bind fun z => match z with | .inl t => some t | .inr _ => some (decide (((cut 47 a0).length : Int) < ((cut 47 a1).length : Int)))) else none) else none
theorem spec_l01Less.eq (a0 a1 : List UInt8) (h0 : a0.length ≤ 1048576) (h1 : a1.length ≤ 1048576) : ∃ k, spec_l01Less.sh k a0 a1 = some (lessL (cut 47 a0) (cut 47 a1)) := by
  refine ⟨(cut 47 a0).length + 1, ?_⟩
  unfold spec_l01Less.sh
  have hl0 := cut_len 47 a0
  have hb : ∀ i : Nat, i < min (cut 47 a0).length (cut 47 a1).length → spec_l01Less.b1 a0 a1 i = some (sc (if (cut 47 a0).getD i default = (cut 47 a1).getD i default then none else some (lt8 ((cut 47 a0).getD i default) ((cut 47 a1).getD i default)) : Option Bool) ((i : Int) + 1)) := by
    intro i hi
    have hi0 : i < (cut 47 a0).length := by omega
    have hi1 : i < (cut 47 a1).length := by omega
    simp only [spec_l01Less.b1, lt_nat, hi0, hi1, decide_true, Bool.and_self, cond_true, inR_nat hi0, inR_nat hi1, getD_gt, wrap_succ hi0 (by omega)]
    by_cases he : (cut 47 a0).getD i default = (cut 47 a1).getD i default
    · simp only [he, decide_true, Bool.not_true, if_true, cond_false, sc_none]
    · simp only [he, decide_false, Bool.not_false, if_false, cond_true, sc_some]
  have hn : spec_l01Less.b1 a0 a1 ((min (cut 47 a0).length (cut 47 a1).length : Nat) : Int) = some (.brk ()) := by
    simp only [spec_l01Less.b1, lt_nat]
    have : (decide (min (cut 47 a0).length (cut 47 a1).length < (cut 47 a0).length) && decide (min (cut 47 a0).length (cut 47 a1).length < (cut 47 a1).length)) = false := by simp; omega
    rw [this]; rfl
  simp only [h0, h1, decide_true, cond_true]
  rw [loop_scan0 _ _ hb hn _ (by omega), ← less_scan]
  cases (List.range (min (cut 47 a0).length (cut 47 a1).length)).findSome? _ with
  | some t => simp
  | none =>
    have : ((cut 47 a0).length : Int) < ((cut 47 a1).length : Int) ↔ (cut 47 a0).length < (cut 47 a1).length := by omega
    simp [this]
def pathLess (a b : List UInt8) : Bool := (pathOK a && pathOK b) && lessL (cut 47 a) (cut 47 b)
def spec_PathLess.sh (a0 : List UInt8) (a1 : List UInt8) : Option (Bool) :=
  bif ((decide (65536 < (a0.length : Int))) || (decide (65536 < (a1.length : Int)))) then (some false) else (((bif ((pathOK a0) && (pathOK a1)) then (bif decide (a0.length ≤ 1048576) then (bif decide (a1.length ≤ 1048576) then (some (lessL (cut 47 a0) (cut 47 a1))) else none) else none) else some false)).bind fun z17 => some z17)
theorem spec_PathLess.eq (a0 a1 : List UInt8) : spec_PathLess.sh a0 a1 = some (pathLess a0 a1) := by
  unfold spec_PathLess.sh pathLess
  cases hc : (pathOK a0 && pathOK a1) with
  | false => simp
  | true =>
    simp only [Bool.and_eq_true] at hc
    have h0 := pathOK_len hc.1
    have h1 := pathOK_len hc.2
    have h2 : ¬ (65536 : Int) < (a0.length : Int) := by omega
    have h3 : ¬ (65536 : Int) < (a1.length : Int) := by omega
    have h4 : a0.length ≤ 1048576 := by omega
    have h5 : a1.length ≤ 1048576 := by omega
    simp [h2, h3, h4, h5]
def slices_CompareS.b1 (a0 : List (List UInt8)) (a1 : List (List UInt8)) : Int → Option (Step (Int) (Int) (Unit)) :=
  fun x11_1 => bif (decide (x11_1 < (a0.length : Int))) then (bif inR x11_1 a0.length then (bif (decide ((a1.length : Int) ≤ x11_1)) then (some (.ret 1)) else (bif inR x11_1 a1.length then (bif (!decide ((cmpS (gt a0 x11_1) (gt a1 x11_1)) = 0)) then (some (.ret (cmpS (gt a0 x11_1) (gt a1 x11_1)))) else (some (.nxt (IntKind.wrap .i64 (x11_1 + 1))))) else none)) else none) else (some (.brk ()))
def slices_CompareS.sh (k : Nat) (a0 : List (List UInt8)) (a1 : List (List UInt8)) : Option (Int) :=
  (loopF (slices_CompareS.b1 a0 a1) k 0).bind fun z => match z with | .inl t => some t | .inr _ => bif (decide ((a0.length : Int) < (a1.length : Int))) then (some (-1)) else (some 0)
theorem slices_CompareS.eq (a0 a1 : List (List UInt8)) (h0 : a0.length ≤ 4611686018427387904) (h1 : a1.length ≤ 4611686018427387904) : ∃ k, slices_CompareS.sh k a0 a1 = some (cmpL a0 a1) := by
  refine ⟨a0.length + 1, ?_⟩
  unfold slices_CompareS.sh
  have hb : ∀ i : Nat, i < a0.length → slices_CompareS.b1 a0 a1 i = some (sc (if a1.length ≤ i then some 1 else if cmpS (a0.getD i default) (a1.getD i default) = 0 then none else some (cmpS (a0.getD i default) (a1.getD i default)) : Option Int) ((i : Int) + 1)) := by
    intro i hi
    simp only [slices_CompareS.b1, lt_nat, hi, decide_true, cond_true, inR_nat hi, getD_gt, wrap_succ hi h0]
    by_cases hm : a1.length ≤ i
    · have : (a1.length : Int) ≤ (i : Int) := by omega
      simp [hm, this]
    · have h2 : ¬ (a1.length : Int) ≤ (i : Int) := by omega
      have h3 : i < a1.length := by omega
      simp only [h2, hm, decide_false, cond_false, inR_nat h3, cond_true, if_false]
      by_cases he : cmpS (a0.getD i default) (a1.getD i default) = 0
      · simp only [he, decide_true, Bool.not_true, if_true, cond_false, sc_none]
      · simp only [he, decide_false, Bool.not_false, if_false, cond_true, sc_some]
  have hn : slices_CompareS.b1 a0 a1 a0.length = some (.brk ()) := by simp [slices_CompareS.b1]
  rw [loop_scan0 _ _ hb hn _ (by omega), ← cmp_scan]
  cases (List.range a0.length).findSome? _ with
  | some t => simp
  | none =>
    by_cases h : a0.length < a1.length
    · have : (a0.length : Int) < (a1.length : Int) := by omega
      simp [h, this]
    · have : ¬ (a0.length : Int) < (a1.length : Int) := by omega
      simp [h, this]
def impl_compare.sh (a0 : List UInt8) (a1 : List UInt8) : Option (Int) :=
  bif decide (a0.length ≤ 1048576) then (bif decide (a1.length ≤ 1048576) then (bif decide ((cut 47 a0).length ≤ 4611686018427387904) then (bif decide ((cut 47 a1).length ≤ 4611686018427387904) then (some (cmpL (cut 47 a0) (cut 47 a1))) else none) else none) else none) else none
theorem impl_compare.eq (a0 a1 : List UInt8) (h0 : a0.length ≤ 1048576) (h1 : a1.length ≤ 1048576) : impl_compare.sh a0 a1 = some (cmpL (cut 47 a0) (cut 47 a1)) := by
  have h2 := cut_len 47 a0
  have h3 := cut_len 47 a1
  have h4 : (cut 47 a0).length ≤ 4611686018427387904 := by omega
  have h5 : (cut 47 a1).length ≤ 4611686018427387904 := by omega
  simp [impl_compare.sh, h0, h1, h4, h5]
def impl_PathLess.sh (a0 : List UInt8) (a1 : List UInt8) : Option (Bool) :=
  ((bif ((pathOK a0) && (pathOK a1)) then (bif decide (a0.length ≤ 1048576) then (bif decide (a1.length ≤ 1048576) then (some (decide ((cmpL (cut 47 a0) (cut 47 a1)) < 0))) else none) else none) else some false)).bind fun z10 => some z10
theorem impl_PathLess.eq (a0 a1 : List UInt8) : impl_PathLess.sh a0 a1 = some (pathLess a0 a1) := by
  unfold impl_PathLess.sh pathLess
  cases hc : (pathOK a0 && pathOK a1) with
  | false => simp
  | true =>
    simp only [Bool.and_eq_true] at hc
    have h0 := pathOK_len hc.1
    have h1 := pathOK_len hc.2
    have h4 : a0.length ≤ 1048576 := by omega
    have h5 : a1.length ≤ 1048576 := by omega
    simp only [h4, h5, decide_true, cond_true, Option.bind_some, cmpL_less, Bool.true_and]
/-! ### the parts of a path -/
def askP (t : List UInt8) : Int := if 65536 < t.length then 2 else if !pathOK t then 10 else 0
def partsOf (t : List UInt8) : List (List UInt8) × Int := if askP t = 0 then (cut 47 t, 0) else ([], askP t)
def spec_l01Ask.sh (a0 : List UInt8) : Option (Int) :=
  bif (decide (65536 < (a0.length : Int))) then (some 2) else (bif (!(pathOK a0)) then (some 10) else (some 0))
theorem spec_l01Ask.eq (a0 : List UInt8) : spec_l01Ask.sh a0 = some (askP a0) := by
  unfold spec_l01Ask.sh askP
  by_cases h : 65536 < a0.length
  · have : (65536 : Int) < (a0.length : Int) := by omega
    simp [h, this]
  · have : ¬ (65536 : Int) < (a0.length : Int) := by omega
    cases hp : pathOK a0 <;> simp [h, this]
theorem askP_zero {t : List UInt8} (h : askP t = 0) : pathOK t = true ∧ t.length < 36 := by
  unfold askP at h
  split at h
  · cases h
  · split at h
    · cases h
    · rename_i _ h2; have h3 : pathOK t = true := by simpa using h2
      exact ⟨h3, pathOK_len h3⟩
def spec_PartsOf.sh (a0 : List UInt8) : Option (List (List UInt8) × Int) :=
  bif (decide (65536 < (a0.length : Int))) then (some (([] : List (List UInt8)), 2)) else (bif (!decide ((askP a0) = 0)) then (some (([] : List (List UInt8)), (askP a0))) else (bif decide (a0.length ≤ 1048576) then (some ((cut 47 a0), 0)) else none))
theorem spec_PartsOf.eq (a0 : List UInt8) : spec_PartsOf.sh a0 = some ((partsOf a0).1, (partsOf a0).2) := by
  unfold spec_PartsOf.sh partsOf
  by_cases h : (65536 : Int) < (a0.length : Int)
  · have h2 : 65536 < a0.length := by omega
    have : askP a0 = 2 := by simp [askP, h2]
    simp [h, this]
  · by_cases h2 : askP a0 = 0
    · have := (askP_zero h2).2
      have h3 : a0.length ≤ 1048576 := by omega
      simp [h, h2, h3]
    · simp [h, h2]
def impl_PartsOf.sh (a0 : List UInt8) : Option (List (List UInt8) × Int) :=
  bif decide (([a0] : List (List UInt8)).length ≤ 4611686018427387904) then (bif decide (([.inl (([a0] : List (List UInt8)).any fun t => decide (65536 < t.length)), .inr 2, .inl (!(pathOK a0)), .inr 10] : List (Bool ⊕ Int)).length ≤ 4611686018427387904) then ((some (firstOf ([.inl (([a0] : List (List UInt8)).any fun t => decide (65536 < t.length)), .inr 2, .inl (!(pathOK a0)), .inr 10] : List (Bool ⊕ Int)))).bind fun z21 => bif (!decide (z21 = 0)) then (some ([], z21)) else (bif decide (a0.length ≤ 1048576) then (some ((cut 47 a0), 0)) else none)) else none) else none
theorem impl_PartsOf.eq (a0 : List UInt8) : impl_PartsOf.sh a0 = some ((partsOf a0).1, (partsOf a0).2) := by
  unfold impl_PartsOf.sh partsOf
  have e : firstOf ([.inl (([a0] : List (List UInt8)).any fun t => decide (65536 < t.length)), .inr 2, .inl (!(pathOK a0)), .inr 10] : List (Bool ⊕ Int)) = askP a0 := by
    simp only [firstOf, anyB, anyI, askP, List.any_cons, List.any_nil, Bool.or_false, decide_eq_true_eq]
    rfl
  rw [e]
  simp only [List.length_cons, List.length_nil]
  by_cases h2 : askP a0 = 0
  · have := (askP_zero h2).2
    have h3 : a0.length ≤ 1048576 := by omega
    simp [h2, h3]
  · simp [h2]

end Go.UL
