/- Plain Lean: what the functions compute. -/
import Derived.Test.YtfefjaohlhkmaaaGreatDoortP2
set_option linter.unusedVariables false
set_option linter.unusedSimpArgs false
namespace Go.UL
open Go.RowKit
/-! ### records -/
/-- The first thing that is wrong with a record. -/
def recFault (r : Rec) : Int :=
  if !within r.kind 1 4 then 9 else if !pathOK r.path then 10
  else if decide (20 < r.body.length) || (decide (r.kind = 2) && decide (r.body = [])) then 8
  else if ((decide (r.kind = 3) || decide (r.kind = 4)) && !decide (r.body = [])) || (!decide (r.kind = 3) && r.opq) then 3
  else if !within r.mode 0 511 || ((decide (r.kind = 2) || decide (r.kind = 4)) && !decide (r.mode = 0)) then 4 else 0
def spec_l02Fault.sh (a0 : Rec) : Option (Int) :=
  bif (!(within a0.kind 1 4)) then (some 9) else (bif (!(pathOK a0.path)) then (some 10) else (bif ((decide (20 < (a0.body.length : Int))) || ((decide (a0.kind = 2)) && (decide (a0.body = ([] : List UInt8))))) then (some 8) else (bif (((!decide (a0.body = ([] : List UInt8))) && ((decide (a0.kind = 3)) || (decide (a0.kind = 4)))) || (a0.opq && (!(decide (a0.kind = 3))))) then (some 3) else (bif ((!(within a0.mode 0 511)) || ((!decide (a0.mode = 0)) && ((decide (a0.kind = 4)) || (decide (a0.kind = 2))))) then (some 4) else (some 0)))))
theorem bif_if {α : Type} (b : Bool) (x y : α) : (bif b then x else y) = if b then x else y := by cases b <;> rfl
theorem spec_l02Fault.eq (a0 : Rec) : spec_l02Fault.sh a0 = some (recFault a0) := by
  unfold spec_l02Fault.sh recFault
  have e1 : decide ((20 : Int) < (a0.body.length : Int)) = decide (20 < a0.body.length) := by rw [decide_eq_decide]; omega
  have e2 : (((!decide (a0.body = ([] : List UInt8))) && ((decide (a0.kind = 3)) || (decide (a0.kind = 4)))) || (a0.opq && (!(decide (a0.kind = 3))))) = (((decide (a0.kind = 3) || decide (a0.kind = 4)) && !decide (a0.body = [])) || (!decide (a0.kind = 3) && a0.opq)) := by
    rw [Bool.and_comm (!decide (a0.body = ([] : List UInt8))), Bool.and_comm a0.opq]
  have e3 : ((!(within a0.mode 0 511)) || ((!decide (a0.mode = 0)) && ((decide (a0.kind = 4)) || (decide (a0.kind = 2))))) = (!within a0.mode 0 511 || ((decide (a0.kind = 2) || decide (a0.kind = 4)) && !decide (a0.mode = 0))) := by
    rw [Bool.and_comm (!decide (a0.mode = 0)), Bool.or_comm (decide (a0.kind = 4))]
  rw [e1, e2, e3]
  simp only [bif_if]
  split
  · rfl
  · split
    · rfl
    · split
      · rfl
      · split
        · rfl
        · split <;> rfl
def spec_l02OK.sh (a0 : Rec) : Option (Bool) :=
  some (decide ((recFault a0) = 0))
theorem spec_l02OK.eq (a0 : Rec) : spec_l02OK.sh a0 = some (decide (recFault a0 = 0)) := rfl
def impl_RecordFault.sh (a0 : Rec) : Option (Int) :=
  bif decide (([.inl (!(within a0.kind 1 4)), .inr 9, .inl (!(pathOK a0.path)), .inr 10, .inl ((decide (20 < (a0.body.length : Int))) || ((decide (a0.kind = 2)) && (decide (a0.body = ([] : List UInt8))))), .inr 8, .inl ((((decide (a0.kind = 3)) || (decide (a0.kind = 4))) && (!decide (a0.body = ([] : List UInt8)))) || ((!decide (a0.kind = 3)) && a0.opq)), .inr 3, .inl ((!(within a0.mode 0 511)) || (((decide (a0.kind = 2)) || (decide (a0.kind = 4))) && (!decide (a0.mode = 0)))), .inr 4] : List (Bool ⊕ Int)).length ≤ 4611686018427387904) then (some (firstOf ([.inl (!(within a0.kind 1 4)), .inr 9, .inl (!(pathOK a0.path)), .inr 10, .inl ((decide (20 < (a0.body.length : Int))) || ((decide (a0.kind = 2)) && (decide (a0.body = ([] : List UInt8))))), .inr 8, .inl ((((decide (a0.kind = 3)) || (decide (a0.kind = 4))) && (!decide (a0.body = ([] : List UInt8)))) || ((!decide (a0.kind = 3)) && a0.opq)), .inr 3, .inl ((!(within a0.mode 0 511)) || (((decide (a0.kind = 2)) || (decide (a0.kind = 4))) && (!decide (a0.mode = 0)))), .inr 4] : List (Bool ⊕ Int)))) else none
theorem impl_RecordFault.eq (a0 : Rec) : impl_RecordFault.sh a0 = some (recFault a0) := by
  unfold impl_RecordFault.sh recFault
  have e1 : decide ((20 : Int) < (a0.body.length : Int)) = decide (20 < a0.body.length) := by rw [decide_eq_decide]; omega
  rw [e1]; simp only [List.length_cons, List.length_nil]
  simp only [firstOf, anyB, anyI]
  rfl
def impl_RecordOK.sh (a0 : Rec) : Option (Bool) :=
  some (decide ((recFault a0) = 0))
theorem impl_RecordOK.eq (a0 : Rec) : impl_RecordOK.sh a0 = some (decide (recFault a0 = 0)) := rfl
/-! ### below, joined -/
def belowP (a b : List UInt8) : Bool := (b ++ [47]).isPrefixOf a
def isBelow (a b : List UInt8) : Bool := (pathOK a && (decide (b = []) || pathOK b)) && (decide (b = []) || belowP a b)
theorem pathOK_len {t : List UInt8} (h : pathOK t = true) : t.length < 36 := by simp [pathOK] at h; exact h.1
theorem pathOK_ne {t : List UInt8} (h : pathOK t = true) : t ≠ [] := by rintro rfl; revert h; decide
theorem prefix_take (p a : List UInt8) : p.isPrefixOf a = (decide (p.length ≤ a.length) && decide (a.take p.length = p)) := by
  rw [Bool.eq_iff_iff, List.isPrefixOf_iff_prefix]
  simp only [Bool.and_eq_true, decide_eq_true_eq]
  constructor
  · intro h; exact ⟨h.length_le, (List.prefix_iff_eq_take.1 h).symm⟩
  · rintro ⟨_, h⟩; exact List.prefix_iff_eq_take.2 h.symm
def strings_HasPrefixL.sh (a0 : List UInt8) (a1 : List UInt8) : Option (Bool) :=
  ((bif (decide ((a1.length : Int) ≤ (a0.length : Int))) then (bif inS 0 (a1.length : Int) (a0.length : Int) then (some (decide ((sub a0 0 (a1.length : Int)) = a1))) else none) else some false)).bind fun z2 => some z2
theorem strings_HasPrefixL.eq (a0 a1 : List UInt8) : strings_HasPrefixL.sh a0 a1 = some (List.isPrefixOf a1 a0) := by
  unfold strings_HasPrefixL.sh
  rw [prefix_take]
  by_cases h : a1.length ≤ a0.length
  · have h1 : (a1.length : Int) ≤ (a0.length : Int) := by omega
    simp only [h1, decide_true, cond_true, inS_mk (l := 0) (h := (a1.length : Int)) (n := (a0.length : Int)) (by omega) (by omega) h1, Option.bind_some, h, Bool.true_and]
    simp [sub]
  · have h1 : ¬ (a1.length : Int) ≤ (a0.length : Int) := by omega
    simp [h1, h]
def strings_HasPrefix.sh (a0 : List UInt8) (a1 : List UInt8) : Option (Bool) :=
  some (List.isPrefixOf a1 a0)
theorem strings_HasPrefix.eq (a0 a1 : List UInt8) : strings_HasPrefix.sh a0 a1 = some (List.isPrefixOf a1 a0) := rfl
theorem belowP_eq (a b : List UInt8) : belowP a b = (decide (b.length < a.length) && (decide (a.take b.length = b) && decide (byt a (b.length : Int) = 47))) := by
  unfold belowP
  rw [prefix_take, Bool.eq_iff_iff]
  simp only [Bool.and_eq_true, decide_eq_true_eq, List.length_append, List.length_cons, List.length_nil]
  constructor
  · rintro ⟨h1, h2⟩
    have hlt : b.length < a.length := by omega
    rw [List.take_succ_eq_append_getElem hlt] at h2
    have := List.append_inj h2 (by simp; omega)
    refine ⟨hlt, this.1, ?_⟩
    have h3 : a[b.length] = 47 := by simpa using this.2
    show bn (a.getD b.length 0) = 47
    simp [bn, List.getD_eq_getElem?_getD, List.getElem?_eq_getElem hlt, h3]
  · rintro ⟨hlt, h1, h2⟩
    refine ⟨by omega, ?_⟩
    rw [List.take_succ_eq_append_getElem hlt, h1]
    have h3 : bn (a.getD b.length 0) = 47 := h2
    have h4 : a.getD b.length 0 = a[b.length] := by simp [List.getD_eq_getElem?_getD, List.getElem?_eq_getElem hlt]
    rw [h4] at h3
    have : a[b.length] = 47 := UInt8.toNat.inj (by unfold bn at h3; have : a[b.length].toNat = 47 := by omega
                                                   rw [this]; rfl)
    rw [this]
def spec_l01Below.sh (a0 : List UInt8) (a1 : List UInt8) : Option (Bool) :=
  ((bif ((decide (a1 = ([] : List UInt8))) && (!decide (a0 = ([] : List UInt8)))) then some true else (((bif (decide ((a1.length : Int) < (a0.length : Int))) then (bif inS 0 (a1.length : Int) (a0.length : Int) then (some (decide ((sub a0 0 (a1.length : Int)) = a1))) else none) else some false)).bind fun z9 => ((bif z9 then (bif inR (a1.length : Int) a0.length then (some (decide ((byt a0 (a1.length : Int)) = 47))) else none) else some false)).bind fun z18 => some z18))).bind fun z8 => some z8
theorem spec_l01Below.eq (a0 a1 : List UInt8) : spec_l01Below.sh a0 a1 = some ((decide (a1 = []) && !decide (a0 = [])) || belowP a0 a1) := by
  unfold spec_l01Below.sh
  rw [belowP_eq]
  cases hc : (decide (a1 = ([] : List UInt8)) && !decide (a0 = ([] : List UInt8))) with
  | true => simp
  | false =>
    simp only [cond_false, Bool.false_or]
    by_cases h : a1.length < a0.length
    · have h1 : (a1.length : Int) < (a0.length : Int) := by omega
      simp only [h1, h, decide_true, cond_true, inS_mk (l := 0) (h := (a1.length : Int)) (n := (a0.length : Int)) (by omega) (by omega) (by omega), Option.bind_some, Bool.true_and, inR_nat h]
      have : sub a0 0 (a1.length : Int) = a0.take a1.length := by simp [sub]
      rw [this]
      cases decide (List.take a1.length a0 = a1) <;> simp
    · have h1 : ¬ (a1.length : Int) < (a0.length : Int) := by omega
      simp [h1, h]
def spec_IsBelow.sh (a0 : List UInt8) (a1 : List UInt8) : Option (Bool) :=
  bif ((decide (65536 < (a0.length : Int))) || (decide (65536 < (a1.length : Int)))) then (some false) else (some (((pathOK a0) && ((decide (a1 = ([] : List UInt8))) || (pathOK a1))) && ((decide (a1 = []) && !decide (a0 = [])) || belowP a0 a1)))
theorem spec_IsBelow.eq (a0 a1 : List UInt8) : spec_IsBelow.sh a0 a1 = some (isBelow a0 a1) := by
  unfold spec_IsBelow.sh isBelow
  cases hp : pathOK a0 with
  | false => simp
  | true =>
    have h1 := pathOK_len hp
    have h2 := pathOK_ne hp
    have h3 : ¬ (65536 : Int) < (a0.length : Int) := by omega
    simp only [h3, decide_false, Bool.false_or, Bool.true_and, h2, Bool.not_false, Bool.and_true]
    by_cases h4 : (65536 : Int) < (a1.length : Int)
    · have h5 : a1 ≠ [] := by rintro rfl; simp at h4
      have h6 : pathOK a1 = false := by
        cases h : pathOK a1 with
        | false => rfl
        | true => have := pathOK_len h; omega
      simp [h4, h5, h6]
    · simp [h4]
def impl_isPlace.sh (a0 : List UInt8) : Option (Bool) :=
  some ((decide (a0 = ([] : List UInt8))) || (pathOK a0))
theorem impl_isPlace.eq (a0 : List UInt8) : impl_isPlace.sh a0 = some (decide (a0 = []) || pathOK a0) := rfl
def impl_below.sh (a0 : List UInt8) (a1 : List UInt8) : Option (Bool) :=
  ((bif (decide (a1 = ([] : List UInt8))) then some true else (bif decide (a1.length + ([47] : List UInt8).length ≤ 9223372036854775807) then (some (List.isPrefixOf (a1 ++ ([47] : List UInt8)) a0)) else none))).bind fun z2 => some z2
theorem impl_below.eq (a0 a1 : List UInt8) (h : a1.length ≤ 1048576) : impl_below.sh a0 a1 = some (decide (a1 = []) || belowP a0 a1) := by
  unfold impl_below.sh belowP
  by_cases h1 : a1 = []
  · simp [h1]
  · have h2 : a1.length + ([47] : List UInt8).length ≤ 9223372036854775807 := by simp; omega
    have h3 : a1.length ≤ 9223372036854775806 := by omega
    simp [h1, h3]
def joinP (d p : List UInt8) : List UInt8 := if d = [] then p else d ++ [47] ++ p
def spec_l01Join.sh (a0 : List UInt8) (a1 : List UInt8) : Option (List UInt8) :=
  bif (decide (a0 = ([] : List UInt8))) then (some a1) else (bif decide (a0.length + ([47] : List UInt8).length ≤ 9223372036854775807) then (bif decide ((a0 ++ ([47] : List UInt8)).length + a1.length ≤ 9223372036854775807) then (some ((a0 ++ ([47] : List UInt8)) ++ a1)) else none) else none)
theorem spec_l01Join.eq (a0 a1 : List UInt8) (h0 : a0.length ≤ 1048576) (h1 : a1.length ≤ 1048576) : spec_l01Join.sh a0 a1 = some (joinP a0 a1) := by
  unfold spec_l01Join.sh joinP
  by_cases h : a0 = []
  · simp [h]
  · have h2 : a0.length + ([47] : List UInt8).length ≤ 9223372036854775807 := by simp; omega
    have h3 : (a0 ++ ([47] : List UInt8)).length + a1.length ≤ 9223372036854775807 := by simp; omega
    simp only [h, decide_false, cond_false, h2, h3, decide_true, cond_true, if_false]
/-! ### less -/
theorem lt8_irrefl (a : List UInt8) : lt8 a a = false := by
  induction a with
  | nil => rfl
  | cons x a ih => simp only [lt8] at ih ⊢; simp [Op.bytesLess, ih]
def lessL : List (List UInt8) → List (List UInt8) → Bool
  | x :: xs, y :: ys => if x = y then lessL xs ys else lt8 x y
  | [], _ :: _ => true
  | _, [] => false
def cmpS (x y : List UInt8) : Int := if lt8 x y then -1 else if x = y then 0 else 1
def cmpL : List (List UInt8) → List (List UInt8) → Int
  | x :: xs, y :: ys => if cmpS x y = 0 then cmpL xs ys else cmpS x y
  | [], _ :: _ => -1
  | _ :: _, [] => 1
  | [], [] => 0
theorem cmpL_less : ∀ a b, decide (cmpL a b < 0) = lessL a b := by
  intro a
  induction a with
  | nil => intro b; cases b <;> simp [cmpL, lessL]
  | cons x a ih =>
    intro b
    cases b with
    | nil => simp [cmpL, lessL]
    | cons y b =>
      unfold cmpL lessL cmpS
      by_cases h : x = y
      · subst h; simp [lt8_irrefl, ih]
      · cases hl : lt8 x y <;> simp [h]
def cmp_isNaNS.sh (a0 : List UInt8) : Option (Bool) :=
  some (!decide (a0 = a0))
theorem cmp_isNaNS.eq (a0 : List UInt8) : cmp_isNaNS.sh a0 = some false := by simp [cmp_isNaNS.sh]
def cmp_CompareS.sh (a0 : List UInt8) (a1 : List UInt8) : Option (Int) :=
  bif false then (bif false then (some 0) else (some (-1))) else (bif false then (some 1) else (bif (lt8 a0 a1) then (some (-1)) else (bif (!(lt8 a0 a1 || decide (a0 = a1))) then (some 1) else (some 0))))
theorem cmp_CompareS.eq (a0 a1 : List UInt8) : cmp_CompareS.sh a0 a1 = some (cmpS a0 a1) := by
  unfold cmp_CompareS.sh cmpS
  cases lt8 a0 a1 with
  | true => simp
  | false => by_cases h : a0 = a1 <;> simp [h]
theorem range_succ_find {β : Type} (f : Nat → Option β) (n : Nat) : (List.range (n + 1)).findSome? f = match f 0 with | some t => some t | none => (List.range n).findSome? fun j => f (j + 1) := by
  rw [List.range_succ_eq_map, List.findSome?_cons, List.findSome?_map]; rfl
theorem less_scan : ∀ (v w : List (List UInt8)), (match (List.range (min v.length w.length)).findSome? (fun j => if v.getD j default = w.getD j default then none else some (lt8 (v.getD j default) (w.getD j default))) with | some t => t | none => decide (v.length < w.length)) = lessL v w := by
  intro v
  induction v with
  | nil => intro w; cases w <;> simp [lessL]
  | cons x v ih =>
    intro w
    cases w with
    | nil => simp [lessL]
    | cons y w =>
      simp only [List.length_cons, Nat.add_min_add_right, range_succ_find, List.getD_cons_zero, List.getD_cons_succ]
      by_cases h : x = y
      · simp only [h, if_true, lessL]
        rw [← ih w]
        simp only [Nat.add_lt_add_iff_right]
      · simp [h, lessL]
theorem cmp_scan : ∀ (v w : List (List UInt8)), (match (List.range v.length).findSome? (fun j => if w.length ≤ j then some 1 else if cmpS (v.getD j default) (w.getD j default) = 0 then none else some (cmpS (v.getD j default) (w.getD j default))) with | some t => t | none => if v.length < w.length then -1 else 0) = cmpL v w := by
  intro v
  induction v with
  | nil => intro w; cases w <;> simp [cmpL]
  | cons x v ih =>
    intro w
    simp only [List.length_cons, range_succ_find]
    cases w with
    | nil => simp [cmpL]
    | cons y w =>
      simp only [List.length_cons, List.getD_cons_zero, List.getD_cons_succ, Nat.add_le_add_iff_right, Nat.add_lt_add_iff_right]
      by_cases h : cmpS x y = 0
      · simp only [h, if_true, cmpL]
        rw [← ih w]
        simp
      · simp [h, cmpL]
def spec_l01Less.b1 (a0 : List UInt8) (a1 : List UInt8) : Int → Option (Step (Bool) (Int) (Unit)) :=
  fun x7_11 => bif ((decide (x7_11 < ((cut 47 a0).length : Int))) && (decide (x7_11 < ((cut 47 a1).length : Int)))) then (bif inR x7_11 (cut 47 a0).length then (bif inR x7_11 (cut 47 a1).length then (bif (!decide ((gt (cut 47 a0) x7_11) = (gt (cut 47 a1) x7_11))) then (bif inR x7_11 (cut 47 a0).length then (bif inR x7_11 (cut 47 a1).length then (some (.ret (lt8 (gt (cut 47 a0) x7_11) (gt (cut 47 a1) x7_11)))) else none) else none) else (some (.nxt (IntKind.wrap .i64 (x7_11 + 1))))) else none) else none) else (some (.brk ()))
def spec_l01Less.sh (k : Nat) (a0 : List UInt8) (a1 : List UInt8) : Option (Bool) :=
  bif decide (a0.length ≤ 1048576) then (bif decide (a1.length ≤ 1048576) then ((loopF (spec_l01Less.b1 a0 a1) k 0).bind fun z => match z with | .inl t => some t | .inr _ => some (decide (((cut 47 a0).length : Int) < ((cut 47 a1).length : Int)))) else none) else none
theorem spec_l01Less.eq (a0 a1 : List UInt8) (h0 : a0.length ≤ 1048576) (h1 : a1.length ≤ 1048576) : ∃ k, spec_l01Less.sh k a0 a1 = some (lessL (cut 47 a0) (cut 47 a1)) := by
  refine ⟨(cut 47 a0).length + 1, ?_⟩
  unfold spec_l01Less.sh
  have hl0 := cut_len 47 a0
  have hb : ∀ i : Nat, i < min (cut 47 a0).length (cut 47 a1).length → spec_l01Less.b1 a0 a1 i = some (sc (if (cut 47 a0).getD i default = (cut 47 a1).getD i default then none else some (lt8 ((cut 47 a0).getD i default) ((cut 47 a1).getD i default)) : Option Bool) ((i : Int) + 1)) := by
    intro i hi
    have hi0 : i < (cut 47 a0).length := by omega
    have hi1 : i < (cut 47 a1).length := by omega
    simp only [spec_l01Less.b1, lt_nat, hi0, hi1, decide_true, Bool.and_self, cond_true, inR_nat hi0, inR_nat hi1, getD_gt, wrap_succ hi0 (by omega)]
    by_cases he : (cut 47 a0).getD i default = (cut 47 a1).getD i default
    · simp only [he, decide_true, Bool.not_true, if_true, cond_false, sc_none]
    · simp only [he, decide_false, Bool.not_false, if_false, cond_true, sc_some]
  have hn : spec_l01Less.b1 a0 a1 ((min (cut 47 a0).length (cut 47 a1).length : Nat) : Int) = some (.brk ()) := by
    simp only [spec_l01Less.b1, lt_nat]
    have : (decide (min (cut 47 a0).length (cut 47 a1).length < (cut 47 a0).length) && decide (min (cut 47 a0).length (cut 47 a1).length < (cut 47 a1).length)) = false := by simp; omega
    rw [this]; rfl
  simp only [h0, h1, decide_true, cond_true]
  rw [loop_scan0 _ _ hb hn _ (by omega), ← less_scan]
  cases (List.range (min (cut 47 a0).length (cut 47 a1).length)).findSome? _ with
  | some t => simp
  | none =>
    have : ((cut 47 a0).length : Int) < ((cut 47 a1).length : Int) ↔ (cut 47 a0).length < (cut 47 a1).length := by omega
    simp [this]
def pathLess (a b : List UInt8) : Bool := (pathOK a && pathOK b) && lessL (cut 47 a) (cut 47 b)
def slices_CompareS.b1 (a0 : List (List UInt8)) (a1 : List (List UInt8)) : Int → Option (Step (Int) (Int) (Unit)) :=
  fun x11_1 => bif (decide (x11_1 < (a0.length : Int))) then (bif inR x11_1 a0.length then (bif (decide ((a1.length : Int) ≤ x11_1)) then (some (.ret 1)) else (bif inR x11_1 a1.length then (bif (!decide ((cmpS (gt a0 x11_1) (gt a1 x11_1)) = 0)) then (some (.ret (cmpS (gt a0 x11_1) (gt a1 x11_1)))) else (some (.nxt (IntKind.wrap .i64 (x11_1 + 1))))) else none)) else none) else (some (.brk ()))
def slices_CompareS.sh (k : Nat) (a0 : List (List UInt8)) (a1 : List (List UInt8)) : Option (Int) :=
  (loopF (slices_CompareS.b1 a0 a1) k 0).bind fun z => match z with | .inl t => some t | .inr _ => bif (decide ((a0.length : Int) < (a1.length : Int))) then (some (-1)) else (some 0)
theorem slices_CompareS.eq (a0 a1 : List (List UInt8)) (h0 : a0.length ≤ 4611686018427387904) (h1 : a1.length ≤ 4611686018427387904) : ∃ k, slices_CompareS.sh k a0 a1 = some (cmpL a0 a1) := by
  refine ⟨a0.length + 1, ?_⟩
  unfold slices_CompareS.sh
  have hb : ∀ i : Nat, i < a0.length → slices_CompareS.b1 a0 a1 i = some (sc (if a1.length ≤ i then some 1 else if cmpS (a0.getD i default) (a1.getD i default) = 0 then none else some (cmpS (a0.getD i default) (a1.getD i default)) : Option Int) ((i : Int) + 1)) := by
    intro i hi
    simp only [slices_CompareS.b1, lt_nat, hi, decide_true, cond_true, inR_nat hi, getD_gt, wrap_succ hi h0]
    by_cases hm : a1.length ≤ i
    · have : (a1.length : Int) ≤ (i : Int) := by omega
      simp [hm, this]
    · have h2 : ¬ (a1.length : Int) ≤ (i : Int) := by omega
      have h3 : i < a1.length := by omega
      simp only [h2, hm, decide_false, cond_false, inR_nat h3, cond_true, if_false]
      by_cases he : cmpS (a0.getD i default) (a1.getD i default) = 0
      · simp only [he, decide_true, Bool.not_true, if_true, cond_false, sc_none]
      · simp only [he, decide_false, Bool.not_false, if_false, cond_true, sc_some]
  have hn : slices_CompareS.b1 a0 a1 a0.length = some (.brk ()) := by simp [slices_CompareS.b1]
  rw [loop_scan0 _ _ hb hn _ (by omega), ← cmp_scan]
  cases (List.range a0.length).findSome? _ with
  | some t => simp
  | none =>
    by_cases h : a0.length < a1.length
    · have : (a0.length : Int) < (a1.length : Int) := by omega
      simp [h, this]
    · have : ¬ (a0.length : Int) < (a1.length : Int) := by omega
      simp [h, this]
def impl_compare.sh (a0 : List UInt8) (a1 : List UInt8) : Option (Int) :=
  bif decide (a0.length ≤ 1048576) then (bif decide (a1.length ≤ 1048576) then (bif decide ((cut 47 a0).length ≤ 4611686018427387904) then (bif decide ((cut 47 a1).length ≤ 4611686018427387904) then (some (cmpL (cut 47 a0) (cut 47 a1))) else none) else none) else none) else none
theorem impl_compare.eq (a0 a1 : List UInt8) (h0 : a0.length ≤ 1048576) (h1 : a1.length ≤ 1048576) : impl_compare.sh a0 a1 = some (cmpL (cut 47 a0) (cut 47 a1)) := by
  have h2 := cut_len 47 a0
  have h3 := cut_len 47 a1
  have h4 : (cut 47 a0).length ≤ 4611686018427387904 := by omega
  have h5 : (cut 47 a1).length ≤ 4611686018427387904 := by omega
  simp [impl_compare.sh, h0, h1, h4, h5]
def impl_PathLess.sh (a0 : List UInt8) (a1 : List UInt8) : Option (Bool) :=
  ((bif ((pathOK a0) && (pathOK a1)) then (bif decide (a0.length ≤ 1048576) then (bif decide (a1.length ≤ 1048576) then (some (decide ((cmpL (cut 47 a0) (cut 47 a1)) < 0))) else none) else none) else some false)).bind fun z10 => some z10
theorem impl_PathLess.eq (a0 a1 : List UInt8) : impl_PathLess.sh a0 a1 = some (pathLess a0 a1) := by
  unfold impl_PathLess.sh pathLess
  cases hc : (pathOK a0 && pathOK a1) with
  | false => simp
  | true =>
    simp only [Bool.and_eq_true] at hc
    have h0 := pathOK_len hc.1
    have h1 := pathOK_len hc.2
    have h4 : a0.length ≤ 1048576 := by omega
    have h5 : a1.length ≤ 1048576 := by omega
    simp only [h4, h5, decide_true, cond_true, Option.bind_some, cmpL_less, Bool.true_and]
/-! ### the parts of a path -/
def askP (t : List UInt8) : Int := if 65536 < t.length then 2 else if !pathOK t then 10 else 0
def spec_l01Ask.sh (a0 : List UInt8) : Option (Int) :=
  bif (decide (65536 < (a0.length : Int))) then (some 2) else (bif (!(pathOK a0)) then (some 10) else (some 0))
theorem spec_l01Ask.eq (a0 : List UInt8) : spec_l01Ask.sh a0 = some (askP a0) := by
  unfold spec_l01Ask.sh askP
  by_cases h : 65536 < a0.length
  · have : (65536 : Int) < (a0.length : Int) := by omega
    simp [h, this]
  · have : ¬ (65536 : Int) < (a0.length : Int) := by omega
    cases hp : pathOK a0 <;> simp [h, this]
theorem askP_zero {t : List UInt8} (h : askP t = 0) : pathOK t = true ∧ t.length < 36 := by
  unfold askP at h
  split at h
  · cases h
  · split at h
    · cases h
    · rename_i _ h2; have h3 : pathOK t = true := by simpa using h2
      exact ⟨h3, pathOK_len h3⟩

/-! ### marks -/
/-! ### loops, once more -/
theorem find_agree_lt {β : Type} {f g : Nat → Option β} (n : Nat) : ∀ (m i : Nat), i + m = n → (∀ j, j < i → f j = none) → (∀ i, i < n → (∀ j, j < i → f j = none) → g i = f i) → (List.range' i m).findSome? g = (List.range' i m).findSome? f := by
  intro m
  induction m with
  | zero => intro i _ _ _; rfl
  | succ m ih =>
    intro i hn hp h
    simp only [List.range'_succ, List.findSome?_cons, h i (by omega) hp]
    cases hf : f i with
    | some t => rfl
    | none => exact ih (i + 1) (by omega) (fun j hj => by by_cases e : j = i
                                                          · subst e; exact hf
                                                          · exact hp j (by omega)) h
/-- Where the first stands that a test holds of, -1 if nowhere. -/
def findI {α : Type} (q : α → Bool) : List α → Int
  | [] => -1
  | x :: l => if q x then 0 else if findI q l = -1 then -1 else findI q l + 1
theorem idxO_some {α : Type} {p : α → Option Bool} {q : α → Bool} : ∀ {l : List α}, (∀ x ∈ l, p x = some (q x)) → idxO p l = some (findI q l) := by
  intro l
  induction l with
  | nil => intro _; rfl
  | cons x l ih =>
    intro h
    simp only [idxO, findI, h x (by simp), Option.bind_some]
    rw [ih fun y hy => h y (by simp [hy])]
    cases q x <;> simp
theorem findI_ge {α : Type} (q : α → Bool) (l : List α) : -1 ≤ findI q l := (idxO_any (p := fun x => some (q x)) (idxO_some (fun _ _ => rfl))).1
theorem findI_lt {α : Type} (q : α → Bool) : ∀ (l : List α), findI q l < l.length := by
  intro l
  induction l with
  | nil => simp [findI]
  | cons x l ih => simp only [findI, List.length_cons]; split
                   · omega
                   · split <;> omega
theorem findI_any {α : Type} (q : α → Bool) (l : List α) : decide (0 ≤ findI q l) = l.any q := by
  have h1 := (idxO_any (p := fun x => some (q x)) (l := l) (idxO_some (fun _ _ => rfl))).2
  have h2 := anyO_some (p := fun x => some (q x)) (q := q) (l := l) (fun _ _ => rfl)
  rw [h1] at h2; exact Option.some.inj h2
theorem findI_get {α : Type} [Inhabited α] (q : α → Bool) : ∀ (l : List α), 0 ≤ findI q l → inR (findI q l) l.length = true ∧ q (gt l (findI q l)) = true := by
  intro l h
  refine ⟨inR_mk h (findI_lt q l), ?_⟩
  induction l with
  | nil => simp [findI] at h
  | cons x l ih =>
    simp only [findI] at h ⊢
    by_cases hq : q x = true
    · simp [hq, gt]
    · simp only [hq] at h ⊢
      by_cases hm : findI q l = -1
      · simp [hm] at h
      · have hge := findI_ge q l
        have := ih (by omega)
        simp only [hm, if_false, Bool.false_eq_true]
        have e : (findI q l + 1).toNat = (findI q l).toNat + 1 := by omega
        simpa [gt, e] using this
/-- A loop that looks for the first. -/
theorem findI_run {α : Type} [Inhabited α] (q : α → Bool) (l : List α) (b : Int → Option (Step Int Int Unit)) (hb : ∀ i : Nat, i < l.length → b i = bif q (l.getD i default) then some (.ret (i : Int)) else some (.nxt ((i : Int) + 1))) (hn : b l.length = some (.brk ())) :
    loopF b (l.length + 1) 0 = some (if findI q l = -1 then .inr () else .inl (findI q l)) := by
  have := idxO_find (p := fun x => some (q x)) l l.length 0 (by omega) (findI q l) (by simpa using idxO_some (p := fun x => some (q x)) (q := q) (l := l) (fun _ _ => rfl)) b (fun i hi => by rw [hb i hi]; rfl) hn (l.length + 1) (by omega)
  simpa using this
/-! ### made records -/
def zeroR : Rec := ⟨0, [], [], 0, false⟩
def made (r : Rec) : Rec × Int := if recFault r = 0 then (r, 0) else (zeroR, recFault r)
theorem len_dec (l : List UInt8) : decide ((65536 : Int) < (l.length : Int)) = decide (65536 < l.length) := by rw [decide_eq_decide]; omega

/-! ### what is above a path -/
/-- Where the last stroke stands, -1 if nowhere. -/
def lastSlash : List UInt8 → Int
  | [] => -1
  | b :: l => if lastSlash l = -1 then (if bn b = 47 then 0 else -1) else lastSlash l + 1
theorem lastSlash_spec (t : List UInt8) : (lastSlash t = -1 ∧ ∀ j, j < t.length → bn (t.getD j 0) ≠ 47) ∨ ∃ i : Nat, i < t.length ∧ lastSlash t = i ∧ bn (t.getD i 0) = 47 ∧ ∀ j, i < j → j < t.length → bn (t.getD j 0) ≠ 47 := by
  induction t with
  | nil => left; exact ⟨rfl, by simp⟩
  | cons b l ih =>
    rcases ih with ⟨h1, h2⟩ | ⟨i, hi, h1, h2, h3⟩
    · by_cases hb : bn b = 47
      · right
        refine ⟨0, by simp, by simp [lastSlash, h1, hb], by simpa using hb, ?_⟩
        intro j hj hl
        obtain ⟨j, rfl⟩ : ∃ k, j = k + 1 := ⟨j - 1, by omega⟩
        simpa using h2 j (by simpa using hl)
      · left
        refine ⟨by simp [lastSlash, h1, hb], ?_⟩
        intro j hl
        cases j with
        | zero => simpa using hb
        | succ j => simpa using h2 j (by simpa using hl)
    · right
      refine ⟨i + 1, by simpa using hi, ?_, by simpa using h2, ?_⟩
      · have : lastSlash l ≠ -1 := by rw [h1]; omega
        simp only [lastSlash, this, if_false, h1]; omega
      · intro j hj hl
        obtain ⟨j, rfl⟩ : ∃ k, j = k + 1 := ⟨j - 1, by omega⟩
        simpa using h3 j (by omega) (by simpa using hl)
theorem lastSlash_no {t : List UInt8} (h : ∀ j, j < t.length → bn (t.getD j 0) ≠ 47) : lastSlash t = -1 := by
  rcases lastSlash_spec t with ⟨h1, _⟩ | ⟨i, hi, _, h2, _⟩
  · exact h1
  · exact absurd h2 (h i hi)
theorem lastSlash_of {t : List UInt8} {i : Nat} (hi : i < t.length) (h : bn (t.getD i 0) = 47) (hn : ∀ j, i < j → j < t.length → bn (t.getD j 0) ≠ 47) : lastSlash t = i := by
  rcases lastSlash_spec t with ⟨_, h2⟩ | ⟨k, hk, h1, h2, h3⟩
  · exact absurd h (h2 i hi)
  · by_cases e : i = k
    · rw [h1, e]
    · by_cases hlt : i < k
      · exact absurd h2 (hn k hlt hk)
      · exact absurd h (h3 i (by omega) hi)
theorem lastSlash_ge (t : List UInt8) : -1 ≤ lastSlash t := by
  rcases lastSlash_spec t with ⟨h, _⟩ | ⟨i, _, h, _⟩ <;> omega
theorem lastSlash_lt (t : List UInt8) : lastSlash t < t.length := by
  rcases lastSlash_spec t with ⟨h, _⟩ | ⟨i, hi, h, _⟩ <;> omega
/-- What is above; empty of a path of one part. -/
def parentP (t : List UInt8) : List UInt8 := t.take (lastSlash t).toNat
theorem parentP_len (t : List UInt8) : (parentP t).length ≤ t.length := by simp [parentP]; omega
def spec_l01Parent.b1 (a0 : List UInt8) : Int → Option (Step (List UInt8) (Int) (Unit)) :=
  fun x3_1 => bif (decide (0 ≤ x3_1)) then (bif inR x3_1 a0.length then (bif (decide ((byt a0 x3_1) = 47)) then (bif inS 0 x3_1 (a0.length : Int) then (some (.ret (sub a0 0 x3_1))) else none) else (some (.nxt (IntKind.wrap .i64 (x3_1 - 1))))) else none) else (some (.brk ()))
def spec_l01Parent.sh (k : Nat) (a0 : List UInt8) : Option (List UInt8) :=
  (loopF (spec_l01Parent.b1 a0) k (IntKind.wrap .i64 ((a0.length : Int) - 1))).bind fun z => match z with | .inl t => some t | .inr _ => some ([] : List UInt8)
theorem spec_l01Parent.eq (a0 : List UInt8) (h : a0.length ≤ 4611686018427387904) : ∃ k, spec_l01Parent.sh k a0 = some (parentP a0) := by
  refine ⟨a0.length + 1, ?_⟩
  unfold spec_l01Parent.sh
  rw [wrap_small (n := (a0.length : Int) - 1) (by omega) (by omega)]
  have key : ∀ (m k : Nat), m ≤ a0.length → m < k → (∀ j, m ≤ j → j < a0.length → bn (a0.getD j 0) ≠ 47) →
      loopF (spec_l01Parent.b1 a0) k ((m : Int) - 1) = some (if lastSlash a0 = -1 then .inr () else .inl (parentP a0)) := by
    intro m
    induction m with
    | zero =>
      intro k _ hk hn
      obtain ⟨k, rfl⟩ : ∃ j, k = j + 1 := ⟨k - 1, by omega⟩
      have := lastSlash_no fun j hj => hn j (by omega) hj
      have h0 : ¬ (0 : Int) ≤ ((0 : Nat) : Int) - 1 := by omega
      simp [loopF, spec_l01Parent.b1, this]
    | succ m ih =>
      intro k hm hk hn
      obtain ⟨k, rfl⟩ : ∃ j, k = j + 1 := ⟨k - 1, by omega⟩
      have hlt : m < a0.length := by omega
      have e : ((m + 1 : Nat) : Int) - 1 = (m : Int) := by omega
      rw [e]
      have h0 : (0 : Int) ≤ (m : Int) := by omega
      simp only [loopF, spec_l01Parent.b1, h0, decide_true, cond_true, inR_nat hlt, byt_nat]
      by_cases hb : bn (a0.getD m 0) = 47
      · have hl := lastSlash_of hlt hb fun j hj hj2 => hn j (by omega) hj2
        have hne : lastSlash a0 ≠ -1 := by omega
        simp only [hb, decide_true, cond_true, inS_mk (l := 0) (h := (m : Int)) (n := (a0.length : Int)) (by omega) (by omega) (by omega), Option.bind_some, hne, if_false]
        simp [sub, parentP, hl]
      · simp only [hb, decide_false, cond_false, Option.bind_some]
        rw [wrap_small (n := (m : Int) - 1) (by omega) (by omega)]
        exact ih k (by omega) (by omega) fun j hj hj2 => by
          by_cases e : j = m
          · subst e; exact hb
          · exact hn j (by omega) hj2
  rw [key a0.length (a0.length + 1) (by omega) (by omega) (fun j h1 h2 => by omega)]
  by_cases hl : lastSlash a0 = -1
  · simp [hl, parentP]
  · simp [hl]
def parentOf (t : List UInt8) : List UInt8 × Int := if askP t = 0 then (parentP t, 0) else ([], askP t)
def spec_ParentOf.sh (a0 : List UInt8) : Option (List UInt8 × Int) :=
  bif (decide (65536 < (a0.length : Int))) then (some (([] : List UInt8), 2)) else (bif (!decide ((askP a0) = 0)) then (some (([] : List UInt8), (askP a0))) else (bif decide (a0.length ≤ 4611686018427387904) then (some ((parentP a0), 0)) else none))
theorem spec_ParentOf.eq (a0 : List UInt8) : spec_ParentOf.sh a0 = some ((parentOf a0).1, (parentOf a0).2) := by
  unfold spec_ParentOf.sh parentOf
  by_cases h : (65536 : Int) < (a0.length : Int)
  · have h2 : 65536 < a0.length := by omega
    have : askP a0 = 2 := by simp [askP, h2]
    simp [h, this]
  · by_cases h2 : askP a0 = 0
    · have := (askP_zero h2).2
      have h3 : a0.length ≤ 4611686018427387904 := by omega
      simp [h, h2, h3]
    · simp [h, h2]
def impl_parent.sh (a0 : List UInt8) : Option (List UInt8) :=
  bif decide (a0.length ≤ 1048576) then (bif decide (([47] : List UInt8) = [47]) then (bif inS 0 (if ((lastSlash a0) < 0 : Prop) then 0 else (lastSlash a0)) (a0.length : Int) then (some (sub a0 0 (if ((lastSlash a0) < 0 : Prop) then 0 else (lastSlash a0)))) else none) else none) else none
theorem impl_parent.eq (a0 : List UInt8) (h : a0.length ≤ 1048576) : impl_parent.sh a0 = some (parentP a0) := by
  unfold impl_parent.sh
  have hge := lastSlash_ge a0
  have hlt := lastSlash_lt a0
  have hm : (if (lastSlash a0 < 0 : Prop) then 0 else lastSlash a0) = ((lastSlash a0).toNat : Int) := by split <;> omega
  simp only [h, decide_true, cond_true, hm]
  rw [inS_mk (l := 0) (h := ((lastSlash a0).toNat : Int)) (n := (a0.length : Int)) (by omega) (by omega) (by omega)]
  simp [sub, parentP]
  omega

/-! ### layers: sizes, copies, places -/
/-- Where the record of a path stands, -1 if nowhere. -/
def findR (l : List Rec) (p : List UInt8) : Int := findI (fun r => decide (r.path = p)) l
def spec_l03At.b1 (a0 : List Rec) (a1 : List UInt8) : Int → Option (Step (Int) (Int) (Unit)) :=
  fun x5_1 => bif (decide (x5_1 < (a0.length : Int))) then (bif inR x5_1 a0.length then (bif (decide (((gt a0 x5_1).path) = a1)) then (some (.ret x5_1)) else (some (.nxt (IntKind.wrap .i64 (x5_1 + 1))))) else none) else (some (.brk ()))
def spec_l03At.sh (k : Nat) (a0 : List Rec) (a1 : List UInt8) : Option (Int) :=
  (loopF (spec_l03At.b1 a0 a1) k 0).bind fun z => match z with | .inl t => some t | .inr _ => some (-1)
theorem spec_l03At.eq (a0 : List Rec) (a1 : List UInt8) (h : a0.length ≤ 1048576) : ∃ k, spec_l03At.sh k a0 a1 = some (findR a0 a1) := by
  refine ⟨a0.length + 1, ?_⟩
  unfold spec_l03At.sh findR
  rw [findI_run (fun r : Rec => decide (r.path = a1)) a0 (spec_l03At.b1 a0 a1) (fun i hi => by
    simp only [spec_l03At.b1, lt_nat, hi, decide_true, cond_true, inR_nat hi, getD_gt, wrap_succ hi (by omega)]
    rfl) (by simp [spec_l03At.b1])]
  by_cases hm : findI (fun r : Rec => decide (r.path = a1)) a0 = -1
  · simp [hm]
  · simp [hm]
def impl_isLongListR.sh (a0 : List Rec) : Option (Bool) :=
  some (decide (4096 < (a0.length : Int)))
theorem impl_isLongListR.eq (a0 : List Rec) : impl_isLongListR.sh a0 = some (decide (4096 < a0.length)) := by
  have : (4096 : Int) < (a0.length : Int) ↔ 4096 < a0.length := by omega
  simp [impl_isLongListR.sh, this]
def impl_find_1.sh (a0 : Rec) (a1 : List UInt8) : Option (Bool) :=
  some (decide (a0.path = a1))
theorem impl_find_1.eq (a0 : Rec) (a1 : List UInt8) : impl_find_1.sh a0 a1 = some (decide (a0.path = a1)) := rfl
def slices_IndexFuncR.b1 (a0 : List Rec) (a1 : Rec → Option Bool) : Int → Option (Step (Int) (Int) (Unit)) :=
  fun x8_1 => bif (decide (x8_1 < (a0.length : Int))) then (bif inR x8_1 a0.length then ((a1 (gt a0 x8_1)).bind fun z22 => bif z22 then (some (.ret x8_1)) else (some (.nxt (IntKind.wrap .i64 (x8_1 + 1))))) else none) else (some (.brk ()))
def slices_IndexFuncR.sh (k : Nat) (a0 : List Rec) (a1 : Rec → Option Bool) : Option (Int) :=
  (loopF (slices_IndexFuncR.b1 a0 a1) k 0).bind fun z => match z with | .inl t => some t | .inr _ => some (-1)
theorem slices_IndexFuncR.eq (a0 : List Rec) (a1 : Rec → Option Bool) (h : a0.length ≤ 4611686018427387904) {r : Int} (H : idxO a1 a0 = some r) : ∃ k, slices_IndexFuncR.sh k a0 a1 = some r := by
  refine ⟨a0.length + 1, ?_⟩
  have := idxO_find a0 a0.length 0 (by omega) r (by simpa using H) (slices_IndexFuncR.b1 a0 a1) (fun i hi => by
    simp only [slices_IndexFuncR.b1, lt_nat, hi, decide_true, cond_true, inR_nat hi, getD_gt, wrap_succ hi h]) (by simp [slices_IndexFuncR.b1]) (a0.length + 1) (by omega)
  simp only [Int.natCast_zero] at this
  unfold slices_IndexFuncR.sh
  rw [this]
  by_cases hr : r = -1
  · simp [hr]
  · simp [hr]
def impl_find.sh (a0 : List Rec) (a1 : List UInt8) : Option (Int) :=
  bif decide (a0.length ≤ 4611686018427387904) then (((idxO (fun (x0_ : Rec) => some (decide (x0_.path = a1))) a0)).bind fun z12 => some z12) else none
theorem impl_find.eq (a0 : List Rec) (a1 : List UInt8) (h : a0.length ≤ 1048576) : impl_find.sh a0 a1 = some (findR a0 a1) := by
  have h1 : a0.length ≤ 4611686018427387904 := by omega
  have h2 := idxO_some (p := fun (x0_ : Rec) => some (decide (x0_.path = a1))) (q := fun r => decide (r.path = a1)) (l := a0) (fun _ _ => rfl)
  simp only [impl_find.sh, h1, decide_true, cond_true, h2, Option.bind_some, findR]
theorem eq_run {α : Type} [DecidableEq α] [Inhabited α] (a b : List α) (f : Int → Option (Step Bool Int Unit)) (hl : a.length = b.length)
    (hb : ∀ i : Nat, i < a.length → f i = some (if a.getD i default = b.getD i default then .nxt ((i : Int) + 1) else .ret false)) (hn : f a.length = some (.brk ())) :
    loopF f (a.length + 1) 0 = some (if a = b then .inr () else .inl false) := by
  have hb' : ∀ i : Nat, i < a.length → f i = some (sc (if !decide (a.getD i default = b.getD i default) then some false else none : Option Bool) ((i : Int) + 1)) := by
    intro i hi
    rw [hb i hi]
    by_cases he : a.getD i default = b.getD i default
    · simp only [he, if_true, decide_true, Bool.not_true, Bool.false_eq_true, if_false, sc_none]
    · simp only [he, if_false, decide_false, Bool.not_false, if_true, sc_some]
  rw [loop_scan0 a.length _ hb' hn (a.length + 1) (by omega), list_ne_any a b hl]
  by_cases he : a = b <;> simp [he]
def slices_EqualR.b1 (a0 : List Rec) (a1 : List Rec) : Int → Option (Step (Bool) (Int) (Unit)) :=
  fun x13_2 => bif (decide (x13_2 < (a0.length : Int))) then (bif inR x13_2 a0.length then (bif inR x13_2 a1.length then (bif (!decide ((gt a0 x13_2) = (gt a1 x13_2))) then (some (.ret false)) else (some (.nxt (IntKind.wrap .i64 (x13_2 + 1))))) else none) else none) else (some (.brk ()))
def slices_EqualR.sh (k : Nat) (a0 : List Rec) (a1 : List Rec) : Option (Bool) :=
  bif (!decide ((a0.length : Int) = (a1.length : Int))) then (some false) else ((loopF (slices_EqualR.b1 a0 a1) k 0).bind fun z => match z with | .inl t => some t | .inr _ => some true)
theorem slices_EqualR.eq (a0 a1 : List Rec) (h : a0.length ≤ 1048576) : ∃ k, slices_EqualR.sh k a0 a1 = some (decide (a0 = a1)) := by
  refine ⟨a0.length + 1, ?_⟩
  unfold slices_EqualR.sh
  by_cases hl : a0.length = a1.length
  · rw [eq_run a0 a1 (slices_EqualR.b1 a0 a1) hl (fun i hi => by
      have hi2 : i < a1.length := by omega
      simp only [slices_EqualR.b1, lt_nat, hi, decide_true, cond_true, inR_nat hi, inR_nat hi2, getD_gt, wrap_succ hi (by omega)]
      by_cases he : a0.getD i default = a1.getD i default
      · simp only [he, decide_true, Bool.not_true, cond_false, if_true]
      · simp only [he, decide_false, Bool.not_false, cond_true, if_false]) (by simp [slices_EqualR.b1])]
    have : (a0.length : Int) = (a1.length : Int) := by omega
    by_cases he : a0 = a1 <;> simp [this, he]
  · have h1 : ¬ (a0.length : Int) = (a1.length : Int) := by omega
    have h2 : a0 ≠ a1 := fun e => hl (by rw [e])
    simp [h1, h2]

/-! ### what is wrong with a layer -/
/-- What is wrong with the record at place i, if nothing is wrong ahead of it. -/
def codeAt (l : List Rec) (i : Nat) : Int :=
  if i = 16 then 6 else if recFault (l.getD i default) ≠ 0 then recFault (l.getD i default)
  else if 0 < i ∧ (l.getD i default).path = (l.getD (i - 1) default).path then 18
  else if 0 < i ∧ lessL (cut 47 (l.getD (i - 1) default).path) (cut 47 (l.getD i default).path) = false then 11
  else if parentP (l.getD i default).path = [] then 0
  else if findR (l.take i) (parentP (l.getD i default).path) < 0 then 12
  else if (gt l (findR (l.take i) (parentP (l.getD i default).path))).kind ≠ 3 then 13 else 0
def layerFault (l : List Rec) : Int × Int := match (List.range l.length).findSome? (fun i => if codeAt l i = 0 then none else some ((i : Int), codeAt l i)) with
  | some x => x
  | none => (0, 0)
def layerFaultL (l : List Rec) : Int × Int := if 4096 < l.length then (0, 2) else layerFault l
theorem gt_nat {α : Type} [Inhabited α] (l : List α) (i : Nat) : gt l (i : Int) = l.getD i default := rfl
theorem getD_mem {l : List Rec} {i : Nat} (h : i < l.length) : l.getD i default ∈ l := by
  have : l.getD i default = l[i] := by simp [List.getD_eq_getElem?_getD, List.getElem?_eq_getElem h]
  rw [this]; exact List.getElem_mem h
theorem findR_take {l : List Rec} {p : List UInt8} {i : Nat} (hi : i ≤ l.length) (h : ¬ findR (l.take i) p < 0) : inR (findR (l.take i) p) l.length = true := by
  have h1 : findR (l.take i) p < (l.take i).length := findI_lt _ _
  have h2 : (l.take i).length ≤ i := by simp; omega
  exact inR_mk (by omega) (by omega)
def faultAt (l : List Rec) (i : Int) : Int :=
  if 16 ≤ i then 6 else if recFault (gt l i) ≠ 0 then recFault (gt l i) else if 0 < i ∧ (gt l (i - 1)).path = (gt l i).path then 18
  else if 0 < i ∧ pathLess (gt l (i - 1)).path (gt l i).path = false then 11 else if parentP (gt l i).path = [] then 0
  else if findR (l.take i.toNat) (parentP (gt l i).path) < 0 then 12 else if (gt l (findR (l.take i.toNat) (parentP (gt l i).path))).kind ≠ 3 then 13 else 0
def impl_faultAt.sh (a0 : List Rec) (a1 : Int) : Option (Int) :=
  bif inR a1 a0.length then (bif decide (((gt a0 a1).path).length ≤ 1048576) then ((bif (!decide ((parentP ((gt a0 a1).path)) = ([] : List UInt8))) then (bif inS 0 a1 (a0.length : Int) then (bif decide ((sub a0 0 a1).length ≤ 1048576) then (some (.inr (findR (sub a0 0 a1) (parentP ((gt a0 a1).path))))) else none) else none) else (some (.inr 0)) : Option ((Int) ⊕ (Int))).bind fun z => match z with | .inl t => some t | .inr x6_19 => bif (!(decide (0 < a1)) || (inR (if ((IntKind.wrap .i64 (a1 - 1)) < 0 : Prop) then 0 else (IntKind.wrap .i64 (a1 - 1))) a0.length)) then (bif (!(decide (0 < a1)) || (inR (if ((IntKind.wrap .i64 (a1 - 1)) < 0 : Prop) then 0 else (IntKind.wrap .i64 (a1 - 1))) a0.length)) then (bif decide (((gt a0 a1).path).length ≤ 1048576) then (bif (!(!decide ((parentP ((gt a0 a1).path)) = ([] : List UInt8))) || (inR (if (x6_19 < 0 : Prop) then 0 else x6_19) a0.length)) then (bif decide (([.inl (!(decide (recFault (gt a0 a1) = 0))), .inr (recFault (gt a0 a1)), .inl ((decide (0 < a1)) && (decide (((gt a0 (if ((IntKind.wrap .i64 (a1 - 1)) < 0 : Prop) then 0 else (IntKind.wrap .i64 (a1 - 1)))).path) = ((gt a0 a1).path)))), .inr 18, .inl ((decide (0 < a1)) && (!(pathLess ((gt a0 (if ((IntKind.wrap .i64 (a1 - 1)) < 0 : Prop) then 0 else (IntKind.wrap .i64 (a1 - 1)))).path) ((gt a0 a1).path)))), .inr 11, .inl (decide (x6_19 < 0)), .inr 12, .inl ((!decide ((parentP ((gt a0 a1).path)) = ([] : List UInt8))) && (!decide (((gt a0 (if (x6_19 < 0 : Prop) then 0 else x6_19)).kind) = 3))), .inr 13] : List (Bool ⊕ Int)).length ≤ 4611686018427387904) then (bif decide (([.inl (decide (16 ≤ a1)), .inr 6, .inl true, .inr (firstOf ([.inl (!(decide (recFault (gt a0 a1) = 0))), .inr (recFault (gt a0 a1)), .inl ((decide (0 < a1)) && (decide (((gt a0 (if ((IntKind.wrap .i64 (a1 - 1)) < 0 : Prop) then 0 else (IntKind.wrap .i64 (a1 - 1)))).path) = ((gt a0 a1).path)))), .inr 18, .inl ((decide (0 < a1)) && (!(pathLess ((gt a0 (if ((IntKind.wrap .i64 (a1 - 1)) < 0 : Prop) then 0 else (IntKind.wrap .i64 (a1 - 1)))).path) ((gt a0 a1).path)))), .inr 11, .inl (decide (x6_19 < 0)), .inr 12, .inl ((!decide ((parentP ((gt a0 a1).path)) = ([] : List UInt8))) && (!decide (((gt a0 (if (x6_19 < 0 : Prop) then 0 else x6_19)).kind) = 3))), .inr 13] : List (Bool ⊕ Int)))] : List (Bool ⊕ Int)).length ≤ 4611686018427387904) then (some (firstOf ([.inl (decide (16 ≤ a1)), .inr 6, .inl true, .inr (firstOf ([.inl (!(decide (recFault (gt a0 a1) = 0))), .inr (recFault (gt a0 a1)), .inl ((decide (0 < a1)) && (decide (((gt a0 (if ((IntKind.wrap .i64 (a1 - 1)) < 0 : Prop) then 0 else (IntKind.wrap .i64 (a1 - 1)))).path) = ((gt a0 a1).path)))), .inr 18, .inl ((decide (0 < a1)) && (!(pathLess ((gt a0 (if ((IntKind.wrap .i64 (a1 - 1)) < 0 : Prop) then 0 else (IntKind.wrap .i64 (a1 - 1)))).path) ((gt a0 a1).path)))), .inr 11, .inl (decide (x6_19 < 0)), .inr 12, .inl ((!decide ((parentP ((gt a0 a1).path)) = ([] : List UInt8))) && (!decide (((gt a0 (if (x6_19 < 0 : Prop) then 0 else x6_19)).kind) = 3))), .inr 13] : List (Bool ⊕ Int)))] : List (Bool ⊕ Int)))) else none) else none) else none) else none) else none) else none) else none) else none
theorem firstOf_c (b : Bool) (n : Int) (l : List (Bool ⊕ Int)) : firstOf (.inl b :: .inr n :: l) = if b then n else firstOf l := rfl
theorem impl_faultAt.eq (a0 : List Rec) (a1 : Int) (h0 : a0.length ≤ 1048576) (h1 : ∀ x ∈ a0, x.path.length ≤ 1048576) (h2 : inR a1 a0.length = true) : impl_faultAt.sh a0 a1 = some (faultAt a0 a1) := by
  obtain ⟨i, rfl⟩ : ∃ i : Nat, a1 = i := ⟨a1.toNat, by have := inR_lo h2; omega⟩
  have hi : i < a0.length := by have := inR_hi h2; omega
  have hp := h1 _ (getD_mem hi)
  obtain ⟨r, hr⟩ : ∃ r, a0.getD i default = r := ⟨_, rfl⟩
  have hs : sub a0 0 (i : Int) = a0.take i := by simp [sub]
  have hl : (a0.take i).length ≤ 1048576 := by simp; omega
  have hm : (if (IntKind.wrap .i64 ((i : Int) - 1) < 0 : Prop) then (0 : Int) else IntKind.wrap .i64 ((i : Int) - 1)) = ((i - 1 : Nat) : Int) := by
    rw [wrap_small (by omega) (by omega)]; split <;> omega
  have hi1 : i - 1 < a0.length := by omega
  obtain ⟨q, hq⟩ : ∃ q, a0.getD (i - 1) default = q := ⟨_, rfl⟩
  have hq2 : ∀ _ : 0 < i, gt a0 ((i : Int) - 1) = q := fun h => by
    have : ((i : Int) - 1) = ((i - 1 : Nat) : Int) := by omega
    rw [this, gt_nat, hq]
  rw [hr] at hp
  have e16 : decide ((16 : Int) ≤ (i : Int)) = decide (16 ≤ i) := by rw [decide_eq_decide]; omega
  have epos : decide ((0 : Int) < (i : Int)) = decide (0 < i) := by rw [decide_eq_decide]; omega
  have e16' : ((16 : Int) ≤ (i : Int)) = (16 ≤ i) := propext (by omega)
  have epos' : ((0 : Int) < (i : Int)) = (0 < i) := propext (by omega)
  unfold impl_faultAt.sh faultAt
  simp only [inR_nat hi, gt_nat, hr, hp, hs, hl, hm, hq, inR_nat hi1, e16, epos, decide_true, cond_true, Bool.or_true, Int.toNat_natCast, inS_mk (l := 0) (h := (i : Int)) (n := (a0.length : Int)) (by omega) (by omega) (by omega), firstOf_c, List.length_cons, List.length_nil]
  simp only [e16', epos']
  by_cases hpp : parentP r.path = []
  · have h00 : inR (if (0 : Int) < 0 then 0 else 0) a0.length = true := inR_mk (by omega) (by simp; omega)
    by_cases c0 : 0 < i
    · simp only [hq2 c0]
      by_cases c16 : 16 ≤ i <;> by_cases cf : recFault r = 0 <;> by_cases cq : q.path = r.path <;> cases cl : pathLess q.path r.path <;> simp [hpp, c16, cf, cq, cl, c0, firstOf]
    · by_cases c16 : 16 ≤ i <;> by_cases cf : recFault r = 0 <;> simp [hpp, c16, cf, c0, firstOf]
  · by_cases ck : findR (a0.take i) (parentP r.path) < 0
    · have h00 : inR 0 a0.length = true := inR_mk (by omega) (by omega)
      by_cases c0 : 0 < i
      · simp only [hq2 c0]
        by_cases c16 : 16 ≤ i <;> by_cases cf : recFault r = 0 <;> by_cases cq : q.path = r.path <;> cases cl : pathLess q.path r.path <;> simp [hpp, c16, cf, cq, cl, c0, ck, h00]
      · by_cases c16 : 16 ≤ i <;> by_cases cf : recFault r = 0 <;> simp [hpp, c16, cf, c0, ck, h00]
    · have hk := findR_take (Nat.le_of_lt hi) ck
      by_cases cd : (gt a0 (findR (a0.take i) (parentP r.path))).kind = 3
      · by_cases c0 : 0 < i
        · simp only [hq2 c0]
          by_cases c16 : 16 ≤ i <;> by_cases cf : recFault r = 0 <;> by_cases cq : q.path = r.path <;> cases cl : pathLess q.path r.path <;> simp [hpp, c16, cf, cq, cl, c0, ck, hk, cd, firstOf]
        · by_cases c16 : 16 ≤ i <;> by_cases cf : recFault r = 0 <;> simp [hpp, c16, cf, c0, ck, hk, cd, firstOf]
      · by_cases c0 : 0 < i
        · simp only [hq2 c0]
          by_cases c16 : 16 ≤ i <;> by_cases cf : recFault r = 0 <;> by_cases cq : q.path = r.path <;> cases cl : pathLess q.path r.path <;> simp [hpp, c16, cf, cq, cl, c0, ck, hk, cd, firstOf]
        · by_cases c16 : 16 ≤ i <;> by_cases cf : recFault r = 0 <;> simp [hpp, c16, cf, c0, ck, hk, cd, firstOf]

end Go.UL
