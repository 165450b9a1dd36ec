/- Plain Lean: what the functions compute. -/
import Derived.Test.YthpjkenkbfkdhaaGreatDoorJP2
set_option linter.unusedVariables false
set_option linter.unusedSimpArgs false
namespace Go.UL
open Go.RowKit
/-! ### records -/
def szRec (r : Rec) (left : Int) : Int := if left - (r.path.length : Int) < 0 then -1 else if left - (r.path.length : Int) - (r.body.length : Int) < 0 then -1 else left - (r.path.length : Int) - (r.body.length : Int)
def laws_szRecord.sh (a0 : Rec) (a1 : Int) : Option (Int) :=
  bif (decide ((IntKind.wrap .i64 (a1 - (a0.path.length : Int))) < 0)) then (some (-1)) else (bif (decide ((IntKind.wrap .i64 ((IntKind.wrap .i64 (a1 - (a0.path.length : Int))) - (a0.body.length : Int))) < 0)) then (some (-1)) else (some (IntKind.wrap .i64 ((IntKind.wrap .i64 (a1 - (a0.path.length : Int))) - (a0.body.length : Int)))))
theorem laws_szRecord.eq (a0 : Rec) (a1 : Int) (h0 : 0 ≤ a1) (h1 : a1 ≤ 1048576) (h2 : a0.path.length ≤ 9223372036854775807) (h3 : a0.body.length ≤ 9223372036854775807) : laws_szRecord.sh a0 a1 = some (szRec a0 a1) := by
  unfold laws_szRecord.sh szRec
  rw [wrap_small (n := a1 - (a0.path.length : Int)) (by omega) (by omega)]
  by_cases h : a1 - (a0.path.length : Int) < 0
  · simp [h]
  · rw [wrap_small (n := a1 - (a0.path.length : Int) - (a0.body.length : Int)) (by omega) (by omega)]
    by_cases h' : a1 - (a0.path.length : Int) - (a0.body.length : Int) < 0
    · simp [h, h']
    · simp [h, h']
def laws_toRecord.sh (a0 : Rec) : Option (Rec) :=
  some a0
theorem laws_toRecord.eq (a0 : Rec) : laws_toRecord.sh a0 = some a0 := rfl
/-- The first thing that is wrong with a record. -/
def recFault (r : Rec) : Int :=
  if !within r.kind 1 4 then 9 else if !pathOK r.path then 10
  else if decide (20 < r.body.length) || (decide (r.kind = 2) && decide (r.body = [])) then 8
  else if ((decide (r.kind = 3) || decide (r.kind = 4)) && !decide (r.body = [])) || (!decide (r.kind = 3) && r.opq) then 3
  else if !within r.mode 0 511 || ((decide (r.kind = 2) || decide (r.kind = 4)) && !decide (r.mode = 0)) then 4 else 0
def spec_l02Fault.sh (a0 : Rec) : Option (Int) :=
  bif (!(within a0.kind 1 4)) then (some 9) else (bif (!(pathOK a0.path)) then (some 10) else (bif ((decide (20 < (a0.body.length : Int))) || ((decide (a0.kind = 2)) && (decide (a0.body = ([] : List UInt8))))) then (some 8) else (bif (((!decide (a0.body = ([] : List UInt8))) && ((decide (a0.kind = 3)) || (decide (a0.kind = 4)))) || (a0.opq && (!(decide (a0.kind = 3))))) then (some 3) else (bif ((!(within a0.mode 0 511)) || ((!decide (a0.mode = 0)) && ((decide (a0.kind = 4)) || (decide (a0.kind = 2))))) then (some 4) else (some 0)))))
theorem bif_if {α : Type} (b : Bool) (x y : α) : (bif b then x else y) = if b then x else y := by cases b <;> rfl
theorem spec_l02Fault.eq (a0 : Rec) : spec_l02Fault.sh a0 = some (recFault a0) := by
  unfold spec_l02Fault.sh recFault
  have e1 : decide ((20 : Int) < (a0.body.length : Int)) = decide (20 < a0.body.length) := by rw [decide_eq_decide]; omega
  have e2 : (((!decide (a0.body = ([] : List UInt8))) && ((decide (a0.kind = 3)) || (decide (a0.kind = 4)))) || (a0.opq && (!(decide (a0.kind = 3))))) = (((decide (a0.kind = 3) || decide (a0.kind = 4)) && !decide (a0.body = [])) || (!decide (a0.kind = 3) && a0.opq)) := by
    rw [Bool.and_comm (!decide (a0.body = ([] : List UInt8))), Bool.and_comm a0.opq]
  have e3 : ((!(within a0.mode 0 511)) || ((!decide (a0.mode = 0)) && ((decide (a0.kind = 4)) || (decide (a0.kind = 2))))) = (!within a0.mode 0 511 || ((decide (a0.kind = 2) || decide (a0.kind = 4)) && !decide (a0.mode = 0))) := by
    rw [Bool.and_comm (!decide (a0.mode = 0)), Bool.or_comm (decide (a0.kind = 4))]
  rw [e1, e2, e3]
  simp only [bif_if]
  split
  · rfl
  · split
    · rfl
    · split
      · rfl
      · split
        · rfl
        · split <;> rfl
def impl_RecordFault.sh (a0 : Rec) : Option (Int) :=
  bif decide (([.inl (!(within a0.kind 1 4)), .inr 9, .inl (!(pathOK a0.path)), .inr 10, .inl ((decide (20 < (a0.body.length : Int))) || ((decide (a0.kind = 2)) && (decide (a0.body = ([] : List UInt8))))), .inr 8, .inl ((((decide (a0.kind = 3)) || (decide (a0.kind = 4))) && (!decide (a0.body = ([] : List UInt8)))) || ((!decide (a0.kind = 3)) && a0.opq)), .inr 3, .inl ((!(within a0.mode 0 511)) || (((decide (a0.kind = 2)) || (decide (a0.kind = 4))) && (!decide (a0.mode = 0)))), .inr 4] : List (Bool ⊕ Int)).length ≤ 4611686018427387904) then (some (firstOf ([.inl (!(within a0.kind 1 4)), .inr 9, .inl (!(pathOK a0.path)), .inr 10, .inl ((decide (20 < (a0.body.length : Int))) || ((decide (a0.kind = 2)) && (decide (a0.body = ([] : List UInt8))))), .inr 8, .inl ((((decide (a0.kind = 3)) || (decide (a0.kind = 4))) && (!decide (a0.body = ([] : List UInt8)))) || ((!decide (a0.kind = 3)) && a0.opq)), .inr 3, .inl ((!(within a0.mode 0 511)) || (((decide (a0.kind = 2)) || (decide (a0.kind = 4))) && (!decide (a0.mode = 0)))), .inr 4] : List (Bool ⊕ Int)))) else none
theorem impl_RecordFault.eq (a0 : Rec) : impl_RecordFault.sh a0 = some (recFault a0) := by
  unfold impl_RecordFault.sh recFault
  have e1 : decide ((20 : Int) < (a0.body.length : Int)) = decide (20 < a0.body.length) := by rw [decide_eq_decide]; omega
  rw [e1]; simp only [List.length_cons, List.length_nil]
  simp only [firstOf, anyB, anyI]
  rfl
def impl_RecordOK.sh (a0 : Rec) : Option (Bool) :=
  some (decide ((recFault a0) = 0))
theorem impl_RecordOK.eq (a0 : Rec) : impl_RecordOK.sh a0 = some (decide (recFault a0 = 0)) := rfl
/-! ### below, joined -/
def belowP (a b : List UInt8) : Bool := (b ++ [47]).isPrefixOf a
theorem pathOK_len {t : List UInt8} (h : pathOK t = true) : t.length < 36 := by simp [pathOK] at h; exact h.1
/-! ### less -/
theorem lt8_irrefl (a : List UInt8) : lt8 a a = false := by
  induction a with
  | nil => rfl
  | cons x a ih => simp only [lt8] at ih ⊢; simp [Op.bytesLess, ih]
def lessL : List (List UInt8) → List (List UInt8) → Bool
  | x :: xs, y :: ys => if x = y then lessL xs ys else lt8 x y
  | [], _ :: _ => true
  | _, [] => false
def cmpS (x y : List UInt8) : Int := if lt8 x y then -1 else if x = y then 0 else 1
def cmpL : List (List UInt8) → List (List UInt8) → Int
  | x :: xs, y :: ys => if cmpS x y = 0 then cmpL xs ys else cmpS x y
  | [], _ :: _ => -1
  | _ :: _, [] => 1
  | [], [] => 0
theorem cmpL_less : ∀ a b, decide (cmpL a b < 0) = lessL a b := by
  intro a
  induction a with
  | nil => intro b; cases b <;> simp [cmpL, lessL]
  | cons x a ih =>
    intro b
    cases b with
    | nil => simp [cmpL, lessL]
    | cons y b =>
      unfold cmpL lessL cmpS
      by_cases h : x = y
      · subst h; simp [lt8_irrefl, ih]
      · cases hl : lt8 x y <;> simp [h]
def cmp_isNaNS.sh (a0 : List UInt8) : Option (Bool) :=
  some (!decide (a0 = a0))
theorem cmp_isNaNS.eq (a0 : List UInt8) : cmp_isNaNS.sh a0 = some false := by simp [cmp_isNaNS.sh]
def cmp_CompareS.sh (a0 : List UInt8) (a1 : List UInt8) : Option (Int) :=
  bif false then (bif false then (some 0) else (some (-1))) else (bif false then (some 1) else (bif (lt8 a0 a1) then (some (-1)) else (bif (!(lt8 a0 a1 || decide (a0 = a1))) then (some 1) else (some 0))))
theorem cmp_CompareS.eq (a0 a1 : List UInt8) : cmp_CompareS.sh a0 a1 = some (cmpS a0 a1) := by
  unfold cmp_CompareS.sh cmpS
  cases lt8 a0 a1 with
  | true => simp
  | false => by_cases h : a0 = a1 <;> simp [h]
theorem range_succ_find {β : Type} (f : Nat → Option β) (n : Nat) : (List.range (n + 1)).findSome? f = match f 0 with | some t => some t | none => (List.range n).findSome? fun j => f (j + 1) := by
  rw [List.range_succ_eq_map, List.findSome?_cons, List.findSome?_map]; rfl
theorem less_scan : ∀ (v w : List (List UInt8)), (match (List.range (min v.length w.length)).findSome? (fun j => if v.getD j default = w.getD j default then none else some (lt8 (v.getD j default) (w.getD j default))) with | some t => t | none => decide (v.length < w.length)) = lessL v w := by
  intro v
  induction v with
  | nil => intro w; cases w <;> simp [lessL]
  | cons x v ih =>
    intro w
    cases w with
    | nil => simp [lessL]
    | cons y w =>
      simp only [List.length_cons, Nat.add_min_add_right, range_succ_find, List.getD_cons_zero, List.getD_cons_succ]
      by_cases h : x = y
      · simp only [h, if_true, lessL]
        rw [← ih w]
        simp only [Nat.add_lt_add_iff_right]
      · simp [h, lessL]
theorem cmp_scan : ∀ (v w : List (List UInt8)), (match (List.range v.length).findSome? (fun j => if w.length ≤ j then some 1 else if cmpS (v.getD j default) (w.getD j default) = 0 then none else some (cmpS (v.getD j default) (w.getD j default))) with | some t => t | none => if v.length < w.length then -1 else 0) = cmpL v w := by
  intro v
  induction v with
  | nil => intro w; cases w <;> simp [cmpL]
  | cons x v ih =>
    intro w
    simp only [List.length_cons, range_succ_find]
    cases w with
    | nil => simp [cmpL]
    | cons y w =>
      simp only [List.length_cons, List.getD_cons_zero, List.getD_cons_succ, Nat.add_le_add_iff_right, Nat.add_lt_add_iff_right]
      by_cases h : cmpS x y = 0
      · simp only [h, if_true, cmpL]
        rw [← ih w]
        simp
      · simp [h, cmpL]
def spec_l01Less.b1 (a0 : List UInt8) (a1 : List UInt8) : Int → Option (Step (Bool) (Int) (Unit)) :=
  fun x7_11 => bif ((decide (x7_11 < ((cut 47 a0).length : Int))) && (decide (x7_11 < ((cut 47 a1).length : Int)))) then (bif inR x7_11 (cut 47 a0).length then (bif inR x7_11 (cut 47 a1).length then (bif (!decide ((gt (cut 47 a0) x7_11) = (gt (cut 47 a1) x7_11))) then (bif inR x7_11 (cut 47 a0).length then (bif inR x7_11 (cut 47 a1).length then (some (.ret (lt8 (gt (cut 47 a0) x7_11) (gt (cut 47 a1) x7_11)))) else none) else none) else (some (.nxt (IntKind.wrap .i64 (x7_11 + 1))))) else none) else none) else (some (.brk ()))
def spec_l01Less.sh (k : Nat) (a0 : List UInt8) (a1 : List UInt8) : Option (Bool) :=
  bif decide (a0.length ≤ 1048576) then (bif decide (a1.length ≤ 1048576) then ((loopF (spec_l01Less.b1 a0 a1) k 0).bind fun z => match z with | .inl t => some t | .inr _ => some (decide (((cut 47 a0).length : Int) < ((cut 47 a1).length : Int)))) else none) else none
theorem spec_l01Less.eq (a0 a1 : List UInt8) (h0 : a0.length ≤ 1048576) (h1 : a1.length ≤ 1048576) : ∃ k, spec_l01Less.sh k a0 a1 = some (lessL (cut 47 a0) (cut 47 a1)) := by
  refine ⟨(cut 47 a0).length + 1, ?_⟩
  unfold spec_l01Less.sh
  have hl0 := cut_len 47 a0
  have hb : ∀ i : Nat, i < min (cut 47 a0).length (cut 47 a1).length → spec_l01Less.b1 a0 a1 i = some (sc (if (cut 47 a0).getD i default = (cut 47 a1).getD i default then none else some (lt8 ((cut 47 a0).getD i default) ((cut 47 a1).getD i default)) : Option Bool) ((i : Int) + 1)) := by
    intro i hi
    have hi0 : i < (cut 47 a0).length := by omega
    have hi1 : i < (cut 47 a1).length := by omega
    simp only [spec_l01Less.b1, lt_nat, hi0, hi1, decide_true, Bool.and_self, cond_true, inR_nat hi0, inR_nat hi1, getD_gt, wrap_succ hi0 (by omega)]
    by_cases he : (cut 47 a0).getD i default = (cut 47 a1).getD i default
    · simp only [he, decide_true, Bool.not_true, if_true, cond_false, sc_none]
    · simp only [he, decide_false, Bool.not_false, if_false, cond_true, sc_some]
  have hn : spec_l01Less.b1 a0 a1 ((min (cut 47 a0).length (cut 47 a1).length : Nat) : Int) = some (.brk ()) := by
    simp only [spec_l01Less.b1, lt_nat]
    have : (decide (min (cut 47 a0).length (cut 47 a1).length < (cut 47 a0).length) && decide (min (cut 47 a0).length (cut 47 a1).length < (cut 47 a1).length)) = false := by simp; omega
    rw [this]; rfl
  simp only [h0, h1, decide_true, cond_true]
  rw [loop_scan0 _ _ hb hn _ (by omega), ← less_scan]
  cases (List.range (min (cut 47 a0).length (cut 47 a1).length)).findSome? _ with
  | some t => simp
  | none =>
    have : ((cut 47 a0).length : Int) < ((cut 47 a1).length : Int) ↔ (cut 47 a0).length < (cut 47 a1).length := by omega
    simp [this]
def pathLess (a b : List UInt8) : Bool := (pathOK a && pathOK b) && lessL (cut 47 a) (cut 47 b)
def slices_CompareS.b1 (a0 : List (List UInt8)) (a1 : List (List UInt8)) : Int → Option (Step (Int) (Int) (Unit)) :=
  fun x11_1 => bif (decide (x11_1 < (a0.length : Int))) then (bif inR x11_1 a0.length then (bif (decide ((a1.length : Int) ≤ x11_1)) then (some (.ret 1)) else (bif inR x11_1 a1.length then (bif (!decide ((cmpS (gt a0 x11_1) (gt a1 x11_1)) = 0)) then (some (.ret (cmpS (gt a0 x11_1) (gt a1 x11_1)))) else (some (.nxt (IntKind.wrap .i64 (x11_1 + 1))))) else none)) else none) else (some (.brk ()))
def slices_CompareS.sh (k : Nat) (a0 : List (List UInt8)) (a1 : List (List UInt8)) : Option (Int) :=
  (loopF (slices_CompareS.b1 a0 a1) k 0).bind fun z => match z with | .inl t => some t | .inr _ => bif (decide ((a0.length : Int) < (a1.length : Int))) then (some (-1)) else (some 0)
theorem slices_CompareS.eq (a0 a1 : List (List UInt8)) (h0 : a0.length ≤ 4611686018427387904) (h1 : a1.length ≤ 4611686018427387904) : ∃ k, slices_CompareS.sh k a0 a1 = some (cmpL a0 a1) := by
  refine ⟨a0.length + 1, ?_⟩
  unfold slices_CompareS.sh
  have hb : ∀ i : Nat, i < a0.length → slices_CompareS.b1 a0 a1 i = some (sc (if a1.length ≤ i then some 1 else if cmpS (a0.getD i default) (a1.getD i default) = 0 then none else some (cmpS (a0.getD i default) (a1.getD i default)) : Option Int) ((i : Int) + 1)) := by
    intro i hi
    simp only [slices_CompareS.b1, lt_nat, hi, decide_true, cond_true, inR_nat hi, getD_gt, wrap_succ hi h0]
    by_cases hm : a1.length ≤ i
    · have : (a1.length : Int) ≤ (i : Int) := by omega
      simp [hm, this]
    · have h2 : ¬ (a1.length : Int) ≤ (i : Int) := by omega
      have h3 : i < a1.length := by omega
      simp only [h2, hm, decide_false, cond_false, inR_nat h3, cond_true, if_false]
      by_cases he : cmpS (a0.getD i default) (a1.getD i default) = 0
      · simp only [he, decide_true, Bool.not_true, if_true, cond_false, sc_none]
      · simp only [he, decide_false, Bool.not_false, if_false, cond_true, sc_some]
  have hn : slices_CompareS.b1 a0 a1 a0.length = some (.brk ()) := by simp [slices_CompareS.b1]
  rw [loop_scan0 _ _ hb hn _ (by omega), ← cmp_scan]
  cases (List.range a0.length).findSome? _ with
  | some t => simp
  | none =>
    by_cases h : a0.length < a1.length
    · have : (a0.length : Int) < (a1.length : Int) := by omega
      simp [h, this]
    · have : ¬ (a0.length : Int) < (a1.length : Int) := by omega
      simp [h, this]
def impl_compare.sh (a0 : List UInt8) (a1 : List UInt8) : Option (Int) :=
  bif decide (a0.length ≤ 1048576) then (bif decide (a1.length ≤ 1048576) then (bif decide ((cut 47 a0).length ≤ 4611686018427387904) then (bif decide ((cut 47 a1).length ≤ 4611686018427387904) then (some (cmpL (cut 47 a0) (cut 47 a1))) else none) else none) else none) else none
theorem impl_compare.eq (a0 a1 : List UInt8) (h0 : a0.length ≤ 1048576) (h1 : a1.length ≤ 1048576) : impl_compare.sh a0 a1 = some (cmpL (cut 47 a0) (cut 47 a1)) := by
  have h2 := cut_len 47 a0
  have h3 := cut_len 47 a1
  have h4 : (cut 47 a0).length ≤ 4611686018427387904 := by omega
  have h5 : (cut 47 a1).length ≤ 4611686018427387904 := by omega
  simp [impl_compare.sh, h0, h1, h4, h5]
def impl_PathLess.sh (a0 : List UInt8) (a1 : List UInt8) : Option (Bool) :=
  ((bif ((pathOK a0) && (pathOK a1)) then (bif decide (a0.length ≤ 1048576) then (bif decide (a1.length ≤ 1048576) then (some (decide ((cmpL (cut 47 a0) (cut 47 a1)) < 0))) else none) else none) else some false)).bind fun z10 => some z10
theorem impl_PathLess.eq (a0 a1 : List UInt8) : impl_PathLess.sh a0 a1 = some (pathLess a0 a1) := by
  unfold impl_PathLess.sh pathLess
  cases hc : (pathOK a0 && pathOK a1) with
  | false => simp
  | true =>
    simp only [Bool.and_eq_true] at hc
    have h0 := pathOK_len hc.1
    have h1 := pathOK_len hc.2
    have h4 : a0.length ≤ 1048576 := by omega
    have h5 : a1.length ≤ 1048576 := by omega
    simp only [h4, h5, decide_true, cond_true, Option.bind_some, cmpL_less, Bool.true_and]
/-! ### the parts of a path -/
end Go.UL
