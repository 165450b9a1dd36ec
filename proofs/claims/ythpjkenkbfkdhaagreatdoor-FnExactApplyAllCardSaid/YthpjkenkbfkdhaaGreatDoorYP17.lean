/- Plain Lean: what the functions compute. -/
import Derived.Test.YthpjkenkbfkdhaaGreatDoorYP16
set_option linter.unusedVariables false
set_option linter.unusedSimpArgs false
namespace Go.UL
open Go.RowKit
/-! ### nodes taken out -/
theorem findI_first {α : Type} (q : α → Bool) : ∀ (l : List α) (i : Nat), findI q l = i → ∀ x ∈ l.take i, q x = false := by
  intro l
  induction l with
  | nil => intro i _ x hx; simp at hx
  | cons y l ih =>
    intro i h x hx
    simp only [findI] at h
    cases i with
    | zero => simp at hx
    | succ i =>
      rcases bool_two (q y) with hq | hq
      · simp only [hq, if_true] at h; omega
      · simp only [hq, Bool.false_eq_true, if_false] at h
        by_cases hm : findI q l = -1
        · simp only [hm, if_true] at h; omega
        · simp only [hm, if_false] at h
          rw [List.take_succ_cons] at hx
          rcases List.mem_cons.1 hx with rfl | hx
          · exact hq
          · exact ih i (by omega) x hx
theorem List.take_set_succ {α : Type} {l : List α} {i : Nat} {x : α} (h : i < l.length) : (l.set i x).take (i + 1) = l.take i ++ [x] := by
  rw [List.take_succ_eq_append_getElem (by simpa using h)]
  rw [List.take_set, List.set_eq_of_length_le (by simp; omega)]
  simp
def without (l : List Nd) (p : List UInt8) (self : Bool) : List Nd := l.filter fun x => !((decide (p = []) && !decide (x.path = [])) || belowP x.path p) && (!self || !decide (x.path = p))
theorem without_len (l : List Nd) (p : List UInt8) (b : Bool) : (without l p b).length ≤ l.length := List.length_filter_le _ _
theorem without_impl (l : List Nd) (p : List UInt8) : without l p true = l.filter fun x => !(decide (x.path = p) || (decide (p = []) || belowP x.path p)) := by
  unfold without
  congr 1
  funext x
  by_cases h1 : x.path = p
  · simp [h1]
  · by_cases h2 : p = []
    · subst h2
      simp [h1]
    · simp [h1, h2]
def spec_l04Without.b1 (a0 : List Nd) (a1 : List UInt8) (a2 : Bool) : List Nd × Int → Option (Step (List Nd) (List Nd × Int) (List Nd)) :=
  fun q => match q with
  | (x7_7, x8_9) => bif (decide (x8_9 < (a0.length : Int))) then (bif inR x8_9 a0.length then (((bif (!((decide (a1 = []) && !decide (((gt a0 x8_9).path) = [])) || belowP ((gt a0 x8_9).path) a1)) then (((bif (!a2) then some true else (bif inR x8_9 a0.length then (some (!decide (((gt a0 x8_9).path) = a1))) else none))).bind fun z38 => some z38) else some false)).bind fun z37 => bif z37 then (bif inR x8_9 a0.length then (bif decide ((x7_7.length + ([gt a0 x8_9] : List Nd).length) * 48 ≤ 140737488355328) then (some (.nxt (x7_7 ++ ([gt a0 x8_9] : List Nd), IntKind.wrap .i64 (x8_9 + 1)))) else none) else none) else (some (.nxt (x7_7, IntKind.wrap .i64 (x8_9 + 1))))) else none) else (some (.brk x7_7))
def spec_l04Without.sh (k : Nat) (a0 : List Nd) (a1 : List UInt8) (a2 : Bool) : Option (List Nd) :=
  (loopF (spec_l04Without.b1 a0 a1 a2) k (([] : List Nd), 0)).bind fun z => match z with | .inl t => some t | .inr x7_13 => some x7_13
theorem spec_l04Without.eq (a0 : List Nd) (a1 : List UInt8) (a2 : Bool) (h0 : a0.length ≤ 1048576) : ∃ k, spec_l04Without.sh k a0 a1 a2 = some (without a0 a1 a2) := by
  refine ⟨a0.length + 1, ?_⟩
  unfold spec_l04Without.sh
  rw [collect_run a0 (fun x => if (!((decide (a1 = []) && !decide (x.path = [])) || belowP x.path a1) && (!a2 || !decide (x.path = a1))) then some x else none) (spec_l04Without.b1 a0 a1 a2) (fun i hi acc ha => by
    have e1 : ∀ z : Nd, (acc.length + ([z] : List Nd).length) * 48 ≤ 140737488355328 := fun z => by simp; omega
    simp only [spec_l04Without.b1, lt_nat, hi, decide_true, cond_true, inR_nat hi, getD_gt, getD_el hi, e1, wrap_succ hi (by omega)]
    rcases bool_two ((decide (a1 = []) && !decide (a0[i].path = [])) || belowP a0[i].path a1) with hb | hb
    · simp [hb]
    · generalize belowP a0[i].path a1 = bl at hb ⊢
      by_cases hp : a0[i].path = a1
      · cases a2 <;> simp [hp] at hb ⊢ <;> simp [hb]
      · cases a2 <;> simp [hb, hp]) (fun acc => by simp [spec_l04Without.b1])]
  have : ∀ l : List Nd, l.filterMap (fun x => if (!((decide (a1 = []) && !decide (x.path = [])) || belowP x.path a1) && (!a2 || !decide (x.path = a1))) then some x else none) = without l a1 a2 := by
    intro l
    have := filterMap_if (fun x : Nd => (!((decide (a1 = []) && !decide (x.path = [])) || belowP x.path a1) && (!a2 || !decide (x.path = a1)))) id l
    simpa [without] using this
  rw [this]; rfl
def impl_removed_1.sh (a0 : Nd) (a1 : List UInt8) : Option (Bool) :=
  ((bif (decide (a0.path = a1)) then some true else (bif decide (a1.length ≤ 1048576) then (some (decide (a1 = []) || belowP a0.path a1)) else none))).bind fun z8 => some z8
theorem impl_removed_1.eq (a0 : Nd) (a1 : List UInt8) (h : a1.length ≤ 1048576) : impl_removed_1.sh a0 a1 = some (decide (a0.path = a1) || (decide (a1 = []) || belowP a0.path a1)) := by
  unfold impl_removed_1.sh
  by_cases hp : a0.path = a1 <;> simp [hp, h]
end Go.UL
