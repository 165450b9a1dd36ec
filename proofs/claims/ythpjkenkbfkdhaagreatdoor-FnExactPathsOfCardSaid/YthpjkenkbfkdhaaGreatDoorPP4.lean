/- Plain Lean: what the functions compute. -/
import Derived.Test.YthpjkenkbfkdhaaGreatDoorPP3
set_option linter.unusedVariables false
set_option linter.unusedSimpArgs false
namespace Go.UL
open Go.RowKit
/-! ### marks -/
def laws_markText.b1  : Int × List UInt8 → Option (Step (List UInt8) (Int × List UInt8) (List UInt8)) :=
  fun q => match q with
  | (x0_2, x3_3) => bif (decide (0 < x0_2)) then (bif decide ((bytesOf ([IntKind.wrap .u8 (IntKind.wrap .i64 (48 + (x0_2.tmod 10)))] : List Int)).length + x3_3.length ≤ 9223372036854775807) then (some (.nxt (IntKind.wrap .i64 (x0_2.tdiv 10), (bytesOf ([IntKind.wrap .u8 (IntKind.wrap .i64 (48 + (x0_2.tmod 10)))] : List Int)) ++ x3_3))) else none) else (some (.brk x3_3))
def laws_markText.sh (k : Nat) (a0 : Int) : Option (List UInt8) :=
  bif (decide (a0 ≤ 0)) then (some ([109, 48] : List UInt8)) else ((loopF (laws_markText.b1) k (a0, ([] : List UInt8))).bind fun z => match z with | .inl t => some t | .inr x3_7 => bif decide (([109] : List UInt8).length + x3_7.length ≤ 9223372036854775807) then (some (([109] : List UInt8) ++ x3_7)) else none)
theorem laws_markText.fits (a0 : Int) (h : a0 ≤ 4611686018427387904) : ∃ r, laws_markText.sh (a0.toNat + 1) a0 = some r := by
  unfold laws_markText.sh
  by_cases h0 : a0 ≤ 0
  · exact ⟨_, by rw [decide_eq_true h0]; rfl⟩
  · rw [decide_eq_false h0]
    simp only [cond_false]
    obtain ⟨z, hz, hP⟩ : ∃ z, loopF laws_markText.b1 (a0.toNat + 1) (a0, ([] : List UInt8)) = some z ∧ ∃ out : List UInt8, z = .inr out ∧ out.length ≤ a0.toNat := by
      refine loopF_run (fun (v : Int × List UInt8) => 0 ≤ v.1 ∧ v.1 ≤ 4611686018427387904 ∧ v.2.length + v.1.toNat ≤ a0.toNat) (fun v => v.1.toNat) (fun z => ∃ out : List UInt8, z = .inr out ∧ out.length ≤ a0.toNat) ?_ (a0.toNat + 1) (a0, ([] : List UInt8)) ⟨by omega, h, by simp⟩ (by simp)
      rintro ⟨n, out⟩ ⟨h1, h2, h3⟩
      simp only at h1 h2 h3
      unfold laws_markText.b1
      by_cases hn : 0 < n
      · have h4 : (bytesOf ([IntKind.wrap .u8 (IntKind.wrap .i64 (48 + (n.tmod 10)))] : List Int)).length + out.length ≤ 9223372036854775807 := by simp [bytesOf]; omega
        simp only [hn, decide_true, cond_true, h4]
        have hd : n.tdiv 10 = n / 10 := Int.tdiv_eq_ediv_of_nonneg (by omega)
        have hw : IntKind.wrap .i64 (n / 10) = n / 10 := wrap_small (by omega) (by omega)
        refine ⟨_, rfl, ⟨by simp only [hd, hw]; omega, by simp only [hd, hw]; omega, ?_⟩, by simp only [hd, hw]; omega⟩
        simp only [hd, hw, bytesOf, List.length_append, List.length_map, List.length_cons, List.length_nil]
        omega
      · simp only [hn, decide_false, cond_false]
        exact ⟨_, rfl, _, rfl, by omega⟩
    obtain ⟨out, rfl, ho⟩ := hP
    rw [hz]
    have h5 : ([109] : List UInt8).length + out.length ≤ 9223372036854775807 := by simp; omega
    exact ⟨[109] ++ out, by simp only [Option.bind_some, h5, decide_true, cond_true]⟩
/-- The mark of a number. -/
def markT (a : Int) : List UInt8 := (laws_markText.sh (a.toNat + 1) a).getD []
theorem laws_markText.eq (a0 : Int) (h : a0 ≤ 4611686018427387904) : ∃ k, laws_markText.sh k a0 = some (markT a0) := by
  obtain ⟨r, hr⟩ := laws_markText.fits a0 h
  exact ⟨a0.toNat + 1, by simp [markT, hr]⟩
def marksS (n : Nat) (k : Int) : List (List UInt8) := (List.range n).map fun (i : Nat) => markT (k + i)
def heldS (xs : List (List UInt8)) (k : Int) : Int := if xs = marksS xs.length k then k + xs.length else -1
theorem heldS_marks (n : Nat) (k : Int) : heldS (marksS n k) k = k + n := by
  have : (marksS n k).length = n := by simp [marksS]
  unfold heldS; rw [this]; simp
def laws_heldStringS.b1 (a0 : List (List UInt8)) : Int × Int → Option (Step (Int) (Int × Int) (Int)) :=
  fun q => match q with
  | (x1_1, x5_2) => bif (decide (x5_2 < (a0.length : Int))) then (bif inR x5_2 a0.length then (bif decide ((x1_1 : Int) ≤ 4611686018427387904) then (bif (!decide ((gt a0 x5_2) = (markT x1_1))) then (some (.ret (-1))) else (some (.nxt (IntKind.wrap .i64 (x1_1 + 1), IntKind.wrap .i64 (x5_2 + 1))))) else none) else none) else (some (.brk x1_1))
def laws_heldStringS.sh (k : Nat) (a0 : List (List UInt8)) (a1 : Int) : Option (Int) :=
  (loopF (laws_heldStringS.b1 a0) k (a1, 0)).bind fun z => match z with | .inl t => some t | .inr x1_6 => some x1_6
/-- A loop over the places that asks and counts. -/
theorem held_run {α : Type} [Inhabited α] [DecidableEq α] (xs : List α) (m : Nat → α) (k0 : Int) (step : Nat) (b : Int × Int → Option (Step Int (Int × Int) Int))
    (hb : ∀ i : Nat, i < xs.length → b (k0 + (i * step : Nat), i) = some (if xs.getD i default = m i then .nxt (k0 + ((i + 1) * step : Nat), (i : Int) + 1) else .ret (-1))) (hn : b (k0 + (xs.length * step : Nat), xs.length) = some (.brk (k0 + (xs.length * step : Nat)))) :
    loopF b (xs.length + 1) (k0, 0) = some (if xs = (List.range xs.length).map m then .inr (k0 + (xs.length * step : Nat)) else .inl (-1)) := by
  have key : ∀ d i k, i + d = xs.length → d < k → (∀ j, j < i → xs.getD j default = m j) → loopF b k (k0 + (i * step : Nat), i) = some (if xs = (List.range xs.length).map m then .inr (k0 + (xs.length * step : Nat)) else .inl (-1)) := by
    intro d
    induction d with
    | zero =>
      intro i k hi hk hj
      obtain ⟨k, rfl⟩ : ∃ j, k = j + 1 := ⟨k - 1, by omega⟩
      have : i = xs.length := by omega
      subst this
      have he : xs = (List.range xs.length).map m := by
        apply List.ext_getElem (by simp)
        intro i h1 h2
        have := hj i h1
        simpa [List.getD_eq_getElem?_getD, List.getElem?_eq_getElem h1] using this
      simp only [loopF, hn, Option.bind_some]
      rw [if_pos he]
    | succ d ih =>
      intro i k hi hk hj
      obtain ⟨k, rfl⟩ : ∃ j, k = j + 1 := ⟨k - 1, by omega⟩
      have hlt : i < xs.length := by omega
      simp only [loopF, hb i hlt, Option.bind_some]
      by_cases he : xs.getD i default = m i
      · simp only [he, if_true]
        have := ih (i + 1) k (by omega) (by omega) (fun j hj' => by
          by_cases h : j = i
          · subst h; exact he
          · exact hj j (by omega))
        rw [Int.natCast_add, Int.natCast_one] at this
        exact this
      · simp only [he, if_false]
        rw [if_neg]
        intro h
        apply he
        have h2 : xs[i]? = ((List.range xs.length).map m)[i]? := by rw [← h]
        simp [hlt] at h2
        simp [List.getD_eq_getElem?_getD, List.getElem?_eq_getElem hlt, h2]
  have := key xs.length 0 (xs.length + 1) (by omega) (by omega) (fun j hj => by omega)
  simpa using this
theorem laws_heldStringS.eq (a0 : List (List UInt8)) (a1 : Int) (h0 : a0.length ≤ 4611686018427387904) (h1 : 0 ≤ a1) (h2 : a1 ≤ 4611686018427387904 - a0.length) : ∃ k, laws_heldStringS.sh k a0 a1 = some (heldS a0 a1) := by
  refine ⟨a0.length + 1, ?_⟩
  have := held_run a0 (fun i => markT (a1 + i)) a1 1 (laws_heldStringS.b1 a0) (fun i hi => by
    have e1 : a1 + ((i * 1 : Nat) : Int) = a1 + i := by simp
    have e2 : a1 + (((i + 1) * 1 : Nat) : Int) = a1 + i + 1 := by simp; omega
    have h3 : a1 + (i : Int) ≤ 4611686018427387904 := by omega
    rw [e1, e2]
    simp only [laws_heldStringS.b1, lt_nat, hi, decide_true, cond_true, inR_nat hi, getD_gt, h3, wrap_succ hi h0]
    rw [wrap_small (n := a1 + (i : Int) + 1) (by omega) (by omega)]
    by_cases he : a0.getD i default = markT (a1 + i)
    · simp only [he, decide_true, Bool.not_true, cond_false, if_true]
    · simp only [he, decide_false, Bool.not_false, cond_true, if_false]) (by simp [laws_heldStringS.b1])
  unfold laws_heldStringS.sh
  rw [this]
  unfold heldS marksS
  by_cases he : a0 = (List.range a0.length).map fun (i : Nat) => markT (a1 + (i : Int))
  · rw [if_pos he, if_pos he]; simp
  · rw [if_neg he, if_neg he]; simp
theorem marks_set {α : Type} (xs : List α) (m : Nat → α) (i : Nat) (h : i < xs.length) : setI ((List.range i).map m ++ xs.drop i) (i : Int) (m i) = (List.range (i + 1)).map m ++ xs.drop (i + 1) := by
  unfold setI
  rw [Int.toNat_natCast, List.set_append_right _ _ (by simp)]
  simp only [List.length_map, List.length_range, Nat.sub_self, List.drop_eq_getElem_cons h, List.set_cons_zero, List.range_succ, List.map_append, List.map_cons, List.map_nil, List.append_assoc, List.singleton_append]
/-- A loop that writes one place after the other. -/
theorem mark_run {α : Type} (xs : List α) (m : Nat → α) (k0 : Int) (step : Nat) (b : Int × Int × List α → Option (Step (Int × List α) (Int × Int × List α) (Int × List α)))
    (hb : ∀ i : Nat, i < xs.length → ∀ y : List α, y.length = xs.length → b (k0 + (i * step : Nat), i, y) = some (.nxt (k0 + ((i + 1) * step : Nat), (i : Int) + 1, setI y i (m i))))
    (hn : ∀ y : List α, y.length = xs.length → b (k0 + (xs.length * step : Nat), xs.length, y) = some (.brk (k0 + (xs.length * step : Nat), y))) :
    loopF b (xs.length + 1) (k0, 0, xs) = some (.inr (k0 + (xs.length * step : Nat), (List.range xs.length).map m)) := by
  have key : ∀ d i k, i + d = xs.length → d < k → loopF b k (k0 + (i * step : Nat), i, (List.range i).map m ++ xs.drop i) = some (.inr (k0 + (xs.length * step : Nat), (List.range xs.length).map m)) := by
    intro d
    induction d with
    | zero =>
      intro i k hi hk
      obtain ⟨k, rfl⟩ : ∃ j, k = j + 1 := ⟨k - 1, by omega⟩
      have : i = xs.length := by omega
      subst this
      have h9 := hn ((List.range xs.length).map m ++ xs.drop xs.length) (by simp)
      rw [loopF, h9]
      simp
    | succ d ih =>
      intro i k hi hk
      obtain ⟨k, rfl⟩ : ∃ j, k = j + 1 := ⟨k - 1, by omega⟩
      have hlt : i < xs.length := by omega
      have h9 := hb i hlt ((List.range i).map m ++ xs.drop i) (by simp; omega)
      rw [loopF, h9]
      simp only [Option.bind_some, marks_set xs m i hlt]
      have := ih (i + 1) k (by omega) (by omega)
      rw [Int.natCast_add, Int.natCast_one] at this
      exact this
  have := key xs.length 0 (xs.length + 1) (by omega) (by omega)
  simpa using this
def laws_markStringS.b1  : Int × Int × List (List UInt8) → Option (Step (Int × List (List UInt8)) (Int × Int × List (List UInt8)) (Int × List (List UInt8))) :=
  fun q => match q with
  | (x1_1, x5_2, y3) => bif (decide (x5_2 < (y3.length : Int))) then (bif decide ((x1_1 : Int) ≤ 4611686018427387904) then (bif inR x5_2 y3.length then (some (.nxt (IntKind.wrap .i64 (x1_1 + 1), IntKind.wrap .i64 (x5_2 + 1), setI y3 x5_2 (markT x1_1)))) else none) else none) else (some (.brk (x1_1, y3)))
def laws_markStringS.sh (k : Nat) (a0 : List (List UInt8)) (a1 : Int) : Option (Int × List (List UInt8)) :=
  (loopF (laws_markStringS.b1) k (a1, 0, a0)).bind fun z => match z with | .inl t => some t | .inr (x1_7, y8) => some (x1_7, y8)
theorem laws_markStringS.eq (a0 : List (List UInt8)) (a1 : Int) (h0 : a0.length ≤ 4611686018427387904) (h1 : 0 ≤ a1) (h2 : a1 ≤ 4611686018427387904 - a0.length) : ∃ k, laws_markStringS.sh k a0 a1 = some (a1 + (a0.length : Int), marksS a0.length a1) := by
  refine ⟨a0.length + 1, ?_⟩
  have := mark_run a0 (fun (i : Nat) => markT (a1 + i)) a1 1 laws_markStringS.b1 (fun i hi y hy => by
    have e1 : a1 + ((i * 1 : Nat) : Int) = a1 + i := by simp
    have e2 : a1 + (((i + 1) * 1 : Nat) : Int) = a1 + i + 1 := by simp; omega
    have h3 : a1 + (i : Int) ≤ 4611686018427387904 := by omega
    rw [e1, e2]
    simp only [laws_markStringS.b1, hy, lt_nat, hi, decide_true, cond_true, inR_nat hi, h3, wrap_succ hi h0]
    rw [wrap_small (n := a1 + (i : Int) + 1) (by omega) (by omega)]) (fun y hy => by simp [laws_markStringS.b1, hy])
  unfold laws_markStringS.sh
  rw [this]
  simp [marksS]
theorem marksS_length (n : Nat) (k : Int) : (marksS n k).length = n := by simp [marksS]
end Go.UL
