/- Plain Lean: what the functions compute. -/
import Derived.Test.YthpjkenkbfkdhaaGreatDoorJP3
set_option linter.unusedVariables false
set_option linter.unusedSimpArgs false
namespace Go.UL
open Go.RowKit
/-! ### marks -/
def laws_markText.b1  : Int × List UInt8 → Option (Step (List UInt8) (Int × List UInt8) (List UInt8)) :=
  fun q => match q with
  | (x0_2, x3_3) => bif (decide (0 < x0_2)) then (bif decide ((bytesOf ([IntKind.wrap .u8 (IntKind.wrap .i64 (48 + (x0_2.tmod 10)))] : List Int)).length + x3_3.length ≤ 9223372036854775807) then (some (.nxt (IntKind.wrap .i64 (x0_2.tdiv 10), (bytesOf ([IntKind.wrap .u8 (IntKind.wrap .i64 (48 + (x0_2.tmod 10)))] : List Int)) ++ x3_3))) else none) else (some (.brk x3_3))
def laws_markText.sh (k : Nat) (a0 : Int) : Option (List UInt8) :=
  bif (decide (a0 ≤ 0)) then (some ([109, 48] : List UInt8)) else ((loopF (laws_markText.b1) k (a0, ([] : List UInt8))).bind fun z => match z with | .inl t => some t | .inr x3_7 => bif decide (([109] : List UInt8).length + x3_7.length ≤ 9223372036854775807) then (some (([109] : List UInt8) ++ x3_7)) else none)
theorem laws_markText.fits (a0 : Int) (h : a0 ≤ 4611686018427387904) : ∃ r, laws_markText.sh (a0.toNat + 1) a0 = some r := by
  unfold laws_markText.sh
  by_cases h0 : a0 ≤ 0
  · exact ⟨_, by rw [decide_eq_true h0]; rfl⟩
  · rw [decide_eq_false h0]
    simp only [cond_false]
    obtain ⟨z, hz, hP⟩ : ∃ z, loopF laws_markText.b1 (a0.toNat + 1) (a0, ([] : List UInt8)) = some z ∧ ∃ out : List UInt8, z = .inr out ∧ out.length ≤ a0.toNat := by
      refine loopF_run (fun (v : Int × List UInt8) => 0 ≤ v.1 ∧ v.1 ≤ 4611686018427387904 ∧ v.2.length + v.1.toNat ≤ a0.toNat) (fun v => v.1.toNat) (fun z => ∃ out : List UInt8, z = .inr out ∧ out.length ≤ a0.toNat) ?_ (a0.toNat + 1) (a0, ([] : List UInt8)) ⟨by omega, h, by simp⟩ (by simp)
      rintro ⟨n, out⟩ ⟨h1, h2, h3⟩
      simp only at h1 h2 h3
      unfold laws_markText.b1
      by_cases hn : 0 < n
      · have h4 : (bytesOf ([IntKind.wrap .u8 (IntKind.wrap .i64 (48 + (n.tmod 10)))] : List Int)).length + out.length ≤ 9223372036854775807 := by simp [bytesOf]; omega
        simp only [hn, decide_true, cond_true, h4]
        have hd : n.tdiv 10 = n / 10 := Int.tdiv_eq_ediv_of_nonneg (by omega)
        have hw : IntKind.wrap .i64 (n / 10) = n / 10 := wrap_small (by omega) (by omega)
        refine ⟨_, rfl, ⟨by simp only [hd, hw]; omega, by simp only [hd, hw]; omega, ?_⟩, by simp only [hd, hw]; omega⟩
        simp only [hd, hw, bytesOf, List.length_append, List.length_map, List.length_cons, List.length_nil]
        omega
      · simp only [hn, decide_false, cond_false]
        exact ⟨_, rfl, _, rfl, by omega⟩
    obtain ⟨out, rfl, ho⟩ := hP
    rw [hz]
    have h5 : ([109] : List UInt8).length + out.length ≤ 9223372036854775807 := by simp; omega
    exact ⟨[109] ++ out, by simp only [Option.bind_some, h5, decide_true, cond_true]⟩
/-- The mark of a number. -/
def markT (a : Int) : List UInt8 := (laws_markText.sh (a.toNat + 1) a).getD []
theorem laws_markText.eq (a0 : Int) (h : a0 ≤ 4611686018427387904) : ∃ k, laws_markText.sh k a0 = some (markT a0) := by
  obtain ⟨r, hr⟩ := laws_markText.fits a0 h
  exact ⟨a0.toNat + 1, by simp [markT, hr]⟩
/-- A loop over the places that asks and counts. -/
theorem held_run {α : Type} [Inhabited α] [DecidableEq α] (xs : List α) (m : Nat → α) (k0 : Int) (step : Nat) (b : Int × Int → Option (Step Int (Int × Int) Int))
    (hb : ∀ i : Nat, i < xs.length → b (k0 + (i * step : Nat), i) = some (if xs.getD i default = m i then .nxt (k0 + ((i + 1) * step : Nat), (i : Int) + 1) else .ret (-1))) (hn : b (k0 + (xs.length * step : Nat), xs.length) = some (.brk (k0 + (xs.length * step : Nat)))) :
    loopF b (xs.length + 1) (k0, 0) = some (if xs = (List.range xs.length).map m then .inr (k0 + (xs.length * step : Nat)) else .inl (-1)) := by
  have key : ∀ d i k, i + d = xs.length → d < k → (∀ j, j < i → xs.getD j default = m j) → loopF b k (k0 + (i * step : Nat), i) = some (if xs = (List.range xs.length).map m then .inr (k0 + (xs.length * step : Nat)) else .inl (-1)) := by
    intro d
    induction d with
    | zero =>
      intro i k hi hk hj
      obtain ⟨k, rfl⟩ : ∃ j, k = j + 1 := ⟨k - 1, by omega⟩
      have : i = xs.length := by omega
      subst this
      have he : xs = (List.range xs.length).map m := by
        apply List.ext_getElem (by simp)
        intro i h1 h2
        have := hj i h1
        simpa [List.getD_eq_getElem?_getD, List.getElem?_eq_getElem h1] using this
      simp only [loopF, hn, Option.bind_some]
      rw [if_pos he]
    | succ d ih =>
      intro i k hi hk hj
      obtain ⟨k, rfl⟩ : ∃ j, k = j + 1 := ⟨k - 1, by omega⟩
      have hlt : i < xs.length := by omega
      simp only [loopF, hb i hlt, Option.bind_some]
      by_cases he : xs.getD i default = m i
      · simp only [he, if_true]
        have := ih (i + 1) k (by omega) (by omega) (fun j hj' => by
          by_cases h : j = i
          · subst h; exact he
          · exact hj j (by omega))
        rw [Int.natCast_add, Int.natCast_one] at this
        exact this
      · simp only [he, if_false]
        rw [if_neg]
        intro h
        apply he
        have h2 : xs[i]? = ((List.range xs.length).map m)[i]? := by rw [← h]
        simp [hlt] at h2
        simp [List.getD_eq_getElem?_getD, List.getElem?_eq_getElem hlt, h2]
  have := key xs.length 0 (xs.length + 1) (by omega) (by omega) (fun j hj => by omega)
  simpa using this
theorem marks_set {α : Type} (xs : List α) (m : Nat → α) (i : Nat) (h : i < xs.length) : setI ((List.range i).map m ++ xs.drop i) (i : Int) (m i) = (List.range (i + 1)).map m ++ xs.drop (i + 1) := by
  unfold setI
  rw [Int.toNat_natCast, List.set_append_right _ _ (by simp)]
  simp only [List.length_map, List.length_range, Nat.sub_self, List.drop_eq_getElem_cons h, List.set_cons_zero, List.range_succ, List.map_append, List.map_cons, List.map_nil, List.append_assoc, List.singleton_append]
/-- A loop that writes one place after the other. -/
theorem mark_run {α : Type} (xs : List α) (m : Nat → α) (k0 : Int) (step : Nat) (b : Int × Int × List α → Option (Step (Int × List α) (Int × Int × List α) (Int × List α)))
    (hb : ∀ i : Nat, i < xs.length → ∀ y : List α, y.length = xs.length → b (k0 + (i * step : Nat), i, y) = some (.nxt (k0 + ((i + 1) * step : Nat), (i : Int) + 1, setI y i (m i))))
    (hn : ∀ y : List α, y.length = xs.length → b (k0 + (xs.length * step : Nat), xs.length, y) = some (.brk (k0 + (xs.length * step : Nat), y))) :
    loopF b (xs.length + 1) (k0, 0, xs) = some (.inr (k0 + (xs.length * step : Nat), (List.range xs.length).map m)) := by
  have key : ∀ d i k, i + d = xs.length → d < k → loopF b k (k0 + (i * step : Nat), i, (List.range i).map m ++ xs.drop i) = some (.inr (k0 + (xs.length * step : Nat), (List.range xs.length).map m)) := by
    intro d
    induction d with
    | zero =>
      intro i k hi hk
      obtain ⟨k, rfl⟩ : ∃ j, k = j + 1 := ⟨k - 1, by omega⟩
      have : i = xs.length := by omega
      subst this
      have h9 := hn ((List.range xs.length).map m ++ xs.drop xs.length) (by simp)
      rw [loopF, h9]
      simp
    | succ d ih =>
      intro i k hi hk
      obtain ⟨k, rfl⟩ : ∃ j, k = j + 1 := ⟨k - 1, by omega⟩
      have hlt : i < xs.length := by omega
      have h9 := hb i hlt ((List.range i).map m ++ xs.drop i) (by simp; omega)
      rw [loopF, h9]
      simp only [Option.bind_some, marks_set xs m i hlt]
      have := ih (i + 1) k (by omega) (by omega)
      rw [Int.natCast_add, Int.natCast_one] at this
      exact this
  have := key xs.length 0 (xs.length + 1) (by omega) (by omega)
  simpa using this
end Go.UL
