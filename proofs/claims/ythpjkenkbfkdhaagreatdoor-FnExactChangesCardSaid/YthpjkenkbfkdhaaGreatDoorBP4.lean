/- Plain Lean: what the functions compute. -/
import Derived.Test.YthpjkenkbfkdhaaGreatDoorBP3
set_option linter.unusedVariables false
set_option linter.unusedSimpArgs false
namespace Go.UL
open Go.RowKit
/-! ### marks -/
/-- A loop over the places that asks and counts. -/
theorem held_run {α : Type} [Inhabited α] [DecidableEq α] (xs : List α) (m : Nat → α) (k0 : Int) (step : Nat) (b : Int × Int → Option (Step Int (Int × Int) Int))
    (hb : ∀ i : Nat, i < xs.length → b (k0 + (i * step : Nat), i) = some (if xs.getD i default = m i then .nxt (k0 + ((i + 1) * step : Nat), (i : Int) + 1) else .ret (-1))) (hn : b (k0 + (xs.length * step : Nat), xs.length) = some (.brk (k0 + (xs.length * step : Nat)))) :
    loopF b (xs.length + 1) (k0, 0) = some (if xs = (List.range xs.length).map m then .inr (k0 + (xs.length * step : Nat)) else .inl (-1)) := by
  have key : ∀ d i k, i + d = xs.length → d < k → (∀ j, j < i → xs.getD j default = m j) → loopF b k (k0 + (i * step : Nat), i) = some (if xs = (List.range xs.length).map m then .inr (k0 + (xs.length * step : Nat)) else .inl (-1)) := by
    intro d
    induction d with
    | zero =>
      intro i k hi hk hj
      obtain ⟨k, rfl⟩ : ∃ j, k = j + 1 := ⟨k - 1, by omega⟩
      have : i = xs.length := by omega
      subst this
      have he : xs = (List.range xs.length).map m := by
        apply List.ext_getElem (by simp)
        intro i h1 h2
        have := hj i h1
        simpa [List.getD_eq_getElem?_getD, List.getElem?_eq_getElem h1] using this
      simp only [loopF, hn, Option.bind_some]
      rw [if_pos he]
    | succ d ih =>
      intro i k hi hk hj
      obtain ⟨k, rfl⟩ : ∃ j, k = j + 1 := ⟨k - 1, by omega⟩
      have hlt : i < xs.length := by omega
      simp only [loopF, hb i hlt, Option.bind_some]
      by_cases he : xs.getD i default = m i
      · simp only [he, if_true]
        have := ih (i + 1) k (by omega) (by omega) (fun j hj' => by
          by_cases h : j = i
          · subst h; exact he
          · exact hj j (by omega))
        rw [Int.natCast_add, Int.natCast_one] at this
        exact this
      · simp only [he, if_false]
        rw [if_neg]
        intro h
        apply he
        have h2 : xs[i]? = ((List.range xs.length).map m)[i]? := by rw [← h]
        simp [hlt] at h2
        simp [List.getD_eq_getElem?_getD, List.getElem?_eq_getElem hlt, h2]
  have := key xs.length 0 (xs.length + 1) (by omega) (by omega) (fun j hj => by omega)
  simpa using this
theorem marks_set {α : Type} (xs : List α) (m : Nat → α) (i : Nat) (h : i < xs.length) : setI ((List.range i).map m ++ xs.drop i) (i : Int) (m i) = (List.range (i + 1)).map m ++ xs.drop (i + 1) := by
  unfold setI
  rw [Int.toNat_natCast, List.set_append_right _ _ (by simp)]
  simp only [List.length_map, List.length_range, Nat.sub_self, List.drop_eq_getElem_cons h, List.set_cons_zero, List.range_succ, List.map_append, List.map_cons, List.map_nil, List.append_assoc, List.singleton_append]
/-- A loop that writes one place after the other. -/
theorem mark_run {α : Type} (xs : List α) (m : Nat → α) (k0 : Int) (step : Nat) (b : Int × Int × List α → Option (Step (Int × List α) (Int × Int × List α) (Int × List α)))
    (hb : ∀ i : Nat, i < xs.length → ∀ y : List α, y.length = xs.length → b (k0 + (i * step : Nat), i, y) = some (.nxt (k0 + ((i + 1) * step : Nat), (i : Int) + 1, setI y i (m i))))
    (hn : ∀ y : List α, y.length = xs.length → b (k0 + (xs.length * step : Nat), xs.length, y) = some (.brk (k0 + (xs.length * step : Nat), y))) :
    loopF b (xs.length + 1) (k0, 0, xs) = some (.inr (k0 + (xs.length * step : Nat), (List.range xs.length).map m)) := by
  have key : ∀ d i k, i + d = xs.length → d < k → loopF b k (k0 + (i * step : Nat), i, (List.range i).map m ++ xs.drop i) = some (.inr (k0 + (xs.length * step : Nat), (List.range xs.length).map m)) := by
    intro d
    induction d with
    | zero =>
      intro i k hi hk
      obtain ⟨k, rfl⟩ : ∃ j, k = j + 1 := ⟨k - 1, by omega⟩
      have : i = xs.length := by omega
      subst this
      have h9 := hn ((List.range xs.length).map m ++ xs.drop xs.length) (by simp)
      rw [loopF, h9]
      simp
    | succ d ih =>
      intro i k hi hk
      obtain ⟨k, rfl⟩ : ∃ j, k = j + 1 := ⟨k - 1, by omega⟩
      have hlt : i < xs.length := by omega
      have h9 := hb i hlt ((List.range i).map m ++ xs.drop i) (by simp; omega)
      rw [loopF, h9]
      simp only [Option.bind_some, marks_set xs m i hlt]
      have := ih (i + 1) k (by omega) (by omega)
      rw [Int.natCast_add, Int.natCast_one] at this
      exact this
  have := key xs.length 0 (xs.length + 1) (by omega) (by omega)
  simpa using this
theorem partsOf_len (t : List UInt8) : (partsOf t).1.length ≤ 36 := by
  unfold partsOf
  by_cases h : askP t = 0
  · have := (askP_zero h).2
    have := cut_len 47 t
    simp only [h, if_true]; omega
  · simp [h]

end Go.UL
