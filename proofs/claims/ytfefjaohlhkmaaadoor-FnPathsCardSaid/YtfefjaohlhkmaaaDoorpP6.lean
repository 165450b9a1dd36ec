/- Plain Lean: what the functions compute. -/
import Derived.Test.YtfefjaohlhkmaaaDoorpP5
set_option linter.unusedVariables false
set_option linter.unusedSimpArgs false
namespace Go.UL
open Go.RowKit
/-! ### what is above a path -/
/-- Where the last stroke stands, -1 if nowhere. -/
def lastSlash : List UInt8 → Int
  | [] => -1
  | b :: l => if lastSlash l = -1 then (if bn b = 47 then 0 else -1) else lastSlash l + 1
theorem lastSlash_spec (t : List UInt8) : (lastSlash t = -1 ∧ ∀ j, j < t.length → bn (t.getD j 0) ≠ 47) ∨ ∃ i : Nat, i < t.length ∧ lastSlash t = i ∧ bn (t.getD i 0) = 47 ∧ ∀ j, i < j → j < t.length → bn (t.getD j 0) ≠ 47 := by
  induction t with
  | nil => left; exact ⟨rfl, by simp⟩
  | cons b l ih =>
    rcases ih with ⟨h1, h2⟩ | ⟨i, hi, h1, h2, h3⟩
    · by_cases hb : bn b = 47
      · right
        refine ⟨0, by simp, by simp [lastSlash, h1, hb], by simpa using hb, ?_⟩
        intro j hj hl
        obtain ⟨j, rfl⟩ : ∃ k, j = k + 1 := ⟨j - 1, by omega⟩
        simpa using h2 j (by simpa using hl)
      · left
        refine ⟨by simp [lastSlash, h1, hb], ?_⟩
        intro j hl
        cases j with
        | zero => simpa using hb
        | succ j => simpa using h2 j (by simpa using hl)
    · right
      refine ⟨i + 1, by simpa using hi, ?_, by simpa using h2, ?_⟩
      · have : lastSlash l ≠ -1 := by rw [h1]; omega
        simp only [lastSlash, this, if_false, h1]; omega
      · intro j hj hl
        obtain ⟨j, rfl⟩ : ∃ k, j = k + 1 := ⟨j - 1, by omega⟩
        simpa using h3 j (by omega) (by simpa using hl)
theorem lastSlash_no {t : List UInt8} (h : ∀ j, j < t.length → bn (t.getD j 0) ≠ 47) : lastSlash t = -1 := by
  rcases lastSlash_spec t with ⟨h1, _⟩ | ⟨i, hi, _, h2, _⟩
  · exact h1
  · exact absurd h2 (h i hi)
theorem lastSlash_of {t : List UInt8} {i : Nat} (hi : i < t.length) (h : bn (t.getD i 0) = 47) (hn : ∀ j, i < j → j < t.length → bn (t.getD j 0) ≠ 47) : lastSlash t = i := by
  rcases lastSlash_spec t with ⟨_, h2⟩ | ⟨k, hk, h1, h2, h3⟩
  · exact absurd h (h2 i hi)
  · by_cases e : i = k
    · rw [h1, e]
    · by_cases hlt : i < k
      · exact absurd h2 (hn k hlt hk)
      · exact absurd h (h3 i (by omega) hi)
theorem lastSlash_ge (t : List UInt8) : -1 ≤ lastSlash t := by
  rcases lastSlash_spec t with ⟨h, _⟩ | ⟨i, _, h, _⟩ <;> omega
theorem lastSlash_lt (t : List UInt8) : lastSlash t < t.length := by
  rcases lastSlash_spec t with ⟨h, _⟩ | ⟨i, hi, h, _⟩ <;> omega
/-- What is above; empty of a path of one part. -/
def parentP (t : List UInt8) : List UInt8 := t.take (lastSlash t).toNat
theorem parentP_len (t : List UInt8) : (parentP t).length ≤ t.length := by simp [parentP]; omega
def spec_l01Parent.b1 (a0 : List UInt8) : Int → Option (Step (List UInt8) (Int) (Unit)) :=
  fun x3_1 => bif (decide (0 ≤ x3_1)) then (bif inR x3_1 a0.length then (bif (decide ((byt a0 x3_1) = 47)) then (bif inS 0 x3_1 (a0.length : Int) then (some (.ret (sub a0 0 x3_1))) else none) else (some (.nxt (IntKind.wrap .i64 (x3_1 - 1))))) else none) else (some (.brk ()))
def spec_l01Parent.sh (k : Nat) (a0 : List UInt8) : Option (List UInt8) :=
  (loopF (spec_l01Parent.b1 a0) k (IntKind.wrap .i64 ((a0.length : Int) - 1))).bind fun z => match z with | .inl t => some t | .inr _ => some ([] : List UInt8)
theorem spec_l01Parent.eq (a0 : List UInt8) (h : a0.length ≤ 4611686018427387904) : ∃ k, spec_l01Parent.sh k a0 = some (parentP a0) := by
  refine ⟨a0.length + 1, ?_⟩
  unfold spec_l01Parent.sh
  rw [wrap_small (n := (a0.length : Int) - 1) (by omega) (by omega)]
  have key : ∀ (m k : Nat), m ≤ a0.length → m < k → (∀ j, m ≤ j → j < a0.length → bn (a0.getD j 0) ≠ 47) →
      loopF (spec_l01Parent.b1 a0) k ((m : Int) - 1) = some (if lastSlash a0 = -1 then .inr () else .inl (parentP a0)) := by
    intro m
    induction m with
    | zero =>
      intro k _ hk hn
      obtain ⟨k, rfl⟩ : ∃ j, k = j + 1 := ⟨k - 1, by omega⟩
      have := lastSlash_no fun j hj => hn j (by omega) hj
      have h0 : ¬ (0 : Int) ≤ ((0 : Nat) : Int) - 1 := by omega
      simp [loopF, spec_l01Parent.b1, this]
    | succ m ih =>
      intro k hm hk hn
      obtain ⟨k, rfl⟩ : ∃ j, k = j + 1 := ⟨k - 1, by omega⟩
      have hlt : m < a0.length := by omega
      have e : ((m + 1 : Nat) : Int) - 1 = (m : Int) := by omega
      rw [e]
      have h0 : (0 : Int) ≤ (m : Int) := by omega
      simp only [loopF, spec_l01Parent.b1, h0, decide_true, cond_true, inR_nat hlt, byt_nat]
      by_cases hb : bn (a0.getD m 0) = 47
      · have hl := lastSlash_of hlt hb fun j hj hj2 => hn j (by omega) hj2
        have hne : lastSlash a0 ≠ -1 := by omega
        simp only [hb, decide_true, cond_true, inS_mk (l := 0) (h := (m : Int)) (n := (a0.length : Int)) (by omega) (by omega) (by omega), Option.bind_some, hne, if_false]
        simp [sub, parentP, hl]
      · simp only [hb, decide_false, cond_false, Option.bind_some]
        rw [wrap_small (n := (m : Int) - 1) (by omega) (by omega)]
        exact ih k (by omega) (by omega) fun j hj hj2 => by
          by_cases e : j = m
          · subst e; exact hb
          · exact hn j (by omega) hj2
  rw [key a0.length (a0.length + 1) (by omega) (by omega) (fun j h1 h2 => by omega)]
  by_cases hl : lastSlash a0 = -1
  · simp [hl, parentP]
  · simp [hl]
def parentOf (t : List UInt8) : List UInt8 × Int := if askP t = 0 then (parentP t, 0) else ([], askP t)
def spec_ParentOf.sh (a0 : List UInt8) : Option (List UInt8 × Int) :=
  bif (decide (65536 < (a0.length : Int))) then (some (([] : List UInt8), 2)) else (bif (!decide ((askP a0) = 0)) then (some (([] : List UInt8), (askP a0))) else (bif decide (a0.length ≤ 4611686018427387904) then (some ((parentP a0), 0)) else none))
theorem spec_ParentOf.eq (a0 : List UInt8) : spec_ParentOf.sh a0 = some ((parentOf a0).1, (parentOf a0).2) := by
  unfold spec_ParentOf.sh parentOf
  by_cases h : (65536 : Int) < (a0.length : Int)
  · have h2 : 65536 < a0.length := by omega
    have : askP a0 = 2 := by simp [askP, h2]
    simp [h, this]
  · by_cases h2 : askP a0 = 0
    · have := (askP_zero h2).2
      have h3 : a0.length ≤ 4611686018427387904 := by omega
      simp [h, h2, h3]
    · simp [h, h2]
def impl_parent.sh (a0 : List UInt8) : Option (List UInt8) :=
  bif decide (a0.length ≤ 1048576) then (bif decide (([47] : List UInt8) = [47]) then (bif inS 0 (if ((lastSlash a0) < 0 : Prop) then 0 else (lastSlash a0)) (a0.length : Int) then (some (sub a0 0 (if ((lastSlash a0) < 0 : Prop) then 0 else (lastSlash a0)))) else none) else none) else none
theorem impl_parent.eq (a0 : List UInt8) (h : a0.length ≤ 1048576) : impl_parent.sh a0 = some (parentP a0) := by
  unfold impl_parent.sh
  have hge := lastSlash_ge a0
  have hlt := lastSlash_lt a0
  have hm : (if (lastSlash a0 < 0 : Prop) then 0 else lastSlash a0) = ((lastSlash a0).toNat : Int) := by split <;> omega
  simp only [h, decide_true, cond_true, hm]
  rw [inS_mk (l := 0) (h := ((lastSlash a0).toNat : Int)) (n := (a0.length : Int)) (by omega) (by omega) (by omega)]
  simp [sub, parentP]
  omega
def impl_ParentOf.sh (a0 : List UInt8) : Option (List UInt8 × Int) :=
  bif decide (([a0] : List (List UInt8)).length ≤ 4611686018427387904) then (bif decide (([.inl (([a0] : List (List UInt8)).any fun t => decide (65536 < t.length)), .inr 2, .inl (!(pathOK a0)), .inr 10] : List (Bool ⊕ Int)).length ≤ 4611686018427387904) then ((some (firstOf ([.inl (([a0] : List (List UInt8)).any fun t => decide (65536 < t.length)), .inr 2, .inl (!(pathOK a0)), .inr 10] : List (Bool ⊕ Int)))).bind fun z21 => bif (!decide (z21 = 0)) then (some (([] : List UInt8), z21)) else (bif decide (a0.length ≤ 1048576) then (some ((parentP a0), 0)) else none)) else none) else none
theorem impl_ParentOf.eq (a0 : List UInt8) : impl_ParentOf.sh a0 = some ((parentOf a0).1, (parentOf a0).2) := by
  unfold impl_ParentOf.sh parentOf
  have e : firstOf ([.inl (([a0] : List (List UInt8)).any fun t => decide (65536 < t.length)), .inr 2, .inl (!(pathOK a0)), .inr 10] : List (Bool ⊕ Int)) = askP a0 := by
    simp only [firstOf, anyB, anyI, askP, List.any_cons, List.any_nil, Bool.or_false, decide_eq_true_eq]
    rfl
  rw [e]
  simp only [List.length_cons, List.length_nil, Option.bind_some]
  by_cases h2 : askP a0 = 0
  · have := (askP_zero h2).2
    have h3 : a0.length ≤ 1048576 := by omega
    simp [h2, h3]
  · simp [h2]

end Go.UL
