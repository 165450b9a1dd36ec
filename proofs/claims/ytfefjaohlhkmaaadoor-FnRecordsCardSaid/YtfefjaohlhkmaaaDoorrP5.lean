/- Plain Lean: what the functions compute. -/
import Derived.Test.YtfefjaohlhkmaaaDoorrP4
set_option linter.unusedVariables false
set_option linter.unusedSimpArgs false
namespace Go.UL
open Go.RowKit
/-! ### loops, once more -/
/-- Where the first stands that a test holds of, -1 if nowhere. -/
def findI {α : Type} (q : α → Bool) : List α → Int
  | [] => -1
  | x :: l => if q x then 0 else if findI q l = -1 then -1 else findI q l + 1
/-! ### made records -/
def zeroR : Rec := ⟨0, [], [], 0, false⟩
def made (r : Rec) : Rec × Int := if recFault r = 0 then (r, 0) else (zeroR, recFault r)
def makeR (r : Rec) : Rec × Int := if decide (65536 < r.path.length) || decide (65536 < r.body.length) then (zeroR, 2) else made r
theorem len_dec (l : List UInt8) : decide ((65536 : Int) < (l.length : Int)) = decide (65536 < l.length) := by rw [decide_eq_decide]; omega
def spec_l02Made.sh (a0 : Rec) : Option (Rec × Int) :=
  bif (!decide ((recFault a0) = 0)) then (some ((⟨0, ([] : List UInt8), ([] : List UInt8), 0, false⟩ : Rec), (recFault a0))) else (some (a0, 0))
theorem spec_l02Made.eq (a0 : Rec) : spec_l02Made.sh a0 = some ((made a0).1, (made a0).2) := by
  unfold spec_l02Made.sh made
  by_cases h : recFault a0 = 0 <;> simp [h, zeroR]
def spec_MakeWhite.sh (a0 : List UInt8) : Option (Rec × Int) :=
  bif (decide (65536 < (a0.length : Int))) then (some ((⟨0, ([] : List UInt8), ([] : List UInt8), 0, false⟩ : Rec), 2)) else (some (((made (⟨4, a0, ([] : List UInt8), 0, false⟩ : Rec)).1), (made (⟨4, a0, ([] : List UInt8), 0, false⟩ : Rec)).2))
theorem spec_MakeWhite.eq (a0 : List UInt8) : spec_MakeWhite.sh a0 = some ((makeR ⟨4, a0, [], 0, false⟩).1, (makeR ⟨4, a0, [], 0, false⟩).2) := by
  unfold spec_MakeWhite.sh makeR
  rw [len_dec]
  by_cases h : 65536 < a0.length <;> simp [h, zeroR]
def spec_MakeDir.sh (a0 : List UInt8) (a1 : Int) (a2 : Bool) : Option (Rec × Int) :=
  bif (decide (65536 < (a0.length : Int))) then (some ((⟨0, ([] : List UInt8), ([] : List UInt8), 0, false⟩ : Rec), 2)) else (some (((made (⟨3, a0, ([] : List UInt8), a1, a2⟩ : Rec)).1), (made (⟨3, a0, ([] : List UInt8), a1, a2⟩ : Rec)).2))
theorem spec_MakeDir.eq (a0 : List UInt8) (a1 : Int) (a2 : Bool) : spec_MakeDir.sh a0 a1 a2 = some ((makeR ⟨3, a0, [], a1, a2⟩).1, (makeR ⟨3, a0, [], a1, a2⟩).2) := by
  unfold spec_MakeDir.sh makeR
  rw [len_dec]
  by_cases h : 65536 < a0.length <;> simp [h, zeroR]
def spec_MakeFile.sh (a0 : List UInt8) (a1 : List UInt8) (a2 : Int) : Option (Rec × Int) :=
  bif ((decide (65536 < (a0.length : Int))) || (decide (65536 < (a1.length : Int)))) then (some ((⟨0, ([] : List UInt8), ([] : List UInt8), 0, false⟩ : Rec), 2)) else (some (((made (⟨1, a0, a1, a2, false⟩ : Rec)).1), (made (⟨1, a0, a1, a2, false⟩ : Rec)).2))
theorem spec_MakeFile.eq (a0 a1 : List UInt8) (a2 : Int) : spec_MakeFile.sh a0 a1 a2 = some ((makeR ⟨1, a0, a1, a2, false⟩).1, (makeR ⟨1, a0, a1, a2, false⟩).2) := by
  unfold spec_MakeFile.sh makeR
  rw [len_dec, len_dec]
  by_cases h : (decide (65536 < a0.length) || decide (65536 < a1.length)) = true
  · simp only [h, cond_true, if_true, zeroR]
  · simp only [h, cond_false, if_false, Bool.false_eq_true, zeroR]
def spec_MakeLink.sh (a0 : List UInt8) (a1 : List UInt8) : Option (Rec × Int) :=
  bif ((decide (65536 < (a0.length : Int))) || (decide (65536 < (a1.length : Int)))) then (some ((⟨0, ([] : List UInt8), ([] : List UInt8), 0, false⟩ : Rec), 2)) else (some (((made (⟨2, a0, a1, 0, false⟩ : Rec)).1), (made (⟨2, a0, a1, 0, false⟩ : Rec)).2))
theorem spec_MakeLink.eq (a0 a1 : List UInt8) : spec_MakeLink.sh a0 a1 = some ((makeR ⟨2, a0, a1, 0, false⟩).1, (makeR ⟨2, a0, a1, 0, false⟩).2) := by
  unfold spec_MakeLink.sh makeR
  rw [len_dec, len_dec]
  by_cases h : (decide (65536 < a0.length) || decide (65536 < a1.length)) = true
  · simp only [h, cond_true, if_true, zeroR]
  · simp only [h, cond_false, if_false, Bool.false_eq_true, zeroR]
def impl_made.sh (a0 : Rec) : Option (Rec × Int) :=
  bif decide (([a0.path, a0.body] : List (List UInt8)).length ≤ 4611686018427387904) then (bif decide (([.inl (([a0.path, a0.body] : List (List UInt8)).any fun t => decide (65536 < t.length)), .inr 2, .inl true, .inr (recFault a0)] : List (Bool ⊕ Int)).length ≤ 4611686018427387904) then (bif (!decide ((firstOf ([.inl (([a0.path, a0.body] : List (List UInt8)).any fun t => decide (65536 < t.length)), .inr 2, .inl true, .inr (recFault a0)] : List (Bool ⊕ Int))) = 0)) then (some ((⟨0, ([] : List UInt8), ([] : List UInt8), 0, false⟩ : Rec), (firstOf ([.inl (([a0.path, a0.body] : List (List UInt8)).any fun t => decide (65536 < t.length)), .inr 2, .inl true, .inr (recFault a0)] : List (Bool ⊕ Int))))) else (some (a0, 0))) else none) else none
theorem impl_made.eq (a0 : Rec) : impl_made.sh a0 = some ((makeR a0).1, (makeR a0).2) := by
  unfold impl_made.sh makeR made
  simp only [firstOf, anyB, anyI, List.any_cons, List.any_nil, Bool.or_false, List.length_cons, List.length_nil]
  by_cases h : (decide (65536 < a0.path.length) || decide (65536 < a0.body.length)) = true
  · simp [h, zeroR]
  · by_cases h2 : recFault a0 = 0
    · simp [h, h2]
    · simp [h, h2, zeroR]
def impl_MakeWhite.sh (a0 : List UInt8) : Option (Rec × Int) :=
  some (((makeR (⟨4, a0, ([] : List UInt8), 0, false⟩ : Rec)).1), (makeR (⟨4, a0, ([] : List UInt8), 0, false⟩ : Rec)).2)
theorem impl_MakeWhite.eq (a0 : List UInt8) : impl_MakeWhite.sh a0 = some ((makeR ⟨4, a0, [], 0, false⟩).1, (makeR ⟨4, a0, [], 0, false⟩).2) := rfl
def impl_MakeDir.sh (a0 : List UInt8) (a1 : Int) (a2 : Bool) : Option (Rec × Int) :=
  some (((makeR (⟨3, a0, ([] : List UInt8), a1, a2⟩ : Rec)).1), (makeR (⟨3, a0, ([] : List UInt8), a1, a2⟩ : Rec)).2)
theorem impl_MakeDir.eq (a0 : List UInt8) (a1 : Int) (a2 : Bool) : impl_MakeDir.sh a0 a1 a2 = some ((makeR ⟨3, a0, [], a1, a2⟩).1, (makeR ⟨3, a0, [], a1, a2⟩).2) := rfl
def impl_MakeFile.sh (a0 : List UInt8) (a1 : List UInt8) (a2 : Int) : Option (Rec × Int) :=
  some (((makeR (⟨1, a0, a1, a2, false⟩ : Rec)).1), (makeR (⟨1, a0, a1, a2, false⟩ : Rec)).2)
theorem impl_MakeFile.eq (a0 a1 : List UInt8) (a2 : Int) : impl_MakeFile.sh a0 a1 a2 = some ((makeR ⟨1, a0, a1, a2, false⟩).1, (makeR ⟨1, a0, a1, a2, false⟩).2) := rfl
def impl_MakeLink.sh (a0 : List UInt8) (a1 : List UInt8) : Option (Rec × Int) :=
  some (((makeR (⟨2, a0, a1, 0, false⟩ : Rec)).1), (makeR (⟨2, a0, a1, 0, false⟩ : Rec)).2)
theorem impl_MakeLink.eq (a0 a1 : List UInt8) : impl_MakeLink.sh a0 a1 = some ((makeR ⟨2, a0, a1, 0, false⟩).1, (makeR ⟨2, a0, a1, 0, false⟩).2) := rfl

end Go.UL
