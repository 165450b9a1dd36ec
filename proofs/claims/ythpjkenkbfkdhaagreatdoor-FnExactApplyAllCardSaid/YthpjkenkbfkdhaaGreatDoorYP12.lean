/- Plain Lean: what the functions compute. -/
import Derived.Test.YthpjkenkbfkdhaaGreatDoorYP11
set_option linter.unusedVariables false
set_option linter.unusedSimpArgs false
namespace Go.UL
open Go.RowKit
/-! ### lists that are collected -/
/-- A loop that collects. -/
theorem collect_run {α β T : Type} (xs : List α) (g : α → Option β) (b : List β × Int → Option (Step T (List β × Int) (List β)))
    (hb : ∀ (i : Nat) (h : i < xs.length) (acc : List β), acc.length ≤ i → b (acc, (i : Int)) = some (.nxt (acc ++ (g xs[i]).toList, (i : Int) + 1))) (hn : ∀ acc : List β, b (acc, (xs.length : Int)) = some (.brk acc)) :
    loopF b (xs.length + 1) ([], 0) = some (.inr (xs.filterMap g)) := by
  have key : ∀ d i k (acc : List β), i + d = xs.length → d < k → acc.length ≤ i → loopF b k (acc, (i : Int)) = some (.inr (acc ++ (xs.drop i).filterMap g)) := by
    intro d
    induction d with
    | zero =>
      intro i k acc hi hk _
      obtain ⟨k, rfl⟩ : ∃ j, k = j + 1 := ⟨k - 1, by omega⟩
      have : i = xs.length := by omega
      subst this
      simp [loopF, hn]
    | succ d ih =>
      intro i k acc hi hk ha
      obtain ⟨k, rfl⟩ : ∃ j, k = j + 1 := ⟨k - 1, by omega⟩
      have hlt : i < xs.length := by omega
      rw [loopF, hb i hlt acc ha]
      simp only [Option.bind_some]
      have hl : (acc ++ (g xs[i]).toList).length ≤ i + 1 := by cases g xs[i] <;> simp <;> omega
      have := ih (i + 1) k (acc ++ (g xs[i]).toList) (by omega) (by omega) hl
      rw [Int.natCast_add, Int.natCast_one] at this
      have e : (xs.drop i).filterMap g = (g xs[i]).toList ++ (xs.drop (i + 1)).filterMap g := by
        rw [List.drop_eq_getElem_cons hlt, List.filterMap_cons]
        cases g xs[i] <;> rfl
      rw [e, ← List.append_assoc]
      exact this
  have := key xs.length 0 (xs.length + 1) [] (by omega) (by omega) (by simp)
  simpa using this
theorem filterMap_if {α β : Type} (q : α → Bool) (f : α → β) (l : List α) : l.filterMap (fun x => if q x then some (f x) else none) = (l.filter q).map f := by
  induction l with
  | nil => rfl
  | cons x l ih =>
    rcases bool_two (q x) with h | h <;> simp [h, ih]
theorem getD_el {α : Type} [Inhabited α] {l : List α} {i : Nat} (h : i < l.length) : l.getD i default = l[i] := by simp [List.getD_eq_getElem?_getD, List.getElem?_eq_getElem h]
/-! ### what is above -/
theorem parentP_lt {t : List UInt8} (h : t ≠ []) : (parentP t).length < t.length := by
  have h1 := lastSlash_lt t
  have h2 := lastSlash_ge t
  have h3 : 0 < t.length := by cases t with | nil => exact absurd rfl h | cons _ _ => simp
  simp [parentP]; omega
def ancsF : Nat → List UInt8 → List (List UInt8)
  | 0, _ => []
  | n + 1, t => if parentP t = [] then [] else parentP t :: ancsF n (parentP t)
/-- All that is above a path, from below. -/
def ancs (t : List UInt8) : List (List UInt8) := ancsF t.length t
theorem parentP_nil : parentP [] = [] := rfl
theorem ancsF_succ : ∀ (c : Nat) (v : List UInt8), v.length ≤ c → ancsF c v = ancsF (c + 1) v := by
  intro c
  induction c with
  | zero => intro v hv; have : v = [] := List.eq_nil_of_length_eq_zero (by omega); subst this; simp [ancsF, parentP_nil]
  | succ c ihc =>
    intro v hv
    rw [ancsF, ancsF]
    by_cases hpv : parentP v = []
    · simp [hpv]
    · simp only [hpv, if_false]
      have hvne : v ≠ [] := by intro e; subst e; exact hpv parentP_nil
      have := parentP_lt hvne
      rw [ihc (parentP v) (by omega)]
theorem ancsF_enough (d : Nat) (t : List UInt8) : ancsF (t.length + d) t = ancs t := by
  induction d with
  | zero => rfl
  | succ d ih => rw [← ih, show t.length + (d + 1) = (t.length + d) + 1 by omega]; exact (ancsF_succ _ _ (by omega)).symm
theorem ancs_eq (t : List UInt8) : ancs t = if parentP t = [] then [] else parentP t :: ancs (parentP t) := by
  have h := ancsF_enough 1 t
  rw [← h, ancsF]
  by_cases hp : parentP t = []
  · simp [hp]
  · simp only [hp, if_false]
    have hne : t ≠ [] := by intro e; subst e; exact hp parentP_nil
    have := parentP_lt hne
    have h2 := ancsF_enough (t.length - (parentP t).length) (parentP t)
    rw [show (parentP t).length + (t.length - (parentP t).length) = t.length by omega] at h2
    rw [h2]
def stopsR (r : Rec) : Bool := !decide (r.kind = 3) || r.opq
def cutsR (l : List Rec) (p : List UInt8) : Bool := (ancs p).any fun x => decide (0 ≤ findR l x) && stopsR (gt l (findR l x))
theorem pathOK_small {p : List UInt8} (h : pathOK p = true) : p.length ≤ 1048576 := by have := pathOK_len h; omega

end Go.UL
