/- Plain Lean: what the functions compute. -/
import Derived.Test.YthpjkenkbfkdhaaGreatDoorVP26
set_option linter.unusedVariables false
set_option linter.unusedSimpArgs false
namespace Go.UL
open Go.RowKit
/-! ### a node added -/
theorem resStep_dir {t : List Nd} {p : List UInt8} {i : Nat} {m : Nd} (h : lookT t p = some m) (hk : m.kind = 3) (hi : i ≠ 0) : resStep t p i = none := by
  unfold resStep
  have h1 := (findN_look t p).1.2 (by rw [h]; simp)
  rw [if_neg (by omega), if_neg hi, (findN_look t p).2 m h]
  simp [hk]
theorem way_above {t : List Nd} {p x : List UInt8} (ht : Wood t) (hp : pathOK p = true) {m : Nd} (hm : lookT t x = some m) (hx : x = p ∨ x ∈ ancs p) :
    ∀ y ∈ ancs x, ∃ q, lookT t y = some q ∧ q.kind = 3 := by
  intro y hy
  obtain ⟨hmt, he⟩ := look_some hm
  obtain ⟨q, hq, e, hk⟩ := ht.above hmt (p := y) (by rw [he]; exact ancs_below hy)
  exact ⟨q, by rw [← e]; exact lookT_mem ht.rise hq, hk⟩
theorem resolve_there {t : List Nd} {p : List UInt8} (ht : Wood t) (hp : pathOK p = true) {m : Nd} (hm : lookT t p = some m) : resolveT t p = (findN t p, 0) := by
  unfold resolveT
  refine resGo_some _ (i := 0) (by simp) ?_ fun j h0 hj => ?_
  · have h1 := (findN_look t p).1.2 (by rw [hm]; simp)
    show resStep t p 0 = _
    unfold resStep
    rw [if_neg (by omega), if_pos rfl]
  · have hja : j - 1 < (ancs p).length := by simp at hj; omega
    have he : ([p] ++ ancs p).getD j [] = (ancs p)[j - 1] := by
      rw [List.getD_eq_getElem?_getD, List.getElem?_append_right (by simp; omega)]
      simp [List.getElem?_eq_getElem hja]
    rw [he]
    obtain ⟨q, hq, hk⟩ := way_above ht hp hm (.inl rfl) _ (List.getElem_mem hja)
    exact resStep_dir hq hk (by omega)
theorem resolve_notdir {t : List Nd} {p : List UInt8} (ht : Wood t) (hp : pathOK p = true) (hpp : parentP p ≠ []) {m : Nd} (hm : lookT t (parentP p) = some m) (hk : m.kind ≠ 3) : (resolveT t p).2 = 13 := by
  have hanc : ancs p = parentP p :: ancs (parentP p) := by rw [ancs_eq, if_neg hpp]
  have : resolveT t p = (0, 13) := by
    unfold resolveT
    refine resGo_some _ (i := 1) (by simp [hanc]) ?_ fun j h0 hj => ?_
    · have h1 := (findN_look t (parentP p)).1.2 (by rw [hm]; simp)
      have he : ([p] ++ ancs p).getD 1 [] = parentP p := by rw [hanc]; rfl
      rw [he]
      unfold resStep
      rw [if_neg (by omega), if_neg (by omega), (findN_look t (parentP p)).2 m hm]
      simp [hk]
    · obtain ⟨i, rfl⟩ : ∃ i, j = i + 2 := ⟨j - 2, by omega⟩
      have hja : i < (ancs (parentP p)).length := by simp [hanc] at hj; omega
      have he : ([p] ++ ancs p).getD (i + 2) [] = (ancs (parentP p))[i] := by
        rw [hanc, List.getD_eq_getElem?_getD]
        simp [List.getElem?_eq_getElem hja]
      rw [he]
      obtain ⟨q, hq, hk3⟩ := way_above ht hp hm (.inr (by rw [hanc]; simp)) _ (List.getElem_mem hja)
      exact resStep_dir hq hk3 (by omega)
  rw [this]
def addNode (t : List Nd) (n : Nd) : List Nd × Int :=
  if 4096 < t.length then ([], 2) else if !treeOK t || !nodeOK n then ([], 1)
  else if (resolveT t n.path).2 = 0 then (t, 18) else if (resolveT t n.path).2 = 13 then (t, 13)
  else if !isDirN t (parentP n.path) then (t, 12) else if t.length = 24 then (t, 7) else (placeL t n, 0)
theorem filter_two_len {α : Type} (q : α → Bool) (l : List α) : (l.filter q).length + (l.filter fun x => !q x).length = l.length := by
  induction l with
  | nil => rfl
  | cons x l ih => cases h : q x <;> simp [h] <;> omega
theorem placeL_len (t : List Nd) (n : Nd) : (placeL t n).length = t.length + 1 := by
  unfold placeL
  have := filter_two_len (fun x => ltP x.path n.path) t
  simp only [List.length_append, List.length_cons]
  omega
theorem addNode_len (t : List Nd) (n : Nd) : (addNode t n).1.length ≤ t.length + 1 := by
  have := placeL_len t n
  unfold addNode
  repeat' split
  all_goals first | exact Nat.le_of_eq this | simp | (simp only; omega)
theorem isDirN_look {t : List Nd} {p : List UInt8} (hp : p ≠ []) : isDirN t p = true ↔ ∃ m, lookT t p = some m ∧ m.kind = 3 := by
  unfold isDirN
  simp only [hp, decide_false, Bool.false_or, Bool.and_eq_true, decide_eq_true_eq]
  constructor
  · rintro ⟨h1, h2⟩
    cases hl : lookT t p with
    | none => exact absurd hl ((findN_look t p).1.1 h1)
    | some m => rw [(findN_look t p).2 m hl] at h2; exact ⟨m, rfl, h2⟩
  · rintro ⟨m, hl, hk⟩
    exact ⟨(findN_look t p).1.2 (by rw [hl]; simp), by rw [(findN_look t p).2 m hl]; exact hk⟩

end Go.UL
