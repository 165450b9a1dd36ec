/- Plain Lean: what the functions compute. -/
import Derived.Test.YthpjkenkbfkdhaaGreatDoorVP15
set_option linter.unusedVariables false
set_option linter.unusedSimpArgs false
namespace Go.UL
open Go.RowKit
theorem resGo_zero {t : List Nd} {way : List (List UInt8)} : ∀ n, (resGo t way n).2 = 0 → inR (resGo t way n).1 t.length = true := by
  intro n
  induction n with
  | zero => intro h; simp [resGo] at h
  | succ n ih =>
    rw [resGo]
    unfold resStep
    obtain ⟨q, hq⟩ : ∃ q, way.getD n [] = q := ⟨_, rfl⟩
    rw [hq]
    by_cases h1 : findN t q < 0
    · simp [h1]
    · simp only [h1, if_false]
      by_cases hn : n = 0
      · simp only [hn, if_true]; intro _; exact findN_inR h1
      · simp only [hn, if_false]
        by_cases h3 : (gt t (findN t q)).kind = 3
        · simp only [h3, ne_eq, not_true_eq_false, if_false]; exact ih
        · simp [h3]
theorem resolveT_zero {t : List Nd} {p : List UInt8} (h : (resolveT t p).2 = 0) : inR (resolveT t p).1 t.length = true := resGo_zero _ h
def askT (l : List Nd) (p : List UInt8) : Int := if decide (4096 < l.length) || decide (65536 < p.length) then 2 else if !treeOK l then 1 else 0
def zeroN : Nd := ⟨0, [], [], 0⟩
def findNode (l : List Nd) (p : List UInt8) : Nd × Int := if askT l p ≠ 0 then (zeroN, askT l p) else if !pathOK p then (zeroN, 10) else findNd l p
/-! ### what stands in a directory -/
def lastP (t : List UInt8) : List UInt8 := t.drop (lastSlash t + 1).toNat
theorem lastP_joinL {l : List (List UInt8)} {x : List UInt8} (h : ∀ y ∈ l ++ [x], ∀ b ∈ y, bn b ≠ 47) : lastP (joinL (l ++ [x])) = x := by
  by_cases hl : l = []
  · subst hl
    have : lastSlash x = -1 := lastSlash_no fun j hj => h x (by simp) _ (by rw [List.getD_eq_getElem?_getD, List.getElem?_eq_getElem hj]; exact List.getElem_mem hj)
    simp [lastP, joinL, this]
  · rw [joinL_append x hl, lastP, lastSlash_app _ _ (fun b hb => h x (by simp) b hb)]
    have : ((joinL l).length + 1 : Int).toNat = (joinL l).length + 1 := by omega
    rw [this, List.drop_append]
    simp
theorem lastP_cut (t : List UInt8) : gt (cut 47 t) (((cut 47 t).length : Int) - 1) = lastP t := by
  obtain ⟨l, x, hlx⟩ : ∃ l x, cut 47 t = l ++ [x] := ⟨(cut 47 t).dropLast, (cut 47 t).getLast (cut_ne 47 t), (List.dropLast_concat_getLast (cut_ne 47 t)).symm⟩
  have hp := cut_parts t
  have := lastP_joinL (l := l) (x := x) (by rw [← hlx]; exact hp)
  rw [← hlx, joinL_cut] at this
  rw [this, hlx]
  have e : (((l ++ [x]).length : Int) - 1) = ((l.length : Nat) : Int) := by simp
  rw [e, getD_gt]
  simp [List.getD_eq_getElem?_getD]
theorem lastP_len (t : List UInt8) : (lastP t).length ≤ t.length := by simp [lastP]
def listT (l : List Nd) (p : List UInt8) : List (List UInt8) := (l.filter fun n => decide (parentP n.path = p)).map fun n => lastP n.path
theorem listT_len (l : List Nd) (p : List UInt8) : (listT l p).length ≤ l.length := by simpa [listT] using List.length_filter_le _ l
def listDir (l : List Nd) (p : List UInt8) : List (List UInt8) × Int :=
  if askT l p ≠ 0 then ([], askT l p) else if p = [] then (listT l p, 0) else if !pathOK p then ([], 10) else if (findNd l p).2 ≠ 0 then ([], (findNd l p).2) else if (findNd l p).1.kind ≠ 3 then ([], 13) else (listT l p, 0)
theorem listDir_len (l : List Nd) (p : List UInt8) : (listDir l p).1.length ≤ l.length := by
  have := listT_len l p
  unfold listDir
  repeat (split; first | exact this | simp)
  exact this

end Go.UL
