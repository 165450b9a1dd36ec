/- Plain Lean: what the functions compute. -/
import Derived.Test.YtilogldgepaeiabDoorCP15
set_option linter.unusedVariables false
set_option linter.unusedSimpArgs false
namespace Go.UL
open Go.RowKit
theorem resGo_zero {t : List Nd} {way : List (List UInt8)} : ∀ n, (resGo t way n).2 = 0 → inR (resGo t way n).1 t.length = true := by
  intro n
  induction n with
  | zero => intro h; simp [resGo] at h
  | succ n ih =>
    rw [resGo]
    unfold resStep
    obtain ⟨q, hq⟩ : ∃ q, way.getD n [] = q := ⟨_, rfl⟩
    rw [hq]
    by_cases h1 : findN t q < 0
    · simp [h1]
    · simp only [h1, if_false]
      by_cases hn : n = 0
      · simp only [hn, if_true]; intro _; exact findN_inR h1
      · simp only [hn, if_false]
        by_cases h3 : (gt t (findN t q)).kind = 3
        · simp only [h3, ne_eq, not_true_eq_false, if_false]; exact ih
        · simp [h3]
theorem resolveT_zero {t : List Nd} {p : List UInt8} (h : (resolveT t p).2 = 0) : inR (resolveT t p).1 t.length = true := resGo_zero _ h
def askT (l : List Nd) (p : List UInt8) : Int := if decide (4096 < l.length) || decide (65536 < p.length) then 2 else if !treeOK l then 1 else 0
def zeroN : Nd := ⟨0, [], [], 0⟩
def findNode (l : List Nd) (p : List UInt8) : Nd × Int := if askT l p ≠ 0 then (zeroN, askT l p) else if !pathOK p then (zeroN, 10) else findNd l p
def spec_l04Ask.sh (a0 : List Nd) (a1 : List UInt8) : Option (Int) :=
  bif ((decide (4096 < (a0.length : Int))) || (decide (65536 < (a1.length : Int)))) then (some 2) else (bif decide (∀ x ∈ a0, x.path.length ≤ 1048576) then (bif (!(treeOK a0)) then (some 1) else (some 0)) else none)
theorem spec_l04Ask.eq (a0 : List Nd) (a1 : List UInt8) (h1 : ∀ x ∈ a0, x.path.length ≤ 1048576) : spec_l04Ask.sh a0 a1 = some (askT a0 a1) := by
  unfold spec_l04Ask.sh askT
  rw [lenN4096, len_dec]
  by_cases h : (decide (4096 < a0.length) || decide (65536 < a1.length)) = true
  · simp only [h, cond_true, if_true]
  · simp only [h, cond_false, if_false, decide_eq_true h1, cond_true, Bool.false_eq_true]
    rcases bool_two (treeOK a0) with ht | ht <;> simp [ht]
def spec_FindNode.sh (a0 : List Nd) (a1 : List UInt8) : Option (Nd × Int) :=
  bif ((decide (4096 < (a0.length : Int))) || (decide (65536 < (a1.length : Int)))) then (some ((⟨0, ([] : List UInt8), ([] : List UInt8), 0⟩ : Nd), 2)) else (bif decide (∀ x ∈ a0, x.path.length ≤ 1048576) then (bif (!decide ((askT a0 a1) = 0)) then (some ((⟨0, ([] : List UInt8), ([] : List UInt8), 0⟩ : Nd), (askT a0 a1))) else (bif (!(pathOK a1)) then (some ((⟨0, ([] : List UInt8), ([] : List UInt8), 0⟩ : Nd), 10)) else (bif decide (a0.length ≤ 1048576) then (bif decide (pathOK a1 = true) then (some (((findNd a0 a1).1), (findNd a0 a1).2)) else none) else none))) else none)
theorem spec_FindNode.eq (a0 : List Nd) (a1 : List UInt8) (h0 : a0.length ≤ 1048576) (h1 : ∀ x ∈ a0, x.path.length ≤ 1048576) : spec_FindNode.sh a0 a1 = some ((findNode a0 a1).1, (findNode a0 a1).2) := by
  unfold spec_FindNode.sh findNode
  rw [lenN4096, len_dec]
  by_cases h : (decide (4096 < a0.length) || decide (65536 < a1.length)) = true
  · have : askT a0 a1 = 2 := by simp [askT, h]
    simp only [h, cond_true, this]; rfl
  · simp only [h, cond_false, decide_eq_true h1, cond_true]
    by_cases ha : askT a0 a1 = 0
    · rcases bool_two (pathOK a1) with hp | hp
      · simp [ha, hp, h0]
      · simp [ha, hp, zeroN]
    · simp [ha, zeroN]
def impl_FindNode.sh (a0 : List Nd) (a1 : List UInt8) : Option (Nd × Int) :=
  bif decide (([a1] : List (List UInt8)).length ≤ 4611686018427387904) then (bif decide (a0.length ≤ 1048576) then (bif decide (∀ x ∈ a0, x.path.length ≤ 1048576) then (bif decide (([.inl ((([a1] : List (List UInt8)).any fun t => decide (65536 < t.length)) || (decide (4096 < a0.length))), .inr 2, .inl (!(treeOK a0)), .inr 1, .inl (!(pathOK a1)), .inr 10] : List (Bool ⊕ Int)).length ≤ 4611686018427387904) then ((some (firstOf ([.inl ((([a1] : List (List UInt8)).any fun t => decide (65536 < t.length)) || (decide (4096 < a0.length))), .inr 2, .inl (!(treeOK a0)), .inr 1, .inl (!(pathOK a1)), .inr 10] : List (Bool ⊕ Int)))).bind fun z37 => bif (!decide (z37 = 0)) then (some ((⟨0, ([] : List UInt8), ([] : List UInt8), 0⟩ : Nd), z37)) else (bif decide (a0.length ≤ 1048576) then (bif decide (a1.length ≤ 1048576) then (bif (!decide (((resolveT a0 a1).2) = 0)) then (some ((⟨0, ([] : List UInt8), ([] : List UInt8), 0⟩ : Nd), (resolveT a0 a1).2)) else (bif inR ((resolveT a0 a1).1) a0.length then (some ((gt a0 ((resolveT a0 a1).1)), 0)) else none)) else none) else none)) else none) else none) else none) else none
theorem impl_FindNode.eq (a0 : List Nd) (a1 : List UInt8) (h0 : a0.length ≤ 1048576) (h1 : ∀ x ∈ a0, x.path.length ≤ 1048576) : impl_FindNode.sh a0 a1 = some ((findNode a0 a1).1, (findNode a0 a1).2) := by
  unfold impl_FindNode.sh findNode askT
  simp only [h0, decide_true, cond_true, decide_eq_true h1, firstOf_c, List.length_cons, List.length_nil, firstOf, anyB, anyI, List.any_cons, List.any_nil, Bool.or_false]
  rw [Bool.or_comm (decide (65536 < a1.length))]
  by_cases h : 4096 < a0.length
  · simp [h, zeroN]
  · by_cases h2 : 65536 < a1.length
    · simp [h, h2, zeroN]
    · rcases bool_two (treeOK a0) with ht | ht
      · rcases bool_two (pathOK a1) with hp | hp
        · have hs := pathOK_small hp
          rw [resolve_down hp]
          by_cases hc : (resolveT a0 a1).2 = 0
          · simp [h, h2, ht, hp, hs, hc, resolveT_zero hc]
          · simp [h, h2, ht, hp, hs, hc]
        · simp [h, h2, ht, hp, zeroN]
      · simp [h, h2, ht, zeroN]
def law_FindNode.sh (a0 : List Nd) (a1 : List UInt8) : Option (Bool) :=
  bif (decide (1048576 < (a1.length : Int))) then (some true) else (bif decide ((0 : Int) ≤ 1048576) then (bif decide ((1048576 : Int) ≤ 1048576) then (bif decide (a0.length ≤ 9223372036854775807) then (bif decide (∀ x ∈ a0, okNd x) then (bif (decide ((szNdS a0 1048576) < 0)) then (some true) else (bif decide (a0.length ≤ 1048576) then (bif decide (a0.length ≤ 1048576) then (bif decide (∀ x ∈ a0, x.path.length ≤ 1048576) then (bif decide (a0.length ≤ 1048576) then (bif decide (a0.length ≤ 1048576) then (bif decide (∀ x ∈ a0, x.path.length ≤ 1048576) then (bif ((!(decide (((findNode a0 a1).1) = ((findNode a0 a1).1)))) || (!decide (((findNode a0 a1).2) = ((findNode a0 a1).2)))) then (some false) else (bif decide (a0.length ≤ 1048576) then (bif decide (a0.length ≤ 4611686018427387904) then (bif (!(decide (a0 = a0))) then (some false) else (some true)) else none) else none)) else none) else none) else none) else none) else none) else none)) else none) else none) else none) else none)
theorem law_FindNode.eq (a0 : List Nd) (a1 : List UInt8) (h2 : ∀ x ∈ a0, okNd x) (h3 : a0.length ≤ 9223372036854775807) : law_FindNode.sh a0 a1 = some true := by
  unfold law_FindNode.sh
  by_cases ha : (1048576 : Int) < (a1.length : Int)
  · simp [ha]
  · by_cases hs : szNdS a0 1048576 < 0
    · simp [ha, h3, decide_eq_true h2, hs]
    · obtain ⟨h4, h5, h6, _⟩ := szN_of hs (by omega) (by omega)
      have h7 : a0.length ≤ 4611686018427387904 := by omega
      simp [ha, h3, decide_eq_true h2, hs, h4, decide_eq_true h5, h7]
/-! ### what stands in a directory -/
def lastP (t : List UInt8) : List UInt8 := t.drop (lastSlash t + 1).toNat
theorem lastP_joinL {l : List (List UInt8)} {x : List UInt8} (h : ∀ y ∈ l ++ [x], ∀ b ∈ y, bn b ≠ 47) : lastP (joinL (l ++ [x])) = x := by
  by_cases hl : l = []
  · subst hl
    have : lastSlash x = -1 := lastSlash_no fun j hj => h x (by simp) _ (by rw [List.getD_eq_getElem?_getD, List.getElem?_eq_getElem hj]; exact List.getElem_mem hj)
    simp [lastP, joinL, this]
  · rw [joinL_append x hl, lastP, lastSlash_app _ _ (fun b hb => h x (by simp) b hb)]
    have : ((joinL l).length + 1 : Int).toNat = (joinL l).length + 1 := by omega
    rw [this, List.drop_append]
    simp
theorem lastP_cut (t : List UInt8) : gt (cut 47 t) (((cut 47 t).length : Int) - 1) = lastP t := by
  obtain ⟨l, x, hlx⟩ : ∃ l x, cut 47 t = l ++ [x] := ⟨(cut 47 t).dropLast, (cut 47 t).getLast (cut_ne 47 t), (List.dropLast_concat_getLast (cut_ne 47 t)).symm⟩
  have hp := cut_parts t
  have := lastP_joinL (l := l) (x := x) (by rw [← hlx]; exact hp)
  rw [← hlx, joinL_cut] at this
  rw [this, hlx]
  have e : (((l ++ [x]).length : Int) - 1) = ((l.length : Nat) : Int) := by simp
  rw [e, getD_gt]
  simp [List.getD_eq_getElem?_getD]
theorem lastP_len (t : List UInt8) : (lastP t).length ≤ t.length := by simp [lastP]
def listT (l : List Nd) (p : List UInt8) : List (List UInt8) := (l.filter fun n => decide (parentP n.path = p)).map fun n => lastP n.path
theorem listT_len (l : List Nd) (p : List UInt8) : (listT l p).length ≤ l.length := by simpa [listT] using List.length_filter_le _ l
def listDir (l : List Nd) (p : List UInt8) : List (List UInt8) × Int :=
  if askT l p ≠ 0 then ([], askT l p) else if p = [] then (listT l p, 0) else if !pathOK p then ([], 10) else if (findNd l p).2 ≠ 0 then ([], (findNd l p).2) else if (findNd l p).1.kind ≠ 3 then ([], 13) else (listT l p, 0)
theorem listDir_len (l : List Nd) (p : List UInt8) : (listDir l p).1.length ≤ l.length := by
  have := listT_len l p
  unfold listDir
  repeat (split; first | exact this | simp)
  exact this
def spec_l04List.b1 (a0 : List Nd) (a1 : List UInt8) : List (List UInt8) × Int → Option (Step (List (List UInt8)) (List (List UInt8) × Int) (List (List UInt8))) :=
  fun q => match q with
  | (x5_7, x6_9) => bif (decide (x6_9 < (a0.length : Int))) then (bif inR x6_9 a0.length then (bif decide (((gt a0 x6_9).path).length ≤ 4611686018427387904) then (bif (decide ((parentP ((gt a0 x6_9).path)) = a1)) then (bif inR x6_9 a0.length then (bif decide (((gt a0 x6_9).path).length ≤ 1048576) then (bif inR (IntKind.wrap .i64 (((cut 47 ((gt a0 x6_9).path)).length : Int) - 1)) (cut 47 ((gt a0 x6_9).path)).length then (bif decide ((x5_7.length + ([gt (cut 47 ((gt a0 x6_9).path)) (IntKind.wrap .i64 (((cut 47 ((gt a0 x6_9).path)).length : Int) - 1))] : List (List UInt8)).length) * 16 ≤ 140737488355328) then (some (.nxt (x5_7 ++ ([gt (cut 47 ((gt a0 x6_9).path)) (IntKind.wrap .i64 (((cut 47 ((gt a0 x6_9).path)).length : Int) - 1))] : List (List UInt8)), IntKind.wrap .i64 (x6_9 + 1)))) else none) else none) else none) else none) else (some (.nxt (x5_7, IntKind.wrap .i64 (x6_9 + 1))))) else none) else none) else (some (.brk x5_7))
def spec_l04List.sh (k : Nat) (a0 : List Nd) (a1 : List UInt8) : Option (List (List UInt8)) :=
  (loopF (spec_l04List.b1 a0 a1) k (([] : List (List UInt8)), 0)).bind fun z => match z with | .inl t => some t | .inr x5_13 => some x5_13
theorem spec_l04List.eq (a0 : List Nd) (a1 : List UInt8) (h0 : a0.length ≤ 1048576) (h1 : ∀ x ∈ a0, x.path.length ≤ 1048576) : ∃ k, spec_l04List.sh k a0 a1 = some (listT a0 a1) := by
  refine ⟨a0.length + 1, ?_⟩
  unfold spec_l04List.sh
  rw [collect_run a0 (fun n => if decide (parentP n.path = a1) then some (lastP n.path) else none) (spec_l04List.b1 a0 a1) (fun i hi acc ha => by
    have hp := h1 _ (List.getElem_mem hi)
    have hp2 : a0[i].path.length ≤ 4611686018427387904 := by omega
    have e1 : ∀ z : List UInt8, (acc.length + ([z] : List (List UInt8)).length) * 16 ≤ 140737488355328 := fun z => by simp; omega
    have hc := cut_len 47 a0[i].path
    have hc0 : 0 < (cut 47 a0[i].path).length := List.length_pos_iff.2 (cut_ne 47 _)
    have hw : IntKind.wrap .i64 (((cut 47 a0[i].path).length : Int) - 1) = ((cut 47 a0[i].path).length : Int) - 1 := wrap_small (by omega) (by omega)
    have hin : inR (((cut 47 a0[i].path).length : Int) - 1) (cut 47 a0[i].path).length = true := inR_mk (by omega) (by omega)
    simp only [spec_l04List.b1, lt_nat, hi, decide_true, cond_true, inR_nat hi, getD_gt, getD_el hi, hp, hp2, e1, hw, lastP_cut, hin, wrap_succ hi (by omega)]
    by_cases hq : parentP a0[i].path = a1 <;> simp [hq]) (fun acc => by simp [spec_l04List.b1]), filterMap_if]
  simp [listT]
def spec_ListDir.sh (a0 : List Nd) (a1 : List UInt8) : Option (List (List UInt8) × Int) :=
  bif ((decide (4096 < (a0.length : Int))) || (decide (65536 < (a1.length : Int)))) then (some (([] : List (List UInt8)), 2)) else (bif decide (∀ x ∈ a0, x.path.length ≤ 1048576) then (bif (!decide ((askT a0 a1) = 0)) then (some (([] : List (List UInt8)), (askT a0 a1))) else (bif (decide (a1 = ([] : List UInt8))) then (bif decide (a0.length ≤ 1048576) then (bif decide (∀ x ∈ a0, x.path.length ≤ 1048576) then (some ((listT a0 a1), 0)) else none) else none) else (bif (!(pathOK a1)) then (some (([] : List (List UInt8)), 10)) else (bif decide (a0.length ≤ 1048576) then (bif decide (pathOK a1 = true) then (bif (!decide (((findNd a0 a1).2) = 0)) then (some (([] : List (List UInt8)), (findNd a0 a1).2)) else (bif (!decide ((((findNd a0 a1).1).kind) = 3)) then (some (([] : List (List UInt8)), 13)) else (bif decide (a0.length ≤ 1048576) then (bif decide (∀ x ∈ a0, x.path.length ≤ 1048576) then (some ((listT a0 a1), 0)) else none) else none))) else none) else none)))) else none)
theorem spec_ListDir.eq (a0 : List Nd) (a1 : List UInt8) (h0 : a0.length ≤ 1048576) (h1 : ∀ x ∈ a0, x.path.length ≤ 1048576) : spec_ListDir.sh a0 a1 = some ((listDir a0 a1).1, (listDir a0 a1).2) := by
  unfold spec_ListDir.sh listDir
  rw [lenN4096, len_dec]
  by_cases h : (decide (4096 < a0.length) || decide (65536 < a1.length)) = true
  · have : askT a0 a1 = 2 := by simp [askT, h]
    simp only [h, cond_true, this]; rfl
  · simp only [h, cond_false, decide_eq_true h1, cond_true]
    by_cases ha : askT a0 a1 = 0
    · by_cases hn : a1 = []
      · subst hn; simp [ha, h0]
      · rcases bool_two (pathOK a1) with hp | hp
        · by_cases hc : (findNd a0 a1).2 = 0
          · by_cases h3 : (findNd a0 a1).1.kind = 3 <;> simp [ha, hn, hp, h0, hc, h3]
          · simp [ha, hn, hp, h0, hc]
        · simp [ha, hn, hp]
    · simp [ha]
def impl_last.sh (a0 : List UInt8) : Option (List UInt8) :=
  bif decide (a0.length ≤ 1048576) then (bif decide (([47] : List UInt8) = [47]) then (bif inS (IntKind.wrap .i64 ((lastSlash a0) + 1)) (a0.length : Int) (a0.length : Int) then (some (sub a0 (IntKind.wrap .i64 ((lastSlash a0) + 1)) (a0.length : Int))) else none) else none) else none
theorem impl_last.eq (a0 : List UInt8) (h : a0.length ≤ 1048576) : impl_last.sh a0 = some (lastP a0) := by
  unfold impl_last.sh
  have hge := lastSlash_ge a0
  have hlt := lastSlash_lt a0
  have hw : IntKind.wrap .i64 (lastSlash a0 + 1) = lastSlash a0 + 1 := wrap_small (by omega) (by omega)
  simp only [h, decide_true, cond_true, hw]
  rw [inS_mk (l := lastSlash a0 + 1) (h := (a0.length : Int)) (n := (a0.length : Int)) (by omega) (by omega) (by omega)]
  simp [sub, lastP]
def impl_ListDir.b1 (a0 : List Nd) (a1 : List UInt8) : List (List UInt8) × Int → Option (Step (List (List UInt8) × Int) (List (List UInt8) × Int) (List (List UInt8))) :=
  fun q => match q with
  | (x9_65, x60_67) => bif (decide (x60_67 < (a0.length : Int))) then (bif inR x60_67 a0.length then (bif decide (((gt a0 x60_67).path).length ≤ 1048576) then (bif (decide ((parentP ((gt a0 x60_67).path)) = a1)) then (bif decide (((gt a0 x60_67).path).length ≤ 1048576) then (bif decide ((x9_65.length + ([(lastP ((gt a0 x60_67).path))] : List (List UInt8)).length) * 16 ≤ 140737488355328) then (some (.nxt (x9_65 ++ ([(lastP ((gt a0 x60_67).path))] : List (List UInt8)), IntKind.wrap .i64 (x60_67 + 1)))) else none) else none) else (some (.nxt (x9_65, IntKind.wrap .i64 (x60_67 + 1))))) else none) else none) else (some (.brk x9_65))
def impl_ListDir.sh (k : Nat) (a0 : List Nd) (a1 : List UInt8) : Option (List (List UInt8) × Int) :=
  bif decide (([a1] : List (List UInt8)).length ≤ 4611686018427387904) then (bif decide (a0.length ≤ 1048576) then (bif decide (∀ x ∈ a0, x.path.length ≤ 1048576) then (bif decide (([.inl ((([a1] : List (List UInt8)).any fun t => decide (65536 < t.length)) || (decide (4096 < a0.length))), .inr 2, .inl (!(treeOK a0)), .inr 1, .inl (!(decide (a1 = []) || pathOK a1)), .inr 10] : List (Bool ⊕ Int)).length ≤ 4611686018427387904) then ((some (firstOf ([.inl ((([a1] : List (List UInt8)).any fun t => decide (65536 < t.length)) || (decide (4096 < a0.length))), .inr 2, .inl (!(treeOK a0)), .inr 1, .inl (!(decide (a1 = []) || pathOK a1)), .inr 10] : List (Bool ⊕ Int)))).bind fun z31 => bif (!decide (z31 = 0)) then (some ([], z31)) else ((bif (!decide (a1 = ([] : List UInt8))) then (bif decide (a0.length ≤ 1048576) then (bif decide (a1.length ≤ 1048576) then (((bif (decide (((resolveT a0 a1).2) = 0)) then (bif inR ((resolveT a0 a1).1) a0.length then (some (!decide (((gt a0 ((resolveT a0 a1).1)).kind) = 3))) else none) else some false)).bind fun z43 => bif z43 then (bif (!decide ((13 : Int) = 0)) then (some (.inl ([], 13))) else (some (.inr ()))) else (bif (!decide (((resolveT a0 a1).2) = 0)) then (some (.inl ([], (resolveT a0 a1).2))) else (some (.inr ())))) else none) else none) else (some (.inr ())) : Option ((List (List UInt8) × Int) ⊕ (Unit))).bind fun z => match z with | .inl t => some t | .inr _ => (loopF (impl_ListDir.b1 a0 a1) k (([] : List (List UInt8)), 0)).bind fun z => match z with | .inl t => some t | .inr x9_71 => some (x9_71, 0))) else none) else none) else none) else none
theorem impl_ListDir.eq (a0 : List Nd) (a1 : List UInt8) (h0 : a0.length ≤ 1048576) (h1 : ∀ x ∈ a0, x.path.length ≤ 1048576) : ∃ k, impl_ListDir.sh k a0 a1 = some ((listDir a0 a1).1, (listDir a0 a1).2) := by
  refine ⟨a0.length + 1, ?_⟩
  unfold impl_ListDir.sh listDir askT
  have hrun := collect_run (T := List (List UInt8) × Int) a0 (fun n => if decide (parentP n.path = a1) then some (lastP n.path) else none) (impl_ListDir.b1 a0 a1) (fun i hi acc ha => by
    have hp := h1 _ (List.getElem_mem hi)
    have e1 : ∀ z : List UInt8, (acc.length + ([z] : List (List UInt8)).length) * 16 ≤ 140737488355328 := fun z => by simp; omega
    simp only [impl_ListDir.b1, lt_nat, hi, decide_true, cond_true, inR_nat hi, getD_gt, getD_el hi, hp, e1, wrap_succ hi (by omega)]
    by_cases hq : parentP a0[i].path = a1 <;> simp [hq]) (fun acc => by simp [impl_ListDir.b1])
  rw [filterMap_if] at hrun
  rw [hrun]
  simp only [h0, decide_true, cond_true, decide_eq_true h1, firstOf_c, List.length_cons, List.length_nil, firstOf, anyB, anyI, List.any_cons, List.any_nil, Bool.or_false]
  rw [Bool.or_comm (decide (65536 < a1.length))]
  by_cases h : 4096 < a0.length
  · simp [h]
  · by_cases h2 : 65536 < a1.length
    · simp [h, h2]
    · rcases bool_two (treeOK a0) with ht | ht
      · by_cases hn : a1 = []
        · subst hn; simp [h, ht, listT]
        · rcases bool_two (pathOK a1) with hp | hp
          · have hs := pathOK_small hp
            rw [resolve_down hp]
            by_cases hc : (resolveT a0 a1).2 = 0
            · by_cases h3 : (gt a0 (resolveT a0 a1).1).kind = 3 <;> simp [h, h2, ht, hn, hp, hs, hc, resolveT_zero hc, h3, listT]
            · simp [h, h2, ht, hn, hp, hs, hc]
          · simp [h, h2, ht, hn, hp]
      · simp [h, h2, ht]
def law_ListDir.sh (a0 : List Nd) (a1 : List UInt8) : Option (Bool) :=
  bif (decide (1048576 < (a1.length : Int))) then (some true) else (bif decide ((0 : Int) ≤ 1048576) then (bif decide ((1048576 : Int) ≤ 1048576) then (bif decide (a0.length ≤ 9223372036854775807) then (bif decide (∀ x ∈ a0, okNd x) then (bif (decide ((szNdS a0 1048576) < 0)) then (some true) else (bif decide (a0.length ≤ 1048576) then (bif decide (a0.length ≤ 1048576) then (bif decide (∀ x ∈ a0, x.path.length ≤ 1048576) then (bif decide (a0.length ≤ 1048576) then (bif decide (a0.length ≤ 1048576) then (bif decide (∀ x ∈ a0, x.path.length ≤ 1048576) then (bif decide (((listDir a0 a1).1).length ≤ 4611686018427387904) then (bif ((!(decide (((listDir a0 a1).1) = ((listDir a0 a1).1)))) || (!decide (((listDir a0 a1).2) = ((listDir a0 a1).2)))) then (some false) else (bif decide (a0.length ≤ 1048576) then (bif decide (a0.length ≤ 4611686018427387904) then (bif (!(decide (a0 = a0))) then (some false) else (bif decide (a0.length ≤ 1152921504606846976) then (bif decide ((0 : Int) ≤ 1) then (bif decide ((1 : Int) ≤ 4611686018427387904 - 4 * (a0.length : Int)) then (((bif (decide ((1 + 4 * (a0.length : Int)) < 0)) then some true else (bif decide (((listDir a0 a1).1).length ≤ 4611686018427387904) then (some (!(decide (((listDir a0 a1).1) = ((listDir a0 a1).1))))) else none))).bind fun z57 => bif (z57 || (!decide (((listDir a0 a1).2) = ((listDir a0 a1).2)))) then (some false) else (bif decide (((listDir a0 a1).1).length ≤ 4611686018427387904) then (bif decide ((0 : Int) ≤ 1) then (bif decide ((1 : Int) ≤ 4611686018427387904 - (((listDir a0 a1).1).length : Int)) then (bif decide ((marksS ((listDir a0 a1).1).length 1).length ≤ 4611686018427387904) then (bif decide ((0 : Int) ≤ 1) then (bif decide ((1 : Int) ≤ 4611686018427387904 - ((marksS ((listDir a0 a1).1).length 1).length : Int)) then (bif (decide ((heldS (marksS ((listDir a0 a1).1).length 1) 1) < 0)) then (some false) else (bif (!decide ((heldS (marksS ((listDir a0 a1).1).length 1) 1) = (1 + (((listDir a0 a1).1).length : Int)))) then (some false) else (bif decide (a0.length ≤ 1048576) then (bif decide (a0.length ≤ 1048576) then (bif decide (∀ x ∈ a0, x.path.length ≤ 1048576) then (bif decide (((listDir a0 a1).1).length ≤ 4611686018427387904) then (bif ((!(decide (((listDir a0 a1).1) = ((listDir a0 a1).1)))) || (!decide (((listDir a0 a1).2) = ((listDir a0 a1).2)))) then (some false) else (bif decide ((marksS ((listDir a0 a1).1).length 1).length ≤ 4611686018427387904) then (bif decide ((0 : Int) ≤ 1) then (bif decide ((1 : Int) ≤ 4611686018427387904 - ((marksS ((listDir a0 a1).1).length 1).length : Int)) then (bif (decide ((heldS (marksS ((listDir a0 a1).1).length 1) 1) < 0)) then (some false) else (bif (!decide ((heldS (marksS ((listDir a0 a1).1).length 1) 1) = (1 + (((listDir a0 a1).1).length : Int)))) then (some false) else (some true))) else none) else none) else none)) else none) else none) else none) else none))) else none) else none) else none) else none) else none) else none)) else none) else none) else none)) else none) else none)) else none) else none) else none) else none) else none) else none) else none)) else none) else none) else none) else none)
theorem law_ListDir.eq (a0 : List Nd) (a1 : List UInt8) (h2 : ∀ x ∈ a0, okNd x) (h3 : a0.length ≤ 9223372036854775807) : law_ListDir.sh a0 a1 = some true := by
  unfold law_ListDir.sh
  by_cases ha : (1048576 : Int) < (a1.length : Int)
  · simp [ha]
  · by_cases hs : szNdS a0 1048576 < 0
    · simp [ha, h3, decide_eq_true h2, hs]
    · obtain ⟨h4, h5, h6, _⟩ := szN_of hs (by omega) (by omega)
      have hl := listDir_len a0 a1
      have b1 : a0.length ≤ 4611686018427387904 := by omega
      have b2 : (listDir a0 a1).1.length ≤ 4611686018427387904 := by omega
      have b3 : a0.length ≤ 1152921504606846976 := by omega
      have b4 : (1 : Int) ≤ 4611686018427387904 - 4 * (a0.length : Int) := by omega
      have b5 : ¬ (1 + 4 * (a0.length : Int)) < 0 := by omega
      have b7 : (1 : Int) ≤ 4611686018427387904 - ((listDir a0 a1).1.length : Int) := by omega
      have b8 : ¬ (1 + ((listDir a0 a1).1.length : Int)) < 0 := by omega
      simp [ha, h3, decide_eq_true h2, hs, h4, decide_eq_true h5, marksS_length, heldS_marks, b1, b2, b3, b4, b5, b7, b8]

end Go.UL
