/- Plain Lean: what the functions compute. -/
import Derived.Test.YtfefjaohlhkmaaaGreatDoortP26
set_option linter.unusedVariables false
set_option linter.unusedSimpArgs false
namespace Go.UL
open Go.RowKit
/-! ### a node added -/
theorem resStep_dir {t : List Nd} {p : List UInt8} {i : Nat} {m : Nd} (h : lookT t p = some m) (hk : m.kind = 3) (hi : i ≠ 0) : resStep t p i = none := by
  unfold resStep
  have h1 := (findN_look t p).1.2 (by rw [h]; simp)
  rw [if_neg (by omega), if_neg hi, (findN_look t p).2 m h]
  simp [hk]
theorem way_above {t : List Nd} {p x : List UInt8} (ht : Wood t) (hp : pathOK p = true) {m : Nd} (hm : lookT t x = some m) (hx : x = p ∨ x ∈ ancs p) :
    ∀ y ∈ ancs x, ∃ q, lookT t y = some q ∧ q.kind = 3 := by
  intro y hy
  obtain ⟨hmt, he⟩ := look_some hm
  obtain ⟨q, hq, e, hk⟩ := ht.above hmt (p := y) (by rw [he]; exact ancs_below hy)
  exact ⟨q, by rw [← e]; exact lookT_mem ht.rise hq, hk⟩
theorem resolve_there {t : List Nd} {p : List UInt8} (ht : Wood t) (hp : pathOK p = true) {m : Nd} (hm : lookT t p = some m) : resolveT t p = (findN t p, 0) := by
  unfold resolveT
  refine resGo_some _ (i := 0) (by simp) ?_ fun j h0 hj => ?_
  · have h1 := (findN_look t p).1.2 (by rw [hm]; simp)
    show resStep t p 0 = _
    unfold resStep
    rw [if_neg (by omega), if_pos rfl]
  · have hja : j - 1 < (ancs p).length := by simp at hj; omega
    have he : ([p] ++ ancs p).getD j [] = (ancs p)[j - 1] := by
      rw [List.getD_eq_getElem?_getD, List.getElem?_append_right (by simp; omega)]
      simp [List.getElem?_eq_getElem hja]
    rw [he]
    obtain ⟨q, hq, hk⟩ := way_above ht hp hm (.inl rfl) _ (List.getElem_mem hja)
    exact resStep_dir hq hk (by omega)
theorem resolve_notdir {t : List Nd} {p : List UInt8} (ht : Wood t) (hp : pathOK p = true) (hpp : parentP p ≠ []) {m : Nd} (hm : lookT t (parentP p) = some m) (hk : m.kind ≠ 3) : (resolveT t p).2 = 13 := by
  have hanc : ancs p = parentP p :: ancs (parentP p) := by rw [ancs_eq, if_neg hpp]
  have : resolveT t p = (0, 13) := by
    unfold resolveT
    refine resGo_some _ (i := 1) (by simp [hanc]) ?_ fun j h0 hj => ?_
    · have h1 := (findN_look t (parentP p)).1.2 (by rw [hm]; simp)
      have he : ([p] ++ ancs p).getD 1 [] = parentP p := by rw [hanc]; rfl
      rw [he]
      unfold resStep
      rw [if_neg (by omega), if_neg (by omega), (findN_look t (parentP p)).2 m hm]
      simp [hk]
    · obtain ⟨i, rfl⟩ : ∃ i, j = i + 2 := ⟨j - 2, by omega⟩
      have hja : i < (ancs (parentP p)).length := by simp [hanc] at hj; omega
      have he : ([p] ++ ancs p).getD (i + 2) [] = (ancs (parentP p))[i] := by
        rw [hanc, List.getD_eq_getElem?_getD]
        simp [List.getElem?_eq_getElem hja]
      rw [he]
      obtain ⟨q, hq, hk3⟩ := way_above ht hp hm (.inr (by rw [hanc]; simp)) _ (List.getElem_mem hja)
      exact resStep_dir hq hk3 (by omega)
  rw [this]
def addNode (t : List Nd) (n : Nd) : List Nd × Int :=
  if 4096 < t.length then ([], 2) else if !treeOK t || !nodeOK n then ([], 1)
  else if (resolveT t n.path).2 = 0 then (t, 18) else if (resolveT t n.path).2 = 13 then (t, 13)
  else if !isDirN t (parentP n.path) then (t, 12) else if t.length = 24 then (t, 7) else (placeL t n, 0)
theorem filter_two_len {α : Type} (q : α → Bool) (l : List α) : (l.filter q).length + (l.filter fun x => !q x).length = l.length := by
  induction l with
  | nil => rfl
  | cons x l ih => cases h : q x <;> simp [h] <;> omega
theorem placeL_len (t : List Nd) (n : Nd) : (placeL t n).length = t.length + 1 := by
  unfold placeL
  have := filter_two_len (fun x => ltP x.path n.path) t
  simp only [List.length_append, List.length_cons]
  omega
theorem isDirN_look {t : List Nd} {p : List UInt8} (hp : p ≠ []) : isDirN t p = true ↔ ∃ m, lookT t p = some m ∧ m.kind = 3 := by
  unfold isDirN
  simp only [hp, decide_false, Bool.false_or, Bool.and_eq_true, decide_eq_true_eq]
  constructor
  · rintro ⟨h1, h2⟩
    cases hl : lookT t p with
    | none => exact absurd hl ((findN_look t p).1.1 h1)
    | some m => rw [(findN_look t p).2 m hl] at h2; exact ⟨m, rfl, h2⟩
  · rintro ⟨m, hl, hk⟩
    exact ⟨(findN_look t p).1.2 (by rw [hl]; simp), by rw [(findN_look t p).2 m hl]; exact hk⟩
def spec_AddNode.sh (a0 : List Nd) (a1 : Nd) : Option (List Nd × Int) :=
  bif (decide (4096 < (a0.length : Int))) then (some (([] : List Nd), 2)) else (bif decide (∀ x ∈ a0, x.path.length ≤ 1048576) then (bif (((!(treeOK a0)) || (decide (a1.kind = 4))) || (!(decide (recFault (recOf a1) = 0)))) then (some (([] : List Nd), 1)) else (bif decide (a0.length ≤ 1048576) then (bif decide (pathOK a1.path = true) then (bif decide (a1.path.length ≤ 4611686018427387904) then (bif (decide (((findNd a0 a1.path).2) = 0)) then (bif decide ((([] : List Nd).length + a0.length) * 48 ≤ 140737488355328) then (some (([] : List Nd) ++ a0, 18)) else none) else (bif (decide (((findNd a0 a1.path).2) = 13)) then (bif decide ((([] : List Nd).length + a0.length) * 48 ≤ 140737488355328) then (some (([] : List Nd) ++ a0, 13)) else none) else (((bif (!decide ((parentP a1.path) = ([] : List UInt8))) then (bif decide (a0.length ≤ 1048576) then (some (decide ((findN a0 (parentP a1.path)) < 0))) else none) else some false)).bind fun z79 => bif z79 then (bif decide ((([] : List Nd).length + a0.length) * 48 ≤ 140737488355328) then (some (([] : List Nd) ++ a0, 12)) else none) else (((bif (!decide ((parentP a1.path) = ([] : List UInt8))) then (bif decide (a0.length ≤ 1048576) then (bif inR (findN a0 (parentP a1.path)) a0.length then (some (!decide (((gt a0 (findN a0 (parentP a1.path))).kind) = 3))) else none) else none) else some false)).bind fun z101 => bif z101 then (bif decide ((([] : List Nd).length + a0.length) * 48 ≤ 140737488355328) then (some (([] : List Nd) ++ a0, 13)) else none) else (bif (decide ((a0.length : Int) = 24)) then (bif decide ((([] : List Nd).length + a0.length) * 48 ≤ 140737488355328) then (some (([] : List Nd) ++ a0, 7)) else none) else (bif decide (a0.length ≤ 1000000) then (bif decide (∀ x ∈ a0, x.path.length ≤ 1048576) then (bif decide (a1.path.length ≤ 1048576) then (some ((putN a0 a1), 0)) else none) else none) else none)))))) else none) else none) else none)) else none)
theorem spec_AddNode.eq (a0 : List Nd) (a1 : Nd) (h0 : a0.length ≤ 1048576) (h1 : ∀ x ∈ a0, x.path.length ≤ 1048576) (h2 : a1.path.length ≤ 1048576) : spec_AddNode.sh a0 a1 = some ((addNode a0 a1).1, (addNode a0 a1).2) := by
  unfold spec_AddNode.sh addNode
  rw [lenN4096]
  by_cases h : 4096 < a0.length
  · simp only [h, decide_true, cond_true, if_true]
  · have g1 : decide ((([] : List Nd).length + a0.length) * 48 ≤ 140737488355328) = true := decide_eq_true (by simp only [List.length_nil]; omega)
    have g2 : decide (a0.length ≤ 1000000) = true := decide_eq_true (by omega)
    have g3 : decide (a1.path.length ≤ 4611686018427387904) = true := decide_eq_true (by omega)
    simp only [h, decide_false, cond_false, if_false, decide_eq_true h0, decide_eq_true h1, decide_eq_true h2, cond_true, g1, g2, g3, List.nil_append]
    rcases bool_two (treeOK a0) with ht | ht
    · rcases bool_two (nodeOK a1) with hn | hn
      · obtain ⟨n1, n2⟩ := nodeOK_fault hn
        have hp := nodeOK_path hn
        have hw := treeOK_Wood ht
        have hf : (findNd a0 a1.path).2 = (resolveT a0 a1.path).2 := by rw [resolve_down hp]
        simp only [ht, hn, n1, n2, hp, hf, decide_true, decide_false, Bool.not_true, Bool.or_self, cond_false, cond_true, Bool.false_eq_true, if_false]
        by_cases c1 : (resolveT a0 a1.path).2 = 0
        · simp [c1]
        · by_cases c2 : (resolveT a0 a1.path).2 = 13
          · simp [c2]
          · simp only [c1, c2, decide_false, cond_false, if_false]
            have hno : a1.path ∉ a0.map (fun x : Nd => x.path) := fun hm => by
              cases hl : lookT a0 a1.path with
              | none => exact (mem_look (fun n : Nd => n.path)).1 hm hl
              | some m => exact c1 (by rw [resolve_there hw hp hl])
            have hput : putN a0 a1 = placeL a0 a1 := by
              rw [putN_place hw.rise]
              congr 1
              exact List.filter_eq_self.2 fun x hx => by
                rw [decide_eq_false (fun e => hno (by rw [← e]; exact List.mem_map_of_mem hx))]; rfl
            rw [hput]
            have e24 : decide ((a0.length : Int) = 24) = decide (a0.length = 24) := by rw [decide_eq_decide]; omega
            by_cases hpp : parentP a1.path = []
            · have hd : isDirN a0 (parentP a1.path) = true := by unfold isDirN; rw [decide_eq_true hpp]; rfl
              simp only [hpp, decide_true, Bool.not_true, cond_false, Option.bind_some, e24]
              rw [hpp] at hd
              simp only [hd, Bool.not_true, Bool.false_eq_true, if_false]
              by_cases c3 : a0.length = 24 <;> simp [c3]
            · simp only [hpp, decide_false, Bool.not_false, cond_true, Option.bind_some, e24]
              cases hl : lookT a0 (parentP a1.path) with
              | none =>
                have h3 : ¬ 0 ≤ findN a0 (parentP a1.path) := fun h3 => (findN_look _ _).1.1 h3 hl
                have h4 : isDirN a0 (parentP a1.path) = false := by
                  rcases bool_two (isDirN a0 (parentP a1.path)) with h5 | h5
                  · obtain ⟨m, hm, _⟩ := (isDirN_look hpp).1 h5
                    rw [hl] at hm; cases hm
                  · exact h5
                have h6 : findN a0 (parentP a1.path) < 0 := by omega
                simp [h4, h6]
              | some m =>
                have h3 := (findN_look a0 (parentP a1.path)).1.2 (by rw [hl]; simp)
                have h6 : ¬ findN a0 (parentP a1.path) < 0 := by omega
                have hg := (findN_look a0 (parentP a1.path)).2 m hl
                by_cases hk : m.kind = 3
                · have h4 : isDirN a0 (parentP a1.path) = true := (isDirN_look hpp).2 ⟨m, hl, hk⟩
                  have h8 := findN_inR (t := a0) (p := parentP a1.path) h6
                  by_cases c3 : a0.length = 24
                  · rw [c3] at h8
                    simp [h4, h6, hg, hk, h8, c3]
                  · simp [h4, h6, hg, hk, h8, c3]
                · exact absurd (resolve_notdir hw hp hpp hl hk) c2
      · have hq : (decide (a1.kind = 4) || !decide (recFault (recOf a1) = 0)) = true := by
          unfold nodeOK at hn
          cases hz : decide (recFault (recOf a1) = 0) <;> cases hy : decide (a1.kind = 4) <;> simp_all
        simp only [ht, hn, Bool.not_true, Bool.false_or, hq, cond_true]; rfl
    · simp [ht]
def impl_AddNode.sh (a0 : List Nd) (a1 : Nd) : Option (List Nd × Int) :=
  bif decide (a0.length ≤ 1048576) then (bif decide (∀ x ∈ a0, x.path.length ≤ 1048576) then (bif decide (([.inl (decide (4096 < a0.length)), .inr 2, .inl ((!(treeOK a0)) || (!(nodeOK a1))), .inr 1] : List (Bool ⊕ Int)).length ≤ 4611686018427387904) then ((some (firstOf ([.inl (decide (4096 < a0.length)), .inr 2, .inl ((!(treeOK a0)) || (!(nodeOK a1))), .inr 1] : List (Bool ⊕ Int)))).bind fun z28 => bif (!decide (z28 = 0)) then (some ([], z28)) else (bif decide (a0.length ≤ 1048576) then (bif decide (a1.path.length ≤ 1048576) then (bif decide (a1.path.length ≤ 1048576) then (bif decide (a0.length ≤ 1048576) then (bif decide (([.inl (decide (((resolveT a0 a1.path).2) = 0)), .inr 18, .inl (decide (((resolveT a0 a1.path).2) = 13)), .inr 13, .inl (!(isDirN a0 (parentP a1.path))), .inr 12, .inl (decide ((a0.length : Int) = 24)), .inr 7] : List (Bool ⊕ Int)).length ≤ 4611686018427387904) then ((some (firstOf ([.inl (decide (((resolveT a0 a1.path).2) = 0)), .inr 18, .inl (decide (((resolveT a0 a1.path).2) = 13)), .inr 13, .inl (!(isDirN a0 (parentP a1.path))), .inr 12, .inl (decide ((a0.length : Int) = 24)), .inr 7] : List (Bool ⊕ Int)))).bind fun z50 => bif (!decide (z50 = 0)) then (bif decide (a0.length ≤ 1048576) then (some (a0, z50)) else none) else (bif decide (a0.length ≤ 1048575) then (bif decide (riseN a0 = true) then (bif decide (∀ x ∈ a0, x.path.length ≤ 1048576) then (bif decide (a1.path.length ≤ 1048576) then (some ((placeL a0 a1), 0)) else none) else none) else none) else none)) else none) else none) else none) else none) else none)) else none) else none) else none
theorem impl_AddNode.eq (a0 : List Nd) (a1 : Nd) (h0 : a0.length ≤ 1048576) (h1 : ∀ x ∈ a0, x.path.length ≤ 1048576) (h2 : a1.path.length ≤ 1048576) : impl_AddNode.sh a0 a1 = some ((addNode a0 a1).1, (addNode a0 a1).2) := by
  unfold impl_AddNode.sh addNode
  simp only [h0, h2, decide_true, cond_true, decide_eq_true h1, firstOf_c, List.length_cons, List.length_nil, firstOf, anyB, anyI]
  by_cases h : 4096 < a0.length
  · simp [h]
  · rcases bool_two (treeOK a0) with ht | ht
    · have hw := treeOK_Wood ht
      have hr := riseN_mk hw.rise
      have hl := treeOK_len ht
      have h3 : a0.length ≤ 1048575 := by omega
      have e24 : decide ((a0.length : Int) = 24) = decide (a0.length = 24) := by rw [decide_eq_decide]; omega
      rcases bool_two (nodeOK a1) with hn | hn
      · by_cases c1 : (resolveT a0 a1.path).2 = 0
        · simp [h, ht, hn, c1]
        · by_cases c2 : (resolveT a0 a1.path).2 = 13
          · simp [h, ht, hn, c2]
          · rcases bool_two (isDirN a0 (parentP a1.path)) with hd | hd
            · by_cases c3 : a0.length = 24
              · simp [h, ht, hn, c1, c2, hd, e24, c3]
              · simp [h, ht, hn, c1, c2, hd, e24, c3, hr, h3]
            · simp [h, ht, hn, c1, c2, hd]
      · simp [h, ht, hn]
    · simp [h, ht]

/-! ### marks on stacks; stacks applied -/
/-! ### the paths of a stack; many layers as one, from below -/
theorem foldI_runK {α β ρ : Type} [Inhabited α] (l : List α) (f : β → α → β) (Inv : Nat → β → Prop) (b : β × Int → Option (Step ρ (β × Int) β)) (K : Nat) (hK : l.length < K)
    (h1 : ∀ (i : Nat) (s : β), i < l.length → Inv i s → b (s, (i : Int)) = some (.nxt (f s (gt l (i : Int)), ((i + 1 : Nat) : Int))) ∧ Inv (i + 1) (f s (gt l (i : Int))))
    (h2 : ∀ s : β, b (s, (l.length : Int)) = some (.brk s)) (s0 : β) (h0 : Inv 0 s0) : loopF b K (s0, 0) = some (.inr (l.foldl f s0)) ∧ Inv l.length (l.foldl f s0) := by
  have key : ∀ (d i k : Nat) (s : β), i + d = l.length → d < k → Inv i s → loopF b k (s, (i : Int)) = some (.inr ((l.drop i).foldl f s)) ∧ Inv l.length ((l.drop i).foldl f s) := by
    intro d
    induction d with
    | zero =>
      intro i k s hi hk hs
      obtain ⟨k, rfl⟩ : ∃ m, k = m + 1 := ⟨k - 1, by omega⟩
      have : i = l.length := by omega
      subst this
      rw [loopF, h2 s, List.drop_length]; exact ⟨rfl, hs⟩
    | succ d ih =>
      intro i k s hi hk hs
      obtain ⟨k, rfl⟩ : ∃ m, k = m + 1 := ⟨k - 1, by omega⟩
      have hlt : i < l.length := by omega
      obtain ⟨e1, e2⟩ := h1 i s hlt hs
      rw [loopF, e1, drop_gt hlt]
      exact ih (i + 1) k _ (by omega) (by omega) e2
  have := key l.length 0 K s0 (by omega) (by omega) h0
  simpa using this
/-! ### one pass over all layers -/
/-! ### marks on picks -/

/-! ### what a layer makes of each path: the canonical form is told by that alone -/
def viewR (l : List Rec) (p : List UInt8) : Option (Option Nd) := match lookR l p with
  | some r => some (showR r)
  | none => if cutsR l p then some none else none
theorem Sheet.path {l : List Rec} (hs : Sheet l) {p : List UInt8} {r : Rec} (h : lookR l p = some r) : pathOK p = true := by
  obtain ⟨h1, h2⟩ := lookR_some h
  rw [← h2]; exact recFault_path (hs.ok r h1)
theorem Sheet.fault {l : List Rec} (hs : Sheet l) {p : List UInt8} {r : Rec} (h : lookR l p = some r) : recFault r = 0 := hs.ok r (lookR_some h).1
/-! a name that is free -/
set_option linter.unusedSectionVars false
section
variable {a b : List Rec} (ha : Sheet a) (hb : Sheet b) (hlen : a.length + b.length < 256) (hv : ∀ p, pathOK p = true → viewR a p = viewR b p)
include ha hb hlen hv
end
/-! ### canonical forms and combinations make of each path what they should -/
/-! two layers -/
end Go.UL
