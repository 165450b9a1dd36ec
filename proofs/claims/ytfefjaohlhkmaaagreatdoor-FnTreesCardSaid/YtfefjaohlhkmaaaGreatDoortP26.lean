/- Plain Lean: what the functions compute. -/
import Derived.Test.YtfefjaohlhkmaaaGreatDoortP20
set_option linter.unusedVariables false
set_option linter.unusedSimpArgs false
namespace Go.UL
open Go.RowKit
/-! ### lists by paths, whatever stands at them -/
section
variable {α : Type} (f : α → List UInt8)
def lookF (l : List α) (p : List UInt8) : Option α := l.find? fun x => decide (f x = p)
theorem lookF_cons (x : α) (l : List α) (p : List UInt8) : lookF f (x :: l) p = if f x = p then some x else lookF f l p := by
  unfold lookF
  by_cases h : f x = p <;> simp [h]
theorem lookF_none {l : List α} {p : List UInt8} : lookF f l p = none ↔ p ∉ l.map f := by
  induction l with
  | nil => simp [lookF]
  | cons x l ih =>
    rw [lookF_cons]
    by_cases h : f x = p
    · simp [h]
    · rw [if_neg h, ih]
      simp [Ne.symm h]
theorem lookF_some {l : List α} {p : List UInt8} {x : α} (h : lookF f l p = some x) : x ∈ l ∧ f x = p := by
  have h1 := List.mem_of_find?_eq_some h
  have h2 := List.find?_some h
  exact ⟨h1, of_decide_eq_true h2⟩
theorem lookF_of_mem {l : List α} (h : Rise (l.map f)) : ∀ x ∈ l, lookF f l (f x) = some x := by
  induction l with
  | nil => intro x hx; cases hx
  | cons y l ih =>
    intro x hx
    rw [lookF_cons]
    rcases List.mem_cons.1 hx with rfl | hx
    · rw [if_pos rfl]
    · have hlt : ltP (f y) (f x) = true := rise_lt h (f x) (List.mem_map_of_mem hx)
      rw [if_neg (ltP_ne hlt)]
      exact ih (rise_tl h) x hx
theorem filterMap_look {l : List α} (h : Rise (l.map f)) : (l.map f).filterMap (lookF f l) = l := by
  rw [List.filterMap_map]
  have : ∀ m : List α, (∀ x ∈ m, x ∈ l) → m.filterMap (lookF f l ∘ f) = m := by
    intro m
    induction m with
    | nil => intro _; rfl
    | cons x m ih =>
      intro hm
      rw [List.filterMap_cons]
      have h1 : (lookF f l ∘ f) x = some x := lookF_of_mem f h x (hm x (List.mem_cons_self ..))
      rw [h1]
      simp only
      rw [ih fun y hy => hm y (List.mem_cons_of_mem _ hy)]
  exact this l fun _ h => h
theorem mem_look {l : List α} {p : List UInt8} : p ∈ l.map f ↔ lookF f l p ≠ none := by
  constructor
  · intro h e; exact (lookF_none f).1 e h
  · intro h
    by_cases h2 : p ∈ l.map f
    · exact h2
    · exact absurd ((lookF_none f).2 h2) h
/-- Strictly rising lists that show the same at each path are the same. -/
theorem riseF_uniq {a b : List α} (ha : Rise (a.map f)) (hb : Rise (b.map f)) (h : ∀ p, lookF f a p = lookF f b p) : a = b := by
  have hm : a.map f = b.map f := Rise.uniq ha hb fun p => by rw [mem_look, mem_look, h]
  rw [← filterMap_look f ha, ← filterMap_look f hb, hm]
  congr 1
  funext p
  exact h p
theorem findI_look [Inhabited α] (l : List α) (p : List UInt8) : (0 ≤ findI (fun x => decide (f x = p)) l ↔ lookF f l p ≠ none) ∧ ∀ x, lookF f l p = some x → gt l (findI (fun x => decide (f x = p)) l) = x := by
  induction l with
  | nil => simp [findI, lookF]
  | cons y l ih =>
    rw [lookF_cons]
    by_cases h : f y = p
    · simp only [findI, h, decide_true, if_true]
      exact ⟨by simp, fun x hx => by rw [← Option.some.inj hx]; rfl⟩
    · simp only [findI, h, decide_false, Bool.false_eq_true, if_false]
      have hge := findI_ge (fun x => decide (f x = p)) l
      by_cases hm : findI (fun x => decide (f x = p)) l = -1
      · rw [if_pos hm]
        rw [hm] at ih
        refine ⟨ih.1, fun x hx => ?_⟩
        have : lookF f l p = none := by
          by_cases e : lookF f l p = none
          · exact e
          · have := ih.1.2 e; omega
        rw [this] at hx; cases hx
      · rw [if_neg hm]
        obtain ⟨n, hn⟩ : ∃ n : Nat, findI (fun x => decide (f x = p)) l = n := ⟨(findI (fun x => decide (f x = p)) l).toNat, by omega⟩
        rw [hn] at ih ⊢
        refine ⟨⟨fun _ => ih.1.1 (by omega), fun _ => by omega⟩, fun x hx => ?_⟩
        have := ih.2 x hx
        have e : ((n : Int) + 1) = ((n + 1 : Nat) : Int) := by omega
        rw [e, getD_gt, List.getD_cons_succ]
        exact this
end
section
variable {α : Type} (f : α → List UInt8) (hl hu : α → Option α) (hb : α → α → Option α)
end
/-! ### two layers as one -/
/-! ### two layers as one: the program's way and the reference's -/
/-- Right paths, strictly rising. -/
def sheetB (l : List Rec) : Bool := l.all (fun r => pathOK r.path) && decide (l.Pairwise fun a b => ltP a.path b.path = true)
theorem sheetB_path {l : List Rec} (h : sheetB l = true) : ∀ x ∈ l, pathOK x.path = true := by
  simp only [sheetB, Bool.and_eq_true] at h
  exact fun x hx => List.all_eq_true.1 h.1 x hx
theorem sheetB_rise {l : List Rec} (h : sheetB l = true) : Rise (l.map (·.path)) := by
  simp only [sheetB, Bool.and_eq_true] at h
  exact List.pairwise_map.2 (of_decide_eq_true h.2)
theorem sheetB_mk {l : List Rec} (h1 : ∀ x ∈ l, pathOK x.path = true) (h2 : Rise (l.map (·.path))) : sheetB l = true := by
  simp only [sheetB, Bool.and_eq_true]
  exact ⟨List.all_eq_true.2 h1, decide_eq_true (List.pairwise_map.1 h2)⟩
theorem codeAt_less {l : List Rec} {i : Nat} (h : codeAt l i = 0) (h0 : 0 < i) : ltP (l.getD (i - 1) default).path (l.getD i default).path = true := by
  unfold codeAt at h
  split at h
  · omega
  · split at h
    · exact absurd h ‹_›
    · split at h
      · omega
      · split at h
        · omega
        · rename_i h3
          rcases bool_two (lessL (cut 47 (l.getD (i - 1) default).path) (cut 47 (l.getD i default).path)) with h4 | h4
          · exact h4
          · exact absurd ⟨h0, h4⟩ h3
theorem layerOK_rise {l : List Rec} (h : (layerFault l).2 = 0) : Rise (l.map (·.path)) :=
  rise_of_near _ fun i h0 hi => codeAt_less (layerFault_zero h i hi) h0
/-! ### a node's place among nodes in order -/
def riseN (t : List Nd) : Bool := decide (t.Pairwise fun a b => ltP a.path b.path = true)
theorem riseN_rise {t : List Nd} (h : riseN t = true) : Rise (t.map (·.path)) := List.pairwise_map.2 (of_decide_eq_true h)
theorem riseN_mk {t : List Nd} (h : Rise (t.map (·.path))) : riseN t = true := decide_eq_true (List.pairwise_map.1 h)
def lessC (t : List Nd) (p : List UInt8) : Nat := (t.filter fun x => ltP x.path p).length
def placeL (t : List Nd) (n : Nd) : List Nd := t.filter (fun x => ltP x.path n.path) ++ n :: t.filter (fun x => !ltP x.path n.path)
theorem lessC_le (t : List Nd) (p : List UInt8) : lessC t p ≤ t.length := List.length_filter_le _ _
theorem notless_all {x : Nd} {t : List Nd} {p : List UInt8} (hr : Rise ((x :: t).map (·.path))) (hx : ltP x.path p = false) : ∀ y ∈ t, ltP y.path p = false := by
  intro y hy
  have h1 : ltP x.path y.path = true := rise_lt hr y.path (List.mem_map_of_mem hy)
  rcases bool_two (ltP y.path p) with h | h
  · rw [ltP_trans h1 h] at hx; cases hx
  · exact h
theorem less_iff : ∀ {t : List Nd} {p : List UInt8}, Rise (t.map (·.path)) → ∀ h, h < t.length → ltP (t.getD h default).path p = decide (h < lessC t p) := by
  intro t p
  induction t with
  | nil => intro _ h hh; simp at hh
  | cons x t ih =>
    intro hr h hh
    have hr2 := rise_tl hr
    rcases bool_two (ltP x.path p) with hx | hx
    · have hc : lessC (x :: t) p = lessC t p + 1 := by simp [lessC, hx]
      cases h with
      | zero => simp [hx, hc]
      | succ h =>
        rw [List.getD_cons_succ, ih hr2 h (by simpa using hh), hc]
        rw [decide_eq_decide]; omega
    · have hall := notless_all hr hx
      have hc : lessC (x :: t) p = 0 := by
        unfold lessC
        rw [List.length_eq_zero_iff, List.filter_eq_nil_iff]
        intro y hy
        rcases List.mem_cons.1 hy with rfl | hy
        · rw [hx]; simp
        · rw [hall y hy]; simp
      rw [hc]
      have hm : (x :: t).getD h default ∈ x :: t := by rw [getD_el hh]; exact List.getElem_mem hh
      rcases List.mem_cons.1 hm with he | hm
      · rw [he, hx]; simp
      · rw [hall _ hm]; simp
theorem less_split : ∀ {t : List Nd} {p : List UInt8}, Rise (t.map (·.path)) → t.take (lessC t p) = t.filter (fun x => ltP x.path p) ∧ t.drop (lessC t p) = t.filter (fun x => !ltP x.path p) := by
  intro t p
  induction t with
  | nil => intro _; exact ⟨rfl, rfl⟩
  | cons x t ih =>
    intro hr
    obtain ⟨i1, i2⟩ := ih (rise_tl hr)
    rcases bool_two (ltP x.path p) with hx | hx
    · have hc : lessC (x :: t) p = lessC t p + 1 := by simp [lessC, hx]
      rw [hc, List.take_succ_cons, List.drop_succ_cons, i1, i2]
      simp [hx]
    · have hall := notless_all hr hx
      have hc : lessC (x :: t) p = 0 := by
        unfold lessC
        rw [List.length_eq_zero_iff, List.filter_eq_nil_iff]
        intro y hy
        rcases List.mem_cons.1 hy with rfl | hy
        · rw [hx]; simp
        · rw [hall y hy]; simp
      have h1 : (x :: t).filter (fun x => ltP x.path p) = [] := List.length_eq_zero_iff.1 hc
      have h2 : (x :: t).filter (fun x => !ltP x.path p) = x :: t := List.filter_eq_self.2 fun y hy => by
        rcases List.mem_cons.1 hy with rfl | hy
        · rw [hx]; rfl
        · rw [hall y hy]; rfl
      rw [hc, h1, h2]
      exact ⟨rfl, rfl⟩
def cmpN (x y : Nd) : Option Int := bif decide (x.path.length ≤ 1048576) then (bif decide (y.path.length ≤ 1048576) then some (cmpL (cut 47 x.path) (cut 47 y.path)) else none) else none
theorem cmpN_some {x y : Nd} {r : Int} (h : cmpN x y = some r) : x.path.length ≤ 1048576 ∧ y.path.length ≤ 1048576 ∧ r = cmpL (cut 47 x.path) (cut 47 y.path) := by
  unfold cmpN at h
  by_cases h1 : x.path.length ≤ 1048576
  · by_cases h2 : y.path.length ≤ 1048576
    · simp [h1, h2] at h; exact ⟨h1, h2, h.symm⟩
    · simp [h1, h2] at h
  · simp [h1] at h
def slices_BinSearchN.b1 (a0 : List Nd) (a1 : Nd) (a2 : Nd → Nd → Option Int) : Int × Int → Option (Step (Int × Bool) (Int × Int) (Int)) :=
  fun q => match q with
  | (x9_7, x10_8) => bif (decide (x9_7 < x10_8)) then (bif inR (IntKind.wrap .i64 ((IntKind.wrap .u64 (IntKind.wrap .i64 (x9_7 + x10_8))).fdiv (2 ^ 1))) a0.length then ((a2 (gt a0 (IntKind.wrap .i64 ((IntKind.wrap .u64 (IntKind.wrap .i64 (x9_7 + x10_8))).fdiv (2 ^ 1)))) a1).bind fun z31 => bif (decide (z31 < 0)) then (some (.nxt (IntKind.wrap .i64 ((IntKind.wrap .i64 ((IntKind.wrap .u64 (IntKind.wrap .i64 (x9_7 + x10_8))).fdiv (2 ^ 1))) + 1), x10_8))) else (some (.nxt (x9_7, IntKind.wrap .i64 ((IntKind.wrap .u64 (IntKind.wrap .i64 (x9_7 + x10_8))).fdiv (2 ^ 1)))))) else none) else (some (.brk x9_7))
def slices_BinSearchN.sh (k : Nat) (a0 : List Nd) (a1 : Nd) (a2 : Nd → Nd → Option Int) : Option (Int × Bool) :=
  (loopF (slices_BinSearchN.b1 a0 a1 a2) k (0, (a0.length : Int))).bind fun z => match z with | .inl t => some t | .inr x9_12 => bif (!(decide (x9_12 < (a0.length : Int))) || (inR x9_12 a0.length)) then ((a2 (gt a0 x9_12) a1).bind fun z58 => some (x9_12, ((decide (x9_12 < (a0.length : Int))) && (decide (z58 = 0))))) else none
theorem slices_BinSearchN.eq (a0 : List Nd) (a1 : Nd) (a2 : Nd → Nd → Option Int) {r : Int × Bool} (H : slices_BinSearchN.sh 64 a0 a1 a2 = some r) : ∃ k, slices_BinSearchN.sh k a0 a1 a2 = some r := ⟨64, H⟩
theorem binS_loop {t : List Nd} {n : Nd} (h0 : t.length ≤ 1048575) (h1 : Rise (t.map (·.path))) (h2 : ∀ x ∈ t, x.path.length ≤ 1048576) (h3 : n.path.length ≤ 1048576) :
    ∀ (d i j k : Nat), j - i < 2 ^ d → d < k → i ≤ lessC t n.path → lessC t n.path ≤ j → j ≤ t.length → loopF (slices_BinSearchN.b1 t n cmpN) k ((i : Int), (j : Int)) = some (.inr (lessC t n.path : Int)) := by
  intro d
  induction d with
  | zero =>
    intro i j k hd hk hi hj hl
    obtain ⟨k, rfl⟩ : ∃ m, k = m + 1 := ⟨k - 1, by omega⟩
    have hij : i = j := by simp at hd; omega
    subst hij
    have he : lessC t n.path = i := by omega
    rw [loopF]
    have d1 : decide ((i : Int) < (i : Int)) = false := decide_eq_false (by omega)
    simp only [slices_BinSearchN.b1, d1, cond_false, he]; rfl
  | succ d ih =>
    intro i j k hd hk hi hj hl
    obtain ⟨k, rfl⟩ : ∃ m, k = m + 1 := ⟨k - 1, by omega⟩
    rw [loopF]
    by_cases hij : i < j
    · have d1 : decide ((i : Int) < (j : Int)) = true := decide_eq_true (by omega)
      obtain ⟨m, hm⟩ : ∃ m : Nat, m = (i + j) / 2 := ⟨_, rfl⟩
      have w1 : IntKind.wrap .i64 ((i : Int) + (j : Int)) = ((i + j : Nat) : Int) := by rw [wrap_small (by omega) (by omega)]; omega
      have w2 : IntKind.wrap .u64 ((i + j : Nat) : Int) = ((i + j : Nat) : Int) := by rw [IntKind.wrap_u64]; omega
      have w3 : (((i + j : Nat) : Int)).fdiv (2 ^ 1) = (m : Int) := by
        rw [hm, show ((2 : Int) ^ 1) = 2 by rfl, Int.fdiv_eq_ediv_of_nonneg _ (by omega)]; omega
      have w4 : IntKind.wrap .i64 (m : Int) = (m : Int) := wrap_small (by omega) (by omega)
      have w5 : IntKind.wrap .i64 ((m : Int) + 1) = ((m + 1 : Nat) : Int) := by rw [wrap_small (by omega) (by omega)]; omega
      have hml : m < t.length := by omega
      have hp : (t.getD m default).path.length ≤ 1048576 := h2 _ (by rw [getD_el hml]; exact List.getElem_mem hml)
      have hc : cmpN (gt t (m : Int)) n = some (cmpL (cut 47 (t.getD m default).path) (cut 47 n.path)) := by
        unfold cmpN; rw [getD_gt]; simp only [decide_eq_true hp, decide_eq_true h3, cond_true]
      have hcl : decide (cmpL (cut 47 (t.getD m default).path) (cut 47 n.path) < 0) = decide (m < lessC t n.path) := by
        rw [cmpL_less]; exact less_iff h1 m hml
      have hpow : 2 ^ (d + 1) = 2 * 2 ^ d := by rw [Nat.pow_succ]; omega
      simp only [slices_BinSearchN.b1, d1, cond_true, w1, w2, w3, w4, w5, inR_nat hml, hc, Option.bind_some, hcl]
      by_cases hlt : m < lessC t n.path
      · simp only [hlt, decide_true, cond_true]
        exact ih (m + 1) j k (by omega) (by omega) (by omega) hj hl
      · simp only [hlt, decide_false, cond_false]
        exact ih i m k (by omega) (by omega) hi (by omega) (by omega)
    · have he : lessC t n.path = i := by omega
      have d1 : decide ((i : Int) < (j : Int)) = false := decide_eq_false (by omega)
      simp only [slices_BinSearchN.b1, d1, cond_false, he]; rfl
theorem binS_run {t : List Nd} {n : Nd} (h0 : t.length ≤ 1048575) (h1 : riseN t = true) (h2 : ∀ x ∈ t, x.path.length ≤ 1048576) (h3 : n.path.length ≤ 1048576) :
    ∃ fd : Bool, slices_BinSearchN.sh 64 t n cmpN = some ((lessC t n.path : Int), fd) := by
  have hl := binS_loop h0 (riseN_rise h1) h2 h3 20 0 t.length 64 (by omega) (by omega) (Nat.zero_le _) (lessC_le _ _) (Nat.le_refl _)
  have hle := lessC_le t n.path
  unfold slices_BinSearchN.sh
  rw [show ((0 : Int)) = ((0 : Nat) : Int) from rfl, hl]
  have hc : ∃ z, cmpN (gt t (lessC t n.path : Int)) n = some z := by
    unfold cmpN
    have hp : (gt t (lessC t n.path : Int)).path.length ≤ 1048576 := by
      rw [getD_gt]
      by_cases hlt : lessC t n.path < t.length
      · rw [getD_el hlt]; exact h2 _ (List.getElem_mem hlt)
      · rw [List.getD_eq_getElem?_getD, List.getElem?_eq_none (by omega)]; exact Nat.zero_le _
    exact ⟨_, by simp only [decide_eq_true hp, decide_eq_true h3, cond_true]; rfl⟩
  obtain ⟨z, hz⟩ := hc
  have hg : (!(decide ((lessC t n.path : Int) < (t.length : Int))) || inR (lessC t n.path : Int) t.length) = true := by
    by_cases hlt : lessC t n.path < t.length
    · rw [inR_nat hlt]; simp
    · have : decide ((lessC t n.path : Int) < (t.length : Int)) = false := decide_eq_false (by omega)
      rw [this]; rfl
  exact ⟨_, by simp only [Option.bind_some, hg, cond_true, hz]; rfl⟩
def impl_place_1.sh (a0 : Nd) (a1 : Nd) : Option (Int) :=
  bif decide (a0.path.length ≤ 1048576) then (bif decide (a1.path.length ≤ 1048576) then (some (cmpL (cut 47 a0.path) (cut 47 a1.path))) else none) else none
theorem impl_place_1.eq (a0 a1 : Nd) (h0 : a0.path.length ≤ 1048576) (h1 : a1.path.length ≤ 1048576) : impl_place_1.sh a0 a1 = some (cmpL (cut 47 a0.path) (cut 47 a1.path)) := by simp [impl_place_1.sh, h0, h1]

/-! ### what is above and below, by parts -/
theorem cut_app2 : ∀ (p t : List UInt8), cut 47 (p ++ 47 :: t) = cut 47 p ++ cut 47 t := by
  intro p t
  induction p with
  | nil => rw [List.nil_append, cut_cons_eq slash_bn]; rfl
  | cons b p ih =>
    rw [List.cons_append]
    by_cases h : bn b = 47
    · rw [cut_cons_eq h, cut_cons_eq h, ih]; rfl
    · rw [cut_cons_ne h, cut_cons_ne h, ih]
      cases hc : cut 47 p with
      | nil => exact absurd hc (cut_ne _ _)
      | cons x l => rfl
theorem below_iff (q p : List UInt8) : belowP q p = true ↔ ∃ r, r ≠ [] ∧ cut 47 q = cut 47 p ++ r := by
  unfold belowP
  rw [List.isPrefixOf_iff_prefix]
  constructor
  · rintro ⟨t, rfl⟩
    refine ⟨cut 47 t, cut_ne _ _, ?_⟩
    rw [List.append_assoc, List.singleton_append, cut_app2]
  · rintro ⟨r, hr, h⟩
    refine ⟨joinL r, ?_⟩
    have hf : ∀ x ∈ cut 47 p ++ r, ∀ b ∈ x, bn b ≠ 47 := by rw [← h]; exact cut_parts q
    apply cut_inj
    rw [List.append_assoc, List.singleton_append, cut_app2, h, cut_joinL hr fun x hx => hf x (List.mem_append_right _ hx)]
theorem lessL_app : ∀ (a r : List (List UInt8)), r ≠ [] → lessL a (a ++ r) = true := by
  intro a r hr
  induction a with
  | nil => cases r with
    | nil => exact absurd rfl hr
    | cons x r => rfl
  | cons x a ih => simp [lessL, ih]
theorem ltP_below {q p : List UInt8} (h : belowP q p = true) : ltP p q = true := by
  obtain ⟨r, hr, e⟩ := (below_iff q p).1 h
  unfold ltP; rw [e]; exact lessL_app _ _ hr
theorem below_ne {q p : List UInt8} (h : belowP q p = true) : q ≠ p := fun e => ltP_ne (ltP_below h) e.symm
theorem below_irrefl (p : List UInt8) : belowP p p = false := by
  rcases bool_two (belowP p p) with h | h
  · exact absurd rfl (below_ne h)
  · exact h
theorem below_trans {a b c : List UInt8} (h1 : belowP a b = true) (h2 : belowP b c = true) : belowP a c = true := by
  obtain ⟨r, hr, e⟩ := (below_iff a b).1 h1
  obtain ⟨s, hs, f⟩ := (below_iff b c).1 h2
  refine (below_iff a c).2 ⟨s ++ r, by simp [hr], ?_⟩
  rw [e, f, List.append_assoc]
theorem below_asymm {a b : List UInt8} (h : belowP a b = true) : belowP b a = false := by
  rcases bool_two (belowP b a) with h1 | h1
  · exact absurd (below_trans h h1) (by rw [below_irrefl]; simp)
  · exact h1
theorem cut_parent {t : List UInt8} (h : parentP t ≠ []) : cut 47 (parentP t) = (cut 47 t).dropLast := by
  rw [parentP_cut] at h ⊢
  refine cut_joinL (fun e => h (by rw [e]; rfl)) fun x hx => cut_parts t x (List.dropLast_subset _ hx)
theorem below_parent {t : List UInt8} (h : parentP t ≠ []) : belowP t (parentP t) = true := by
  refine (below_iff _ _).2 ⟨[(cut 47 t).getLast (cut_ne _ _)], by simp, ?_⟩
  rw [cut_parent h, List.dropLast_concat_getLast]
theorem ltP_parent {t : List UInt8} (h : parentP t ≠ []) : ltP (parentP t) t = true := ltP_below (below_parent h)
/-- What is above is what has it below. -/
theorem mem_ancs : ∀ (n : Nat) (t x : List UInt8), t.length ≤ n → (x ∈ ancs t → x ≠ [] ∧ belowP t x = true) := by
  intro n
  induction n with
  | zero =>
    intro t x hn hx
    have : t = [] := List.eq_nil_of_length_eq_zero (by omega)
    subst this
    rw [ancs_eq, if_pos parentP_nil] at hx; cases hx
  | succ n ih =>
    intro t x hn hx
    rw [ancs_eq] at hx
    by_cases hp : parentP t = []
    · rw [if_pos hp] at hx; cases hx
    · rw [if_neg hp] at hx
      have ht : t ≠ [] := fun e => by subst e; exact hp parentP_nil
      rcases List.mem_cons.1 hx with rfl | hx
      · exact ⟨hp, below_parent hp⟩
      · obtain ⟨h1, h2⟩ := ih (parentP t) x (by have := parentP_lt ht; omega) hx
        exact ⟨h1, below_trans (below_parent hp) h2⟩
theorem ancs_below {t x : List UInt8} (h : x ∈ ancs t) : belowP t x = true := (mem_ancs _ t x (Nat.le_refl _) h).2
theorem below_ancs {t x : List UInt8} (ht : pathOK t = true) (h : belowP t x = true) : x ∈ ancs t := by
  obtain ⟨r, hr, e⟩ := (below_iff t x).1 h
  rw [ancs_cut ht, List.mem_reverse, List.mem_map]
  have hl : 0 < (cut 47 x).length := List.length_pos_iff.2 (cut_ne _ _)
  have hrl : 0 < r.length := List.length_pos_iff.2 hr
  refine ⟨(cut 47 x).length - 1, List.mem_range.2 ?_, ?_⟩
  · rw [e, List.length_append]; omega
  · rw [e, show (cut 47 x).length - 1 + 1 = (cut 47 x).length by omega, List.take_left, joinL_cut]
theorem pathOK_below {t x : List UInt8} (ht : pathOK t = true) (h : belowP t x = true) : pathOK x = true := by
  obtain ⟨r, hr, e⟩ := (below_iff t x).1 h
  have hrl : 0 < r.length := List.length_pos_iff.2 hr
  simp only [pathOK, Bool.and_eq_true, decide_eq_true_eq, e, List.all_append, List.length_append] at ht ⊢
  refine ⟨?_, by omega, ht.2.2.1⟩
  unfold belowP at h
  rw [List.isPrefixOf_iff_prefix] at h
  have := h.length_le
  simp at this; omega
theorem pathOK_parent {t : List UInt8} (ht : pathOK t = true) (h : parentP t ≠ []) : pathOK (parentP t) = true := pathOK_below ht (below_parent h)
theorem depth_below {t x : List UInt8} (h : belowP t x = true) : (cut 47 x).length < (cut 47 t).length := by
  obtain ⟨r, hr, e⟩ := (below_iff t x).1 h
  have hrl : 0 < r.length := List.length_pos_iff.2 hr
  rw [e, List.length_append]; omega

/-! ### trees however great, and layers on them -/
/-- A tree without a bound. -/
structure Wood (t : List Nd) : Prop where
  rise : Rise (t.map (·.path))
  ok : ∀ n ∈ t, nodeOK n = true
  par : ∀ n ∈ t, parentP n.path ≠ [] → ∃ m ∈ t, m.path = parentP n.path ∧ m.kind = 3
/-- Records in order, each below directories. -/
structure Sheet (l : List Rec) : Prop where
  rise : Rise (l.map (·.path))
  ok : ∀ r ∈ l, recFault r = 0
  par : ∀ r ∈ l, parentP r.path ≠ [] → ∃ q ∈ l, q.path = parentP r.path ∧ q.kind = 3
abbrev lookT (t : List Nd) (p : List UInt8) : Option Nd := lookF (fun n : Nd => n.path) t p
abbrev lookR (l : List Rec) (p : List UInt8) : Option Rec := lookF (fun r : Rec => r.path) l p
theorem lookT_mem {t : List Nd} (h : Rise (t.map (·.path))) {n : Nd} (hn : n ∈ t) : lookT t n.path = some n := lookF_of_mem (fun n : Nd => n.path) h n hn
theorem lookR_mem {l : List Rec} (h : Rise (l.map (·.path))) {r : Rec} (hr : r ∈ l) : lookR l r.path = some r := lookF_of_mem (fun r : Rec => r.path) h r hr
theorem look_some {t : List Nd} {p : List UInt8} {n : Nd} (h : lookT t p = some n) : n ∈ t ∧ n.path = p := lookF_some _ h
theorem lookR_some {l : List Rec} {p : List UInt8} {r : Rec} (h : lookR l p = some r) : r ∈ l ∧ r.path = p := lookF_some _ h
theorem findN_look (t : List Nd) (p : List UInt8) : (0 ≤ findN t p ↔ lookT t p ≠ none) ∧ ∀ x, lookT t p = some x → gt t (findN t p) = x := findI_look (fun n : Nd => n.path) t p
theorem findR_look (l : List Rec) (p : List UInt8) : (0 ≤ findR l p ↔ lookR l p ≠ none) ∧ ∀ x, lookR l p = some x → gt l (findR l p) = x := findI_look (fun r : Rec => r.path) l p
theorem rise_getD {α : Type} [Inhabited α] (f : α → List UInt8) {l : List α} (h : Rise (l.map f)) {i j : Nat} (hij : i < j) (hj : j < l.length) : ltP (f (l.getD i default)) (f (l.getD j default)) = true := by
  rw [getD_el (by omega), getD_el hj]
  have := List.pairwise_iff_getElem.1 (List.pairwise_map.1 h) i j (by omega) hj hij
  exact this
theorem idx_lt {α : Type} [Inhabited α] (f : α → List UInt8) {l : List α} (h : Rise (l.map f)) {i : Nat} (hi : i < l.length) {m : α} (hm : m ∈ l) (hlt : ltP (f m) (f (l.getD i default)) = true) : m ∈ l.take i := by
  obtain ⟨j, hj, rfl⟩ := List.getElem_of_mem hm
  by_cases hji : j < i
  · rw [List.mem_take_iff_getElem]
    exact ⟨j, by omega, rfl⟩
  · exfalso
    have e : l[j] = l.getD j default := (getD_el hj).symm
    rw [e] at hlt
    by_cases he : i = j
    · subst he; rw [ltP_irrefl] at hlt; cases hlt
    · have := rise_getD f h (show i < j by omega) hj
      rw [ltP_asymm this] at hlt; cases hlt
theorem rise_take {α : Type} (f : α → List UInt8) {l : List α} (h : Rise (l.map f)) (i : Nat) : Rise ((l.take i).map f) := by
  rw [List.map_take]; exact List.Pairwise.sublist (List.take_sublist _ _) h
def woodOK (t : List Nd) : Bool := (List.range t.length).all (nodeAtOK t)
theorem treeOK_wood (t : List Nd) : treeOK t = (decide (t.length ≤ 24) && woodOK t) := rfl
theorem wood_of {t : List Nd} (h : woodOK t = true) : Wood t := by
  have hat : ∀ i, i < t.length → nodeAtOK t i = true := fun i hi => List.all_eq_true.1 h i (List.mem_range.2 hi)
  have hr : Rise (t.map (·.path)) := rise_of_near _ fun i h0 hi => by
    have := hat i hi
    have h9 : ¬ i = 0 := by omega
    simp only [nodeAtOK, Bool.and_eq_true, h9, decide_false, Bool.false_or] at this
    exact this.1.2
  refine ⟨hr, fun n hn => ?_, fun n hn hp => ?_⟩
  · obtain ⟨i, hi, rfl⟩ := List.getElem_of_mem hn
    have := hat i hi
    simp only [nodeAtOK, Bool.and_eq_true, getD_el hi] at this
    exact this.1.1
  · obtain ⟨i, hi, rfl⟩ := List.getElem_of_mem hn
    have := hat i hi
    simp only [nodeAtOK, Bool.and_eq_true, getD_el hi] at this
    have h2 := this.2
    unfold isDirN at h2
    simp only [hp, decide_false, Bool.false_or, Bool.and_eq_true, decide_eq_true_eq] at h2
    cases hl : lookT (t.take i) (parentP t[i].path) with
    | none => exact absurd hl ((findN_look _ _).1.1 h2.1)
    | some m =>
      obtain ⟨hm, he⟩ := look_some hl
      rw [(findN_look _ _).2 m hl] at h2
      exact ⟨m, List.mem_of_mem_take hm, he, h2.2⟩
theorem wood_ok {t : List Nd} (h : Wood t) : woodOK t = true := by
  refine List.all_eq_true.2 fun i hi => ?_
  have hi := List.mem_range.1 hi
  have hm : t.getD i default ∈ t := by rw [getD_el hi]; exact List.getElem_mem hi
  simp only [nodeAtOK, Bool.and_eq_true, h.ok _ hm, true_and]
  refine ⟨?_, ?_⟩
  · by_cases h0 : i = 0
    · simp [h0]
    · have := rise_getD (fun n : Nd => n.path) h.rise (show i - 1 < i by omega) hi
      have h9 : lessL (cut 47 (t.getD (i - 1) default).path) (cut 47 (t.getD i default).path) = true := this
      rw [h9]; simp
  · unfold isDirN
    by_cases hp : parentP (t.getD i default).path = []
    · rw [decide_eq_true hp]; rfl
    · obtain ⟨m, hmt, he, hk⟩ := h.par _ hm hp
      have hmi : m ∈ t.take i := idx_lt (fun n : Nd => n.path) h.rise hi hmt (by
        show ltP m.path (t.getD i default).path = true
        rw [he]; exact ltP_parent hp)
      have hl := lookT_mem (rise_take (fun n : Nd => n.path) h.rise i) hmi
      rw [he] at hl
      have h1 := (findN_look (t.take i) (parentP (t.getD i default).path)).1.2 (by rw [hl]; simp)
      have h2 := (findN_look (t.take i) (parentP (t.getD i default).path)).2 m hl
      have hz : findN (t.take i) (parentP (t.getD i default).path) < (t.take i).length := findN_lt _ _
      simp only [hp, decide_false, Bool.false_or, Bool.and_eq_true, decide_eq_true_eq]
      exact ⟨h1, by rw [h2]; exact hk⟩
theorem treeOK_of {t : List Nd} (h : Wood t) (hl : t.length ≤ 24) : treeOK t = true := by rw [treeOK_wood, wood_ok h, decide_eq_true hl]; rfl
theorem treeOK_Wood {t : List Nd} (h : treeOK t = true) : Wood t := by
  rw [treeOK_wood, Bool.and_eq_true] at h
  exact wood_of h.2
theorem treeOK_len {t : List Nd} (h : treeOK t = true) : t.length ≤ 24 := (treeOK_rise h).1
theorem codeAt_par {l : List Rec} {i : Nat} (h : codeAt l i = 0) (hp : parentP (l.getD i default).path ≠ []) : 0 ≤ findR (l.take i) (parentP (l.getD i default).path) ∧ (gt l (findR (l.take i) (parentP (l.getD i default).path))).kind = 3 := by
  unfold codeAt at h
  split at h
  · omega
  · split at h
    · exact absurd h ‹_›
    · split at h
      · omega
      · split at h
        · omega
        · split at h
          · omega
          · split at h
            · omega
            · rename_i h1 h2
              exact ⟨by omega, by
                by_cases e : (gt l (findR (l.take i) (parentP (l.getD i default).path))).kind = 3
                · exact e
                · exact absurd e h2⟩
theorem layer_sheet {l : List Rec} (h : (layerFault l).2 = 0) : Sheet l := by
  refine ⟨layerOK_rise h, layerOK_rec h, fun r hr hp => ?_⟩
  obtain ⟨i, hi, rfl⟩ := List.getElem_of_mem hr
  have e : l[i] = l.getD i default := (getD_el hi).symm
  rw [e] at hp ⊢
  obtain ⟨h1, h2⟩ := codeAt_par (layerFault_zero h i hi) hp
  cases hl : lookR (l.take i) (parentP (l.getD i default).path) with
  | none => exact absurd hl ((findR_look _ _).1.1 h1)
  | some m =>
    obtain ⟨hm, he⟩ := lookR_some hl
    refine ⟨m, List.mem_of_mem_take hm, he, ?_⟩
    have h3 := (findR_look (l.take i) (parentP (l.getD i default).path)).2 m hl
    rw [gtake l i _ h1 (findI_lt _ _)] at h3
    rw [← h3]; exact h2
theorem sheet_layer {l : List Rec} (h : Sheet l) (hn : l.length ≤ 16) : (layerFault l).2 = 0 := by
  rw [layerFault_of fun i hi => ?_]
  have hm : l.getD i default ∈ l := by rw [getD_el hi]; exact List.getElem_mem hi
  unfold codeAt
  rw [if_neg (by omega), if_neg (by rw [h.ok _ hm]; simp)]
  have hlt : 0 < i → ltP (l.getD (i - 1) default).path (l.getD i default).path = true := fun h0 => rise_getD (fun r : Rec => r.path) h.rise (show i - 1 < i by omega) hi
  rw [if_neg (fun ⟨h0, e⟩ => ltP_ne (hlt h0) e.symm), if_neg (fun ⟨h0, e⟩ => by have := hlt h0; unfold ltP at this; rw [e] at this; cases this)]
  by_cases hp : parentP (l.getD i default).path = []
  · rw [if_pos hp]
  · obtain ⟨m, hmt, he, hk⟩ := h.par _ hm hp
    have hmi : m ∈ l.take i := idx_lt (fun r : Rec => r.path) h.rise hi hmt (by
      show ltP m.path (l.getD i default).path = true
      rw [he]; exact ltP_parent hp)
    have hl := lookR_mem (rise_take (fun r : Rec => r.path) h.rise i) hmi
    rw [he] at hl
    have h1 := (findR_look (l.take i) (parentP (l.getD i default).path)).1.2 (by rw [hl]; simp)
    have h2 := (findR_look (l.take i) (parentP (l.getD i default).path)).2 m hl
    rw [gtake l i _ h1 (findI_lt _ _)] at h2
    rw [if_neg hp, if_neg (by omega), if_neg (by rw [h2]; simp [hk])]
/-- Above a node are directories. -/
theorem Wood.up {t : List Nd} (h : Wood t) : ∀ (k : Nat) (n : Nd), n ∈ t → n.path.length ≤ k → ∀ p ∈ ancs n.path, ∃ m ∈ t, m.path = p ∧ m.kind = 3 := by
  intro k
  induction k with
  | zero =>
    intro n hn hk p hp
    have : n.path = [] := List.eq_nil_of_length_eq_zero (by omega)
    rw [this, ancs_eq, if_pos parentP_nil] at hp; cases hp
  | succ k ih =>
    intro n hn hk p hp
    rw [ancs_eq] at hp
    by_cases hpp : parentP n.path = []
    · rw [if_pos hpp] at hp; cases hp
    · rw [if_neg hpp] at hp
      obtain ⟨m, hm, he, hk3⟩ := h.par n hn hpp
      have hne : n.path ≠ [] := fun e => by rw [e] at hpp; exact hpp parentP_nil
      rcases List.mem_cons.1 hp with rfl | hp
      · exact ⟨m, hm, he, hk3⟩
      · exact ih m hm (by rw [he]; have := parentP_lt hne; omega) p (by rw [he]; exact hp)
theorem nodeOK_fault {n : Nd} (h : nodeOK n = true) : recFault (recOf n) = 0 ∧ n.kind ≠ 4 := by
  simp only [nodeOK, Bool.and_eq_true, decide_eq_true_eq, Bool.not_eq_true', decide_eq_false_iff_not] at h
  exact h
theorem Wood.above {t : List Nd} (h : Wood t) {n : Nd} (hn : n ∈ t) {p : List UInt8} (hb : belowP n.path p = true) : ∃ m ∈ t, m.path = p ∧ m.kind = 3 :=
  h.up _ n hn (Nat.le_refl _) p (below_ancs (nodeOK_path (h.ok n hn)) hb)
theorem Sheet.up {t : List Rec} (h : Sheet t) : ∀ (k : Nat) (n : Rec), n ∈ t → n.path.length ≤ k → ∀ p ∈ ancs n.path, ∃ m ∈ t, m.path = p ∧ m.kind = 3 := by
  intro k
  induction k with
  | zero =>
    intro n hn hk p hp
    have : n.path = [] := List.eq_nil_of_length_eq_zero (by omega)
    rw [this, ancs_eq, if_pos parentP_nil] at hp; cases hp
  | succ k ih =>
    intro n hn hk p hp
    rw [ancs_eq] at hp
    by_cases hpp : parentP n.path = []
    · rw [if_pos hpp] at hp; cases hp
    · rw [if_neg hpp] at hp
      obtain ⟨m, hm, he, hk3⟩ := h.par n hn hpp
      have hne : n.path ≠ [] := fun e => by rw [e] at hpp; exact hpp parentP_nil
      rcases List.mem_cons.1 hp with rfl | hp
      · exact ⟨m, hm, he, hk3⟩
      · exact ih m hm (by rw [he]; have := parentP_lt hne; omega) p (by rw [he]; exact hp)
theorem Sheet.above {t : List Rec} (h : Sheet t) {n : Rec} (hn : n ∈ t) {p : List UInt8} (hb : belowP n.path p = true) : ∃ m ∈ t, m.path = p ∧ m.kind = 3 :=
  h.up _ n hn (Nat.le_refl _) p (below_ancs (recFault_path (h.ok n hn)) hb)
theorem look_filter {α : Type} (f : α → List UInt8) (q : α → Bool) {l : List α} (h : Rise (l.map f)) (p : List UInt8) : lookF f (l.filter q) p = (lookF f l p).filter q := by
  induction l with
  | nil => rfl
  | cons x l ih =>
    have ih := ih (rise_tl h)
    rw [lookF_cons]
    by_cases hx : q x = true
    · rw [List.filter_cons_of_pos hx, lookF_cons, ih]
      by_cases e : f x = p
      · rw [if_pos e, if_pos e, Option.filter_some, if_pos hx]
      · rw [if_neg e, if_neg e]
    · rw [List.filter_cons_of_neg hx, ih]
      by_cases e : f x = p
      · have : lookF f l p = none := (lookF_none f).2 fun hm => ltP_ne (rise_lt h p hm) e
        rw [if_pos e, this, Option.filter_some, if_neg hx]; rfl
      · rw [if_neg e]
theorem rise_filter {α : Type} (f : α → List UInt8) (q : α → Bool) {l : List α} (h : Rise (l.map f)) : Rise ((l.filter q).map f) :=
  List.Pairwise.sublist (List.Sublist.map f List.filter_sublist) h
theorem look_filterT {t : List Nd} (h : Rise (t.map (·.path))) (q : Nd → Bool) (p : List UInt8) : lookT (t.filter q) p = (lookT t p).filter q := look_filter (fun n : Nd => n.path) q h p
theorem place_spec {t : List Nd} {n : Nd} (h : Rise (t.map (·.path))) (hn : n.path ∉ t.map (·.path)) : Rise ((placeL t n).map (·.path)) ∧ ∀ p, lookT (placeL t n) p = if p = n.path then some n else lookT t p := by
  have hr : Rise ((placeL t n).map (·.path)) := by
    unfold placeL Rise
    rw [List.map_append, List.map_cons, List.pairwise_append, List.pairwise_cons]
    have hgt : ∀ y ∈ (t.filter fun x => !ltP x.path n.path).map (fun x : Nd => x.path), ltP n.path y = true := by
      intro y hy
      obtain ⟨x, hx, rfl⟩ := List.mem_map.1 hy
      obtain ⟨hx1, hx2⟩ := List.mem_filter.1 hx
      rcases bool_two (ltP n.path x.path) with h1 | h1
      · exact h1
      · have h2 : ltP x.path n.path = false := by simpa using hx2
        exact absurd (List.mem_map_of_mem (f := fun x : Nd => x.path) hx1) (by rw [show x.path = n.path from ltP_tri h2 h1]; exact hn)
    refine ⟨rise_filter _ _ h, ⟨hgt, rise_filter _ _ h⟩, fun a ha b hb => ?_⟩
    obtain ⟨x, hx, rfl⟩ := List.mem_map.1 ha
    have h1 := (List.mem_filter.1 hx).2
    rcases List.mem_cons.1 hb with rfl | hb
    · exact h1
    · exact ltP_trans h1 (hgt b hb)
  refine ⟨hr, fun p => ?_⟩
  by_cases e : p = n.path
  · subst e
    rw [if_pos rfl]
    exact lookT_mem hr (by unfold placeL; simp)
  · rw [if_neg e]
    have key : ∀ x, lookT (placeL t n) p = some x ↔ lookT t p = some x := by
      intro x
      constructor
      · intro hx
        obtain ⟨h1, h2⟩ := look_some hx
        unfold placeL at h1
        rw [List.mem_append, List.mem_cons] at h1
        rcases h1 with h1 | h1 | h1
        · rw [← h2]; exact lookT_mem h (List.mem_filter.1 h1).1
        · exact absurd (by rw [← h2, h1]) e
        · rw [← h2]; exact lookT_mem h (List.mem_filter.1 h1).1
      · intro hx
        obtain ⟨h1, h2⟩ := look_some hx
        rw [← h2]
        refine lookT_mem hr ?_
        unfold placeL
        rw [List.mem_append, List.mem_cons]
        rcases bool_two (ltP x.path n.path) with h3 | h3
        · exact .inl (List.mem_filter.2 ⟨h1, h3⟩)
        · exact .inr (.inr (List.mem_filter.2 ⟨h1, by rw [h3]; rfl⟩))
    cases hl : lookT t p with
    | none =>
      cases hl2 : lookT (placeL t n) p with
      | none => rfl
      | some x => rw [(key x).1 hl2] at hl; cases hl
    | some x => exact (key x).2 hl
/-- Put in order, in the place of a node of its path. -/
def putN (t : List Nd) (n : Nd) : List Nd := t.takeWhile (fun x => ltP x.path n.path) ++ n :: (match t.dropWhile (fun x => ltP x.path n.path) with | [] => [] | y :: r => if y.path = n.path then r else y :: r)
theorem rise_while {t : List Nd} {p : List UInt8} (h : Rise (t.map (·.path))) : t.takeWhile (fun x => ltP x.path p) = t.filter (fun x => ltP x.path p) ∧ t.dropWhile (fun x => ltP x.path p) = t.filter (fun x => !ltP x.path p) := by
  induction t with
  | nil => exact ⟨rfl, rfl⟩
  | cons x t ih =>
    obtain ⟨i1, i2⟩ := ih (rise_tl h)
    rcases bool_two (ltP x.path p) with hx | hx
    · simp only [List.takeWhile_cons, List.dropWhile_cons, List.filter_cons, hx, if_true, i1, i2]
      simp
    · have hall := notless_all h hx
      have h1 : t.filter (fun x => ltP x.path p) = [] := List.filter_eq_nil_iff.2 fun y hy => by rw [hall y hy]; simp
      have h2 : t.filter (fun x => !ltP x.path p) = t := List.filter_eq_self.2 fun y hy => by rw [hall y hy]; rfl
      simp [List.takeWhile_cons, List.dropWhile_cons, List.filter_cons, hx, h1, h2]
theorem putN_place {t : List Nd} {n : Nd} (h : Rise (t.map (·.path))) : putN t n = placeL (t.filter fun x => !decide (x.path = n.path)) n := by
  obtain ⟨h1, h2⟩ := rise_while (p := n.path) h
  unfold putN placeL
  rw [h1, h2, List.filter_filter, List.filter_filter]
  have e1 : t.filter (fun x => ltP x.path n.path && !decide (x.path = n.path)) = t.filter (fun x => ltP x.path n.path) := by
    refine List.filter_congr fun x _ => ?_
    rcases bool_two (ltP x.path n.path) with h3 | h3
    · rw [h3, decide_eq_false (ltP_ne h3)]; rfl
    · rw [h3]; rfl
  rw [e1]
  congr 2
  have hr := rise_filter (fun x : Nd => x.path) (fun x => !ltP x.path n.path) h
  have hnl : ∀ x ∈ t.filter (fun x => !ltP x.path n.path), ltP x.path n.path = false := fun x hx => by simpa using (List.mem_filter.1 hx).2
  have e2 : t.filter (fun x => (!ltP x.path n.path) && !decide (x.path = n.path)) = (t.filter (fun x => !ltP x.path n.path)).filter fun x => !decide (x.path = n.path) := by
    rw [List.filter_filter]
    exact List.filter_congr fun x _ => Bool.and_comm _ _
  rw [e2]
  cases hd : t.filter (fun x => !ltP x.path n.path) with
  | nil => rfl
  | cons y r =>
    rw [hd] at hr hnl
    have hrest : ∀ x ∈ r, x.path ≠ n.path := by
      intro x hx e
      have h3 : ltP y.path x.path = true := rise_lt hr x.path (List.mem_map_of_mem hx)
      rw [e, hnl y (List.mem_cons_self ..)] at h3; cases h3
    have hfr : r.filter (fun x => !decide (x.path = n.path)) = r := List.filter_eq_self.2 fun x hx => by rw [decide_eq_false (hrest x hx)]; rfl
    by_cases e : y.path = n.path
    · simp [e, hfr]
    · simp [e, hfr]
/-- What one record makes of a tree, as the reference does it and as the program does it. -/
def doS (t : List Nd) (r : Rec) : List Nd :=
  if r.kind = 4 then without t r.path true
  else if r.kind ≠ 3 ∨ r.opq = true ∨ (0 ≤ findN t r.path ∧ (gt t (findN t r.path)).kind ≠ 3) then putN (without t r.path false) (ndOf r) else putN t (ndOf r)
def doI (t : List Nd) (r : Rec) : List Nd :=
  if (r.kind = 3 ∧ r.opq = false) ∧ 0 ≤ findN t r.path ∧ (gt t (findN t r.path)).kind = 3 then setI t (findN t r.path) ⟨(gt t (findN t r.path)).kind, (gt t (findN t r.path)).path, (gt t (findN t r.path)).body, r.mode⟩
  else if r.kind = 4 then without t r.path true else placeL (without t r.path true) (ndOf r)
def showR (r : Rec) : Option Nd := if r.kind = 4 then none else some (ndOf r)
/-- What stands at a path behind a record. -/
def seenR (t : List Nd) (r : Rec) (p : List UInt8) : Option Nd := if p = r.path then showR r else if stopsR r && belowP p r.path then none else lookT t p
theorem dir_body {r : Rec} (h : recFault r = 0) (hk : r.kind = 3) : r.body = [] := by
  unfold recFault at h
  split at h
  · omega
  · split at h
    · omega
    · split at h
      · omega
      · split at h
        · omega
        · rename_i h4
          by_cases e : r.body = []
          · exact e
          · exact absurd (by simp [hk, e]) h4
theorem without_look {t : List Nd} (h : Rise (t.map (·.path))) {p : List UInt8} (hp : p ≠ []) (b : Bool) (q : List UInt8) : lookT (without t p b) q = if belowP q p || (b && decide (q = p)) then none else lookT t q := by
  unfold without
  rw [look_filterT h]
  cases hl : lookT t q with
  | none => rw [ite_self]; rfl
  | some x =>
    have e := (look_some hl).2
    subst e
    simp only [hp, decide_false, Bool.false_and, Bool.false_or, Option.filter_some]
    cases belowP x.path p <;> cases b <;> cases hd : decide (x.path = p) <;> simp
theorem without_rise {t : List Nd} (h : Rise (t.map (·.path))) (p : List UInt8) (b : Bool) : Rise ((without t p b).map (·.path)) := rise_filter _ _ h
theorem none_below {t : List Nd} (h : Wood t) {p q : List UInt8} (hb : belowP q p = true) (hd : ∀ m ∈ t, m.path = p → m.kind ≠ 3) : lookT t q = none := by
  cases hl : lookT t q with
  | none => rfl
  | some n =>
    obtain ⟨hn, e⟩ := look_some hl
    subst e
    obtain ⟨m, hm, h1, h2⟩ := h.above hn hb
    exact absurd h2 (hd m hm h1)
theorem putN_look {t : List Nd} (h : Rise (t.map (·.path))) (n : Nd) : Rise ((putN t n).map (·.path)) ∧ ∀ p, lookT (putN t n) p = if p = n.path then some n else lookT t p := by
  rw [putN_place h]
  have hr := rise_filter (fun x : Nd => x.path) (fun x => !decide (x.path = n.path)) h
  have hn : n.path ∉ (t.filter fun x => !decide (x.path = n.path)).map (fun x : Nd => x.path) := by
    intro hm
    obtain ⟨x, hx, e⟩ := List.mem_map.1 hm
    have := (List.mem_filter.1 hx).2
    simp [e] at this
  obtain ⟨h1, h2⟩ := place_spec hr hn
  refine ⟨h1, fun p => ?_⟩
  rw [h2]
  by_cases e : p = n.path
  · simp [e]
  · simp only [if_neg e]
    rw [look_filterT h]
    cases hl : lookT t p with
    | none => rfl
    | some x =>
      have e2 := (look_some hl).2
      subst e2
      rw [Option.filter_some, decide_eq_false e]; rfl
theorem recFault_ne {r : Rec} (h : recFault r = 0) : r.path ≠ [] := pathOK_ne (recFault_path h)
theorem doS_spec {t : List Nd} {r : Rec} (h : Wood t) (hr : recFault r = 0) : Rise ((doS t r).map (·.path)) ∧ ∀ p, lookT (doS t r) p = seenR t r p := by
  have hne := recFault_ne hr
  unfold doS seenR showR
  by_cases h4 : r.kind = 4
  · have hst : stopsR r = true := by simp [stopsR, h4]
    rw [if_pos h4]
    refine ⟨without_rise h.rise _ _, fun p => ?_⟩
    rw [without_look h.rise hne]
    by_cases e : p = r.path
    · simp [e, h4]
    · simp [e, hst]
  · rw [if_neg h4]
    by_cases hc : r.kind ≠ 3 ∨ r.opq = true ∨ (0 ≤ findN t r.path ∧ (gt t (findN t r.path)).kind ≠ 3)
    · rw [if_pos hc]
      obtain ⟨h1, h2⟩ := putN_look (without_rise h.rise r.path false) (ndOf r)
      refine ⟨h1, fun p => ?_⟩
      rw [h2]
      have hpath : (ndOf r).path = r.path := rfl
      by_cases e : p = r.path
      · rw [if_pos (by rw [e]; rfl), if_pos e, if_neg h4]
      · rw [if_neg (by rw [hpath]; exact e), if_neg e, without_look h.rise hne]
        simp only [Bool.false_and, Bool.or_false]
        rcases bool_two (stopsR r) with hs | hs
        · rw [hs]; rfl
        · rw [hs]
          simp only [Bool.false_and, Bool.false_eq_true, if_false]
          rcases bool_two (belowP p r.path) with hb | hb
          · rw [hb, if_pos rfl]
            have hs2 : r.kind = 3 ∧ r.opq = false := by simpa [stopsR] using hs
            rcases hc with hc | hc | hc
            · exact absurd hs2.1 hc
            · rw [hs2.2] at hc; cases hc
            · refine (none_below h hb fun m hm e2 => ?_).symm
              have hl := lookT_mem h.rise hm
              rw [e2] at hl
              rw [(findN_look t r.path).2 m hl] at hc
              exact hc.2
          · rw [hb]; rfl
    · rw [if_neg hc]
      obtain ⟨h1, h2⟩ := putN_look h.rise (ndOf r)
      refine ⟨h1, fun p => ?_⟩
      rw [h2]
      have hpath : (ndOf r).path = r.path := rfl
      have hs : stopsR r = false := by
        simp only [not_or, ne_eq, Decidable.not_not] at hc
        simp only [stopsR, hc.1, decide_true, Bool.not_true, Bool.false_or]
        cases ho : r.opq with
        | false => rfl
        | true => exact absurd ho hc.2.1
      by_cases e : p = r.path
      · rw [if_pos (by rw [e]; rfl), if_pos e, if_neg h4]
      · rw [if_neg (by rw [hpath]; exact e), if_neg e, hs]; rfl
theorem set_look {t : List Nd} {n : Nd} (h : Rise (t.map (·.path))) {k : Nat} (hk : k < t.length) (hp : n.path = (t.getD k default).path) : Rise ((t.set k n).map (·.path)) ∧ ∀ p, lookT (t.set k n) p = if p = n.path then some n else lookT t p := by
  have hm : (t.set k n).map (fun x : Nd => x.path) = t.map (fun x : Nd => x.path) := by
    rw [List.map_set, hp, getD_el hk]
    apply List.ext_getElem
    · simp
    · intro i h1 h2
      rw [List.getElem_set]
      split
      · rename_i e; subst e; simp
      · rfl
  have hr : Rise ((t.set k n).map (fun x : Nd => x.path)) := by rw [hm]; exact h
  refine ⟨hr, fun p => ?_⟩
  by_cases e : p = n.path
  · subst e; rw [if_pos rfl]
    exact lookT_mem hr (List.mem_set hk n)
  · rw [if_neg e]
    have key : ∀ x, lookT (t.set k n) p = some x ↔ lookT t p = some x := by
      intro x
      constructor
      · intro hx
        obtain ⟨h1, h2⟩ := look_some hx
        rw [← h2]
        rcases List.mem_or_eq_of_mem_set h1 with h1 | h1
        · exact lookT_mem h h1
        · exact absurd (by rw [← h2, h1]) e
      · intro hx
        obtain ⟨h1, h2⟩ := look_some hx
        rw [← h2]
        refine lookT_mem hr ?_
        obtain ⟨j, hj, rfl⟩ := List.getElem_of_mem h1
        have hjk : k ≠ j := fun e2 => e (by subst e2; rw [← h2, hp, getD_el hk])
        rw [List.mem_iff_getElem]
        exact ⟨j, by simpa using hj, by rw [List.getElem_set_ne hjk]⟩
    cases hl : lookT t p with
    | none =>
      cases hl2 : lookT (t.set k n) p with
      | none => rfl
      | some x => rw [(key x).1 hl2] at hl; cases hl
    | some x => exact (key x).2 hl
theorem doI_spec {t : List Nd} {r : Rec} (h : Wood t) (hr : recFault r = 0) : Rise ((doI t r).map (·.path)) ∧ ∀ p, lookT (doI t r) p = seenR t r p := by
  have hne := recFault_ne hr
  unfold doI seenR showR
  by_cases hc : (r.kind = 3 ∧ r.opq = false) ∧ 0 ≤ findN t r.path ∧ (gt t (findN t r.path)).kind = 3
  · rw [if_pos hc]
    obtain ⟨⟨h3, ho⟩, hf, hk⟩ := hc
    have hs : stopsR r = false := by simp [stopsR, h3, ho]
    obtain ⟨m, hm⟩ : ∃ m, lookT t r.path = some m := by
      cases hl : lookT t r.path with
      | none => exact absurd hl ((findN_look t r.path).1.1 hf)
      | some m => exact ⟨m, rfl⟩
    have hg := (findN_look t r.path).2 m hm
    obtain ⟨hmt, hmp⟩ := look_some hm
    rw [hg] at hk ⊢
    have hin := findN_inR (t := t) (p := r.path) (by omega)
    have hlt : (findN t r.path).toNat < t.length := by have := inR_hi hin; omega
    have hgd : t.getD (findN t r.path).toNat default = m := hg
    have hb1 : m.body = [] := dir_body (r := recOf m) (nodeOK_fault (h.ok m hmt)).1 hk
    have hb2 : r.body = [] := dir_body hr h3
    have hnd : (⟨m.kind, m.path, m.body, r.mode⟩ : Nd) = ndOf r := by unfold ndOf; rw [hk, hmp, hb1, h3, hb2]
    rw [hnd]
    obtain ⟨h1, h2⟩ := set_look (n := ndOf r) h.rise hlt (by rw [hgd]; exact hmp.symm)
    refine ⟨h1, fun p => ?_⟩
    have := h2 p
    unfold setI
    rw [this]
    have h4 : r.kind ≠ 4 := by omega
    by_cases e : p = r.path
    · rw [if_pos (by rw [e]; rfl), if_pos e, if_neg h4]
    · rw [if_neg (show ¬ p = (ndOf r).path from e), if_neg e, hs]; rfl
  · rw [if_neg hc]
    by_cases h4 : r.kind = 4
    · have hst : stopsR r = true := by simp [stopsR, h4]
      rw [if_pos h4]
      refine ⟨without_rise h.rise _ _, fun p => ?_⟩
      rw [without_look h.rise hne]
      by_cases e : p = r.path
      · simp [e, h4]
      · simp [e, hst]
    · rw [if_neg h4]
      have hn : (ndOf r).path ∉ (without t r.path true).map (fun x : Nd => x.path) := by
        intro hm
        have := (mem_look (fun n : Nd => n.path)).1 hm
        exact this (by show lookT (without t r.path true) r.path = none; rw [without_look h.rise hne]; simp)
      obtain ⟨h1, h2⟩ := place_spec (without_rise h.rise r.path true) hn
      refine ⟨h1, fun p => ?_⟩
      rw [h2]
      by_cases e : p = r.path
      · rw [if_pos (by rw [e]; rfl), if_pos e, if_neg h4]
      · rw [if_neg (show ¬ p = (ndOf r).path from e), if_neg e, without_look h.rise hne]
        simp only [e, decide_false, Bool.and_false, Bool.or_false]
        rcases bool_two (stopsR r) with hs | hs
        · rw [hs]; rfl
        · rw [hs]
          simp only [Bool.false_and, Bool.false_eq_true, if_false]
          rcases bool_two (belowP p r.path) with hb | hb
          · rw [hb, if_pos rfl]
            have hs2 : r.kind = 3 ∧ r.opq = false := by simpa [stopsR] using hs
            refine (none_below h hb fun m hm e2 hk => hc ?_).symm
            have hl := lookT_mem h.rise hm
            rw [e2] at hl
            refine ⟨hs2, (findN_look t r.path).1.2 (by rw [hl]; simp), ?_⟩
            rw [(findN_look t r.path).2 m hl]; exact hk
          · rw [hb]; rfl
theorem doI_doS {t : List Nd} {r : Rec} (h : Wood t) (hr : recFault r = 0) : doI t r = doS t r := by
  obtain ⟨a1, a2⟩ := doI_spec h hr
  obtain ⟨b1, b2⟩ := doS_spec h hr
  exact riseF_uniq (fun n : Nd => n.path) a1 b1 fun p => (a2 p).trans (b2 p).symm
theorem recFault_parts (r : Rec) : recFault r = 0 ↔ within r.kind 1 4 = true ∧ pathOK r.path = true ∧ (decide (20 < r.body.length) || (decide (r.kind = 2) && decide (r.body = []))) = false ∧
    (((decide (r.kind = 3) || decide (r.kind = 4)) && !decide (r.body = [])) || (!decide (r.kind = 3) && r.opq)) = false ∧ (!within r.mode 0 511 || ((decide (r.kind = 2) || decide (r.kind = 4)) && !decide (r.mode = 0))) = false := by
  unfold recFault
  generalize (!within r.mode 0 511 || ((decide (r.kind = 2) || decide (r.kind = 4)) && !decide (r.mode = 0))) = c5
  generalize (((decide (r.kind = 3) || decide (r.kind = 4)) && !decide (r.body = [])) || (!decide (r.kind = 3) && r.opq)) = c4
  generalize (decide (20 < r.body.length) || (decide (r.kind = 2) && decide (r.body = []))) = c3
  cases within r.kind 1 4 <;> cases pathOK r.path <;> cases c3 <;> cases c4 <;> cases c5 <;> simp
theorem recFault_flag {r : Rec} (h : recFault r = 0) (b : Bool) (hb : b = true → r.kind = 3) : recFault ⟨r.kind, r.path, r.body, r.mode, b⟩ = 0 := by
  obtain ⟨h1, h2, h3, h4, h5⟩ := (recFault_parts r).1 h
  refine (recFault_parts _).2 ⟨h1, h2, h3, ?_, h5⟩
  rw [Bool.or_eq_false_iff] at h4 ⊢
  refine ⟨h4.1, ?_⟩
  cases b with
  | false => simp
  | true => simp [hb rfl]
theorem nodeOK_ndOf {r : Rec} (hr : recFault r = 0) (h4 : r.kind ≠ 4) : nodeOK (ndOf r) = true := by
  simp only [nodeOK, Bool.and_eq_true, decide_eq_true_eq, Bool.not_eq_true', decide_eq_false_iff_not]
  exact ⟨recFault_flag hr false (fun h => by cases h), h4⟩
/-- A record whose parent is there makes a tree of a tree. -/
theorem doS_wood {t : List Nd} {r : Rec} (h : Wood t) (hr : recFault r = 0) (hp : parentP r.path ≠ [] → ∃ m ∈ t, m.path = parentP r.path ∧ m.kind = 3) : Wood (doS t r) := by
  obtain ⟨b1, b2⟩ := doS_spec h hr
  have hmem : ∀ n ∈ doS t r, seenR t r n.path = some n := fun n hn => by rw [← b2]; exact lookT_mem b1 hn
  have hback : ∀ p x, seenR t r p = some x → x ∈ doS t r ∧ x.path = p := fun p x hx => by rw [← b2] at hx; exact look_some hx
  -- a directory of t lives on if it is not at or below r's path, or r does not stop
  refine ⟨b1, fun n hn => ?_, fun n hn hpp => ?_⟩
  · have := hmem n hn
    unfold seenR at this
    split at this
    · unfold showR at this
      split at this
      · cases this
      · rename_i h4; rw [← Option.some.inj this]; exact nodeOK_ndOf hr h4
    · split at this
      · cases this
      · exact h.ok n (look_some this).1
  · have hs := hmem n hn
    unfold seenR at hs
    -- where n comes from
    by_cases e : n.path = r.path
    · rw [e] at hpp
      obtain ⟨m, hm, h1, h2⟩ := hp hpp
      have hb := below_parent hpp
      have hx : seenR t r (parentP r.path) = some m := by
        unfold seenR
        rw [if_neg (fun e2 => below_ne hb e2.symm), below_asymm hb, Bool.and_false, ← h1]
        exact lookT_mem h.rise hm
      obtain ⟨g1, g2⟩ := hback _ _ hx
      exact ⟨m, g1, by rw [g2, e], h2⟩
    · rw [if_neg e] at hs
      split at hs
      · cases hs
      · rename_i hns
        have hnt := (look_some hs).1
        have hnok := nodeOK_path (h.ok n hnt)
        obtain ⟨m, hm, h1, h2⟩ := h.par n hnt hpp
        have hb := below_parent hpp
        by_cases e2 : parentP n.path = r.path
        · -- the parent is r itself: it does not stop, so it is a directory
          rw [e2] at hb
          have hst : stopsR r = false := by
            rcases bool_two (stopsR r) with h3 | h3
            · exact absurd (by rw [h3, hb]; rfl) hns
            · exact h3
          have h3 : r.kind = 3 := by
            have : r.kind = 3 ∧ r.opq = false := by simpa [stopsR] using hst
            exact this.1
          have hx : seenR t r (parentP n.path) = some (ndOf r) := by
            unfold seenR showR
            rw [if_pos e2, if_neg (by omega)]
          obtain ⟨g1, g2⟩ := hback _ _ hx
          exact ⟨_, g1, g2, h3⟩
        · have hx : seenR t r (parentP n.path) = some m := by
            unfold seenR
            rw [if_neg e2]
            rw [if_neg (fun h3 => hns ?_), ← h1]
            · exact lookT_mem h.rise hm
            · rw [Bool.and_eq_true] at h3
              rw [h3.1, below_trans hb h3.2]; rfl
          obtain ⟨g1, g2⟩ := hback _ _ hx
          exact ⟨m, g1, g2, h2⟩
def applyL (l : List Rec) (t : List Nd) : List Nd := l.foldl doS t
theorem applyL_snoc (l : List Rec) (r : Rec) (t : List Nd) : applyL (l ++ [r]) t = doS (applyL l t) r := by simp [applyL]
/-- What stands at a path behind a layer. -/
def seenL (l : List Rec) (t : List Nd) (p : List UInt8) : Option Nd := match lookR l p with
  | some r => showR r
  | none => if cutsR l p then none else lookT t p
theorem cutsR_iff (l : List Rec) (p : List UInt8) : cutsR l p = true ↔ ∃ x ∈ ancs p, ∃ r, lookR l x = some r ∧ stopsR r = true := by
  unfold cutsR
  rw [List.any_eq_true]
  constructor
  · rintro ⟨x, hx, h⟩
    rw [Bool.and_eq_true, decide_eq_true_eq] at h
    cases hl : lookR l x with
    | none => exact absurd hl ((findR_look l x).1.1 h.1)
    | some r =>
      rw [(findR_look l x).2 r hl] at h
      exact ⟨x, hx, r, hl, h.2⟩
  · rintro ⟨x, hx, r, hl, h⟩
    refine ⟨x, hx, ?_⟩
    rw [Bool.and_eq_true, decide_eq_true_eq, (findR_look l x).2 r hl]
    exact ⟨(findR_look l x).1.2 (by rw [hl]; simp), h⟩
theorem lookR_snoc {l : List Rec} {r : Rec} (h : Rise ((l ++ [r]).map (·.path))) (p : List UInt8) : lookR (l ++ [r]) p = if p = r.path then some r else lookR l p := by
  have hl : Rise (l.map (fun r : Rec => r.path)) := by
    rw [List.map_append] at h
    exact (List.pairwise_append.1 h).1
  by_cases e : p = r.path
  · subst e; rw [if_pos rfl]; exact lookR_mem h (by simp)
  · rw [if_neg e]
    unfold lookR lookF
    rw [List.find?_append]
    have : List.find? (fun x : Rec => decide (x.path = p)) [r] = none := by simp [Ne.symm e]
    rw [this]; simp
theorem Sheet.init {l : List Rec} {r : Rec} (h : Sheet (l ++ [r])) : Sheet l ∧ (∀ x ∈ l, ltP x.path r.path = true) ∧ recFault r = 0 ∧ (parentP r.path ≠ [] → ∃ q ∈ l, q.path = parentP r.path ∧ q.kind = 3) := by
  have hr := h.rise
  rw [List.map_append] at hr
  obtain ⟨h1, _, h3⟩ := List.pairwise_append.1 hr
  have hlt : ∀ x ∈ l, ltP x.path r.path = true := fun x hx => h3 x.path (List.mem_map_of_mem hx) r.path (by simp)
  refine ⟨⟨h1, fun x hx => h.ok x (List.mem_append_left _ hx), fun x hx hp => ?_⟩, hlt, h.ok r (by simp), fun hp => ?_⟩
  · obtain ⟨q, hq, e, hk⟩ := h.par x (List.mem_append_left _ hx) hp
    rcases List.mem_append.1 hq with hq | hq
    · exact ⟨q, hq, e, hk⟩
    · rw [List.mem_singleton.1 hq] at e
      have h4 := ltP_parent hp
      rw [← e, ltP_asymm (hlt x hx)] at h4; cases h4
  · obtain ⟨q, hq, e, hk⟩ := h.par r (by simp) hp
    rcases List.mem_append.1 hq with hq | hq
    · exact ⟨q, hq, e, hk⟩
    · rw [List.mem_singleton.1 hq] at e
      have h4 := ltP_parent hp
      rw [← e, ltP_irrefl] at h4; cases h4
theorem list_snoc {α : Type} : ∀ (n : Nat) (l : List α), l.length = n + 1 → ∃ m x, l = m ++ [x] ∧ m.length = n := by
  intro n l h
  have hne : l ≠ [] := fun e => by rw [e] at h; cases h
  exact ⟨l.dropLast, l.getLast hne, (List.dropLast_concat_getLast hne).symm, by simp; omega⟩
theorem applyL_spec (t : List Nd) (ht : Wood t) : ∀ (n : Nat) (l : List Rec), l.length = n → Sheet l → Wood (applyL l t) ∧ (∀ p, lookT (applyL l t) p = seenL l t p) ∧ (applyL l t).length ≤ t.length + n ∧ l.foldl doI t = applyL l t := by
  intro n
  induction n with
  | zero =>
    intro l hn _
    have : l = [] := List.eq_nil_of_length_eq_zero hn
    subst this
    refine ⟨ht, fun p => ?_, by simp [applyL], rfl⟩
    have : cutsR [] p = false := by
      rcases bool_two (cutsR [] p) with h | h
      · obtain ⟨x, _, r, hl, _⟩ := (cutsR_iff [] p).1 h; cases hl
      · exact h
    show lookT t p = if cutsR [] p then none else lookT t p
    rw [this]; rfl
  | succ n ih =>
    intro l hn hl
    obtain ⟨m, r, rfl, hm⟩ := list_snoc n l hn
    obtain ⟨hs, hlt, hr, hpar⟩ := hl.init
    obtain ⟨i1, i2, i3, i4⟩ := ih m hm hs
    have hpw : parentP r.path ≠ [] → ∃ q ∈ applyL m t, q.path = parentP r.path ∧ q.kind = 3 := by
      intro hp
      obtain ⟨q, hq, e, hk⟩ := hpar hp
      have hlook : lookT (applyL m t) (parentP r.path) = some (ndOf q) := by
        rw [i2]
        unfold seenL
        rw [← e, lookR_mem hs.rise hq]
        show showR q = _
        unfold showR; rw [if_neg (by omega)]
      obtain ⟨g1, g2⟩ := look_some hlook
      exact ⟨ndOf q, g1, g2, hk⟩
    rw [applyL_snoc]
    obtain ⟨b1, b2⟩ := doS_spec i1 hr
    have hw := doS_wood i1 hr hpw
    refine ⟨hw, fun p => ?_, ?_, by rw [List.foldl_append, i4]; exact doI_doS i1 hr⟩
    · rw [b2]
      unfold seenR seenL
      rw [lookR_snoc hl.rise]
      by_cases e : p = r.path
      · rw [if_pos e, if_pos e]
      · rw [if_neg e, if_neg e]
        -- what is looked at above p
        have hcut : ∀ x ∈ ancs p, lookR (m ++ [r]) x = if x = r.path then some r else lookR m x := fun x _ => lookR_snoc hl.rise x
        by_cases hsb : (stopsR r && belowP p r.path) = true
        · rw [if_pos hsb]
          rw [Bool.and_eq_true] at hsb
          -- p is no path of m, for it comes behind r
          have hno : lookR m p = none := by
            cases hlm : lookR m p with
            | none => rfl
            | some q =>
              obtain ⟨h1, h2⟩ := lookR_some hlm
              have h3 := hlt q h1
              rw [h2, ltP_asymm (ltP_below hsb.2)] at h3; cases h3
          rw [hno]
          by_cases hpo : r.path ∈ ancs p
          · have : cutsR (m ++ [r]) p = true := (cutsR_iff _ _).2 ⟨r.path, hpo, r, by rw [lookR_snoc hl.rise, if_pos rfl], hsb.1⟩
            simp only [this, if_true]
          · -- p is no path at all: nothing stands there
            have hc : lookT t p = none := by
              cases hlt2 : lookT t p with
              | none => rfl
              | some q =>
                obtain ⟨h1, h2⟩ := look_some hlt2
                exact absurd (below_ancs (by rw [← h2]; exact nodeOK_path (ht.ok q h1)) hsb.2) hpo
            simp only [hc, ite_self]
        · rw [if_neg hsb, i2]
          unfold seenL
          cases hlm : lookR m p with
          | some q => rfl
          | none =>
            have : cutsR (m ++ [r]) p = cutsR m p := by
              rw [Bool.eq_iff_iff, cutsR_iff, cutsR_iff]
              constructor
              · rintro ⟨x, hx, q, hq, hst⟩
                rw [hcut x hx] at hq
                by_cases e2 : x = r.path
                · rw [if_pos e2] at hq
                  have : r = q := Option.some.inj hq
                  subst this
                  exact absurd (by rw [hst, ← e2, ancs_below hx]; rfl) hsb
                · rw [if_neg e2] at hq
                  exact ⟨x, hx, q, hq, hst⟩
              · rintro ⟨x, hx, q, hq, hst⟩
                refine ⟨x, hx, q, ?_, hst⟩
                rw [hcut x hx, if_neg (fun e2 => ?_)]
                · exact hq
                · have h3 := hlt q (lookR_some hq).1
                  rw [(lookR_some hq).2, e2, ltP_irrefl] at h3; cases h3
            simp only [this]
    · refine Nat.le_trans ?_ (show (applyL m t).length + 1 ≤ t.length + (n + 1) by omega)
      have hput : ∀ (s : List Nd) (x : Nd), (putN s x).length ≤ s.length + 1 := by
        intro s x
        unfold putN
        have hl2 : (s.takeWhile fun y => ltP y.path x.path).length + (s.dropWhile fun y => ltP y.path x.path).length = s.length := by
          rw [← List.length_append, List.takeWhile_append_dropWhile]
        cases hd : s.dropWhile (fun y => ltP y.path x.path) with
        | nil => simp; rw [hd] at hl2; simp at hl2; omega
        | cons y q =>
          rw [hd] at hl2
          simp only [List.length_append, List.length_cons] at hl2 ⊢
          split
          · omega
          · simp only [List.length_cons]; omega
      unfold doS
      split
      · have := without_len (applyL m t) r.path true; omega
      · split
        · have h1 := without_len (applyL m t) r.path false
          have h2 := hput (without (applyL m t) r.path false) (ndOf r)
          omega
        · exact hput _ _

/-! ### the walks of applying -/
theorem Sheet.take {l : List Rec} (h : Sheet l) (i : Nat) : Sheet (l.take i) := by
  refine ⟨rise_take (fun r : Rec => r.path) h.rise i, fun r hr => h.ok r (List.mem_of_mem_take hr), fun r hr hp => ?_⟩
  obtain ⟨q, hq, e, hk⟩ := h.par r (List.mem_of_mem_take hr) hp
  obtain ⟨j, hj, rfl⟩ := List.mem_take_iff_getElem.1 hr
  have hjl : j < l.length := by omega
  have hlt : ltP q.path (l.getD j default).path = true := by rw [e, getD_el hjl]; exact ltP_parent hp
  have hq2 := idx_lt (fun r : Rec => r.path) h.rise hjl hq hlt
  refine ⟨q, ?_, e, hk⟩
  have : l.take j = (l.take i).take j := by rw [List.take_take, Nat.min_eq_left (by omega)]
  rw [this] at hq2
  exact List.mem_of_mem_take hq2
/-- A layer and a tree without a bound. -/
def okT (l : List Rec) (t : List Nd) : Bool := decide ((layerFault l).2 = 0) && woodOK t
theorem okT_of {l : List Rec} {t : List Nd} (h : okT l t = true) : Sheet l ∧ Wood t := by
  rw [okT, Bool.and_eq_true, decide_eq_true_eq] at h
  exact ⟨layer_sheet h.1, wood_of h.2⟩
theorem okT_mk {l : List Rec} {t : List Nd} (h : (layerFault l).2 = 0) (k : Wood t) : okT l t = true := by rw [okT, decide_eq_true h, wood_ok k]; rfl
theorem wood_paths {t : List Nd} (h : Wood t) : ∀ x ∈ t, x.path.length ≤ 1048576 := fun x hx => pathOK_small (nodeOK_path (h.ok x hx))
def spec_l04Put.b1 (a0 : List Nd) (a1 : Nd) : Int → Option (Step (List Nd) (Int) (Int)) :=
  fun x5_7 => bif (!(decide (x5_7 < (a0.length : Int))) || (inR x5_7 a0.length)) then (bif (!(decide (x5_7 < (a0.length : Int))) || (decide (((gt a0 x5_7).path).length ≤ 1048576))) then (bif (!(decide (x5_7 < (a0.length : Int))) || (decide (a1.path.length ≤ 1048576))) then (bif ((decide (x5_7 < (a0.length : Int))) && (lessL (cut 47 ((gt a0 x5_7).path)) (cut 47 a1.path))) then (some (.nxt (IntKind.wrap .i64 (x5_7 + 1)))) else (some (.brk x5_7))) else none) else none) else none
def spec_l04Put.sh (k : Nat) (a0 : List Nd) (a1 : Nd) : Option (List Nd) :=
  (loopF (spec_l04Put.b1 a0 a1) k 0).bind fun z => match z with | .inl t => some t | .inr x5_11 => bif inS x5_11 (a0.length : Int) (a0.length : Int) then (bif (!(decide (x5_11 < (a0.length : Int))) || (inR x5_11 a0.length)) then (bif ((decide (x5_11 < (a0.length : Int))) && (decide (((gt a0 x5_11).path) = a1.path))) then (bif inS (IntKind.wrap .i64 (x5_11 + 1)) (a0.length : Int) (a0.length : Int) then (bif inS 0 x5_11 (a0.length : Int) then (bif decide ((([] : List Nd).length + (sub a0 0 x5_11).length) * 48 ≤ 140737488355328) then (bif decide (((([] : List Nd) ++ (sub a0 0 x5_11)).length + ([a1] : List Nd).length) * 48 ≤ 140737488355328) then (bif decide ((((([] : List Nd) ++ (sub a0 0 x5_11)) ++ ([a1] : List Nd)).length + (sub a0 (IntKind.wrap .i64 (x5_11 + 1)) (a0.length : Int)).length) * 48 ≤ 140737488355328) then (some (((([] : List Nd) ++ (sub a0 0 x5_11)) ++ ([a1] : List Nd)) ++ (sub a0 (IntKind.wrap .i64 (x5_11 + 1)) (a0.length : Int)))) else none) else none) else none) else none) else none) else (bif inS 0 x5_11 (a0.length : Int) then (bif decide ((([] : List Nd).length + (sub a0 0 x5_11).length) * 48 ≤ 140737488355328) then (bif decide (((([] : List Nd) ++ (sub a0 0 x5_11)).length + ([a1] : List Nd).length) * 48 ≤ 140737488355328) then (bif decide ((((([] : List Nd) ++ (sub a0 0 x5_11)) ++ ([a1] : List Nd)).length + (sub a0 x5_11 (a0.length : Int)).length) * 48 ≤ 140737488355328) then (some (((([] : List Nd) ++ (sub a0 0 x5_11)) ++ ([a1] : List Nd)) ++ (sub a0 x5_11 (a0.length : Int)))) else none) else none) else none) else none)) else none) else none
theorem while_run {t : List Nd} {n : Nd} (h0 : t.length ≤ 1000000) (h1 : ∀ x ∈ t, x.path.length ≤ 1048576) (h2 : n.path.length ≤ 1048576) :
    loopF (spec_l04Put.b1 t n) (t.length + 1) 0 = some (.inr ((t.takeWhile fun x => ltP x.path n.path).length : Int)) := by
  have key : ∀ (d i k : Nat), i + d = t.length → d < k → loopF (spec_l04Put.b1 t n) k (i : Int) = some (.inr ((i + ((t.drop i).takeWhile fun x => ltP x.path n.path).length : Nat) : Int)) := by
    intro d
    induction d with
    | zero =>
      intro i k hi hk
      obtain ⟨k, rfl⟩ : ∃ m, k = m + 1 := ⟨k - 1, by omega⟩
      have d1 : decide ((i : Int) < (t.length : Int)) = false := decide_eq_false (by omega)
      have hd : t.drop i = [] := List.drop_eq_nil_of_le (by omega)
      rw [loopF, hd]
      simp only [spec_l04Put.b1, d1, Bool.not_false, Bool.true_or, Bool.false_and, cond_true, cond_false, List.takeWhile_nil, List.length_nil, Nat.add_zero]; rfl
    | succ d ih =>
      intro i k hi hk
      obtain ⟨k, rfl⟩ : ∃ m, k = m + 1 := ⟨k - 1, by omega⟩
      have hlt : i < t.length := by omega
      have d1 : decide ((i : Int) < (t.length : Int)) = true := decide_eq_true (by omega)
      have p1 : decide ((gt t (i : Int)).path.length ≤ 1048576) = true := decide_eq_true (by rw [getD_gt, getD_el hlt]; exact h1 _ (List.getElem_mem hlt))
      have w1 : IntKind.wrap .i64 ((i : Int) + 1) = ((i + 1 : Nat) : Int) := by rw [wrap_small (by omega) (by omega)]; omega
      rw [loopF, drop_gt hlt]
      simp only [spec_l04Put.b1, d1, inR_nat hlt, p1, decide_eq_true h2, Bool.not_true, Bool.false_or, Bool.true_and, cond_true, w1]
      rcases bool_two (lessL (cut 47 (gt t (i : Int)).path) (cut 47 n.path)) with hl | hl
      · have hl' : ltP (gt t (i : Int)).path n.path = true := hl
        rw [hl]
        simp only [cond_true, List.takeWhile_cons, hl', if_true, List.length_cons]
        refine (ih (i + 1) k (by omega) (by omega)).trans ?_
        congr 2; omega
      · have hl' : ltP (gt t (i : Int)).path n.path = false := hl
        rw [hl]
        simp only [cond_false, List.takeWhile_cons, hl', Bool.false_eq_true, if_false, List.length_nil, Nat.add_zero]; rfl
  have := key t.length 0 (t.length + 1) (by omega) (by omega)
  rw [List.drop_zero, Nat.zero_add] at this
  exact this
theorem take_while_len {α : Type} (q : α → Bool) (t : List α) : t.take (t.takeWhile q).length = t.takeWhile q ∧ t.drop (t.takeWhile q).length = t.dropWhile q := by
  have h : t = t.takeWhile q ++ t.dropWhile q := List.takeWhile_append_dropWhile.symm
  constructor
  · conv => lhs; rw [h]
    rw [List.take_append_of_le_length (by simp)]; simp
  · conv => lhs; rw [h]
    have : (t.takeWhile q ++ t.dropWhile q).takeWhile q = t.takeWhile q := by rw [← h]
    rw [this, List.drop_left]
theorem spec_l04Put.eq (a0 : List Nd) (a1 : Nd) (h0 : a0.length ≤ 1000000) (h1 : ∀ x ∈ a0, x.path.length ≤ 1048576) (h2 : a1.path.length ≤ 1048576) : ∃ k, spec_l04Put.sh k a0 a1 = some (putN a0 a1) := by
  refine ⟨a0.length + 1, ?_⟩
  unfold spec_l04Put.sh
  rw [while_run h0 h1 h2]
  obtain ⟨c, hc⟩ : ∃ c, c = (a0.takeWhile fun x => ltP x.path a1.path).length := ⟨_, rfl⟩
  obtain ⟨t1, t2⟩ := take_while_len (fun x : Nd => ltP x.path a1.path) a0
  rw [← hc] at t1 t2 ⊢
  have hle : c ≤ a0.length := by rw [hc]; exact (List.takeWhile_prefix _).length_le
  have s1 : inS (c : Int) (a0.length : Int) (a0.length : Int) = true := inS_mk (by omega) (by omega) (by omega)
  have s2 : inS 0 (c : Int) (a0.length : Int) = true := inS_mk (by omega) (by omega) (by omega)
  have e1 : sub a0 0 (c : Int) = a0.take c := by show sub a0 ((0 : Nat) : Int) (c : Int) = _; rw [sub_nat]; rfl
  have e2 : sub a0 (c : Int) (a0.length : Int) = a0.drop c := by rw [sub_nat, List.take_length]
  have l1 : (a0.take c).length ≤ 1000000 := by simp; omega
  have l2 : (a0.drop c).length ≤ 1000000 := by simp; omega
  have g1 : decide ((([] : List Nd).length + (a0.take c).length) * 48 ≤ 140737488355328) = true := decide_eq_true (by simp only [List.length_nil]; omega)
  have g2 : decide (((([] : List Nd) ++ a0.take c).length + ([a1] : List Nd).length) * 48 ≤ 140737488355328) = true := decide_eq_true (by simp only [List.nil_append, List.length_cons, List.length_nil]; omega)
  have g3 : decide ((((([] : List Nd) ++ a0.take c) ++ ([a1] : List Nd)).length + (a0.drop c).length) * 48 ≤ 140737488355328) = true := decide_eq_true (by simp only [List.nil_append, List.length_append, List.length_cons, List.length_nil]; omega)
  simp only [Option.bind_some, s1, s2, e1, e2, g1, g2, g3, cond_true]
  by_cases hlt : c < a0.length
  · have d1 : decide ((c : Int) < (a0.length : Int)) = true := decide_eq_true (by omega)
    have w1 : IntKind.wrap .i64 ((c : Int) + 1) = ((c + 1 : Nat) : Int) := by rw [wrap_small (by omega) (by omega)]; omega
    have s3 : inS ((c + 1 : Nat) : Int) (a0.length : Int) (a0.length : Int) = true := inS_mk (by omega) (by omega) (by omega)
    have e3 : sub a0 ((c + 1 : Nat) : Int) (a0.length : Int) = a0.drop (c + 1) := by rw [sub_nat, List.take_length]
    have l3 : (a0.drop (c + 1)).length ≤ 1000000 := by simp; omega
    have g4 : decide ((((([] : List Nd) ++ a0.take c) ++ ([a1] : List Nd)).length + (a0.drop (c + 1)).length) * 48 ≤ 140737488355328) = true := decide_eq_true (by simp only [List.nil_append, List.length_append, List.length_cons, List.length_nil]; omega)
    rw [drop_gt hlt] at t2
    simp only [d1, inR_nat hlt, w1, s3, e3, g4, Bool.not_true, Bool.false_or, Bool.true_and, cond_true]
    unfold putN
    rw [← t1, ← t2]
    by_cases he : (gt a0 (c : Int)).path = a1.path
    · simp [he]
    · simp [he, drop_gt hlt]
  · have d1 : decide ((c : Int) < (a0.length : Int)) = false := decide_eq_false (by omega)
    have hn : a0.drop c = [] := List.drop_eq_nil_of_le (by omega)
    simp only [d1, Bool.not_false, Bool.true_or, Bool.false_and, cond_true, cond_false]
    unfold putN
    rw [← t1, ← t2, hn]; simp
def spec_l04Node.sh (a0 : Rec) : Option (Nd) :=
  some (⟨a0.kind, a0.path, a0.body, a0.mode⟩ : Nd)
theorem spec_l04Node.eq (a0 : Rec) : spec_l04Node.sh a0 = some (ndOf a0) := rfl
def impl_Record_node.sh (a0 : Rec) : Option (Nd) :=
  some (⟨a0.kind, a0.path, a0.body, a0.mode⟩ : Nd)
theorem impl_Record_node.eq (a0 : Rec) : impl_Record_node.sh a0 = some (ndOf a0) := rfl
theorem apply_at {l : List Rec} {t : List Nd} (hs : Sheet l) (ht : Wood t) {i : Nat} (hi : i ≤ l.length) : Wood (applyL (l.take i) t) ∧ (applyL (l.take i) t).length ≤ t.length + i ∧ (l.take i).foldl doI t = applyL (l.take i) t := by
  obtain ⟨h1, _, h3, h4⟩ := applyL_spec t ht i (l.take i) (by simp; omega) (hs.take i)
  exact ⟨h1, h3, h4⟩
theorem apply_next {l : List Rec} {t : List Nd} {i : Nat} (hi : i < l.length) : applyL (l.take (i + 1)) t = doS (applyL (l.take i) t) (gt l (i : Int)) := by
  rw [List.take_succ_eq_append_getElem hi, applyL_snoc, getD_gt, getD_el hi]
def impl_apply.b1 (a0 : List Rec) : List Nd × Int → Option (Step (List Nd) (List Nd × Int) (List Nd)) :=
  fun q => match q with
  | (x5_6, x13_8) => bif (decide (x13_8 < (a0.length : Int))) then (bif inR x13_8 a0.length then (bif decide (x5_6.length ≤ 1048576) then (((bif (((decide (((gt a0 x13_8).kind) = 3)) && (!((gt a0 x13_8).opq))) && (decide (0 ≤ (findN x5_6 ((gt a0 x13_8).path))))) then (bif inR (findN x5_6 ((gt a0 x13_8).path)) x5_6.length then (some (decide (((gt x5_6 (findN x5_6 ((gt a0 x13_8).path))).kind) = 3))) else none) else some false)).bind fun z58 => bif z58 then (bif inR (findN x5_6 ((gt a0 x13_8).path)) x5_6.length then (some (.nxt (setI x5_6 (findN x5_6 ((gt a0 x13_8).path)) (⟨(gt x5_6 (findN x5_6 ((gt a0 x13_8).path))).kind, (gt x5_6 (findN x5_6 ((gt a0 x13_8).path))).path, (gt x5_6 (findN x5_6 ((gt a0 x13_8).path))).body, (gt a0 x13_8).mode⟩ : Nd), IntKind.wrap .i64 (x13_8 + 1)))) else none) else (bif decide (x5_6.length ≤ 1048576) then (bif decide (((gt a0 x13_8).path).length ≤ 1048576) then (bif (!decide (((gt a0 x13_8).kind) = 4)) then (bif decide ((without x5_6 ((gt a0 x13_8).path) true).length ≤ 1048575) then (bif decide (riseN (without x5_6 ((gt a0 x13_8).path) true) = true) then (bif decide (∀ x ∈ (without x5_6 ((gt a0 x13_8).path) true), x.path.length ≤ 1048576) then (bif decide ((ndOf (gt a0 x13_8)).path.length ≤ 1048576) then (some (.nxt ((placeL (without x5_6 ((gt a0 x13_8).path) true) (ndOf (gt a0 x13_8))), IntKind.wrap .i64 (x13_8 + 1)))) else none) else none) else none) else none) else (some (.nxt ((without x5_6 ((gt a0 x13_8).path) true), IntKind.wrap .i64 (x13_8 + 1))))) else none) else none)) else none) else none) else (some (.brk x5_6))
def impl_apply.sh (k : Nat) (a0 : List Rec) (a1 : List Nd) : Option (List Nd) :=
  bif decide (a1.length ≤ 1048576) then ((loopF (impl_apply.b1 a0) k (a1, 0)).bind fun z => match z with | .inl t => some t | .inr x5_12 => some x5_12) else none
theorem impl_apply.eq (a0 : List Rec) (a1 : List Nd) (h0 : a0.length ≤ 16) (h1 : a1.length ≤ 1000) (h2 : okT a0 a1 = true) : ∃ k, impl_apply.sh k a0 a1 = some (applyL a0 a1) := by
  obtain ⟨hs, ht⟩ := okT_of h2
  refine ⟨a0.length + 1, ?_⟩
  unfold impl_apply.sh
  have key : ∀ (d i k : Nat), i + d = a0.length → d < k → loopF (impl_apply.b1 a0) k (applyL (a0.take i) a1, (i : Int)) = some (.inr (applyL a0 a1)) := by
    intro d
    induction d with
    | zero =>
      intro i k hi hk
      obtain ⟨k, rfl⟩ : ∃ m, k = m + 1 := ⟨k - 1, by omega⟩
      have d1 : decide ((i : Int) < (a0.length : Int)) = false := decide_eq_false (by omega)
      rw [loopF, List.take_of_length_le (by omega)]
      simp only [impl_apply.b1, d1, cond_false]; rfl
    | succ d ih =>
      intro i k hi hk
      obtain ⟨k, rfl⟩ : ∃ m, k = m + 1 := ⟨k - 1, by omega⟩
      have hlt : i < a0.length := by omega
      obtain ⟨w1, w2, _⟩ := apply_at hs ht (show i ≤ a0.length by omega)
      have hr0 : recFault (gt a0 (i : Int)) = 0 := by rw [getD_gt, getD_el hlt]; exact hs.ok _ (List.getElem_mem hlt)
      have hn := apply_next (t := a1) hlt
      rw [← doI_doS w1 hr0] at hn
      have hI := ih (i + 1) k (by omega) (by omega)
      rw [hn] at hI
      obtain ⟨x, hx⟩ : ∃ x, applyL (a0.take i) a1 = x := ⟨_, rfl⟩
      obtain ⟨r, hr⟩ : ∃ r, gt a0 (i : Int) = r := ⟨_, rfl⟩
      rw [hx] at w1 w2 hI ⊢
      rw [hr] at hr0 hI
      have hp := pathOK_small (recFault_path hr0)
      have d1 : decide ((i : Int) < (a0.length : Int)) = true := decide_eq_true (by omega)
      have d2 : decide (x.length ≤ 1048576) = true := decide_eq_true (by omega)
      have d3 : decide (r.path.length ≤ 1048576) = true := decide_eq_true hp
      have d4 : decide ((without x r.path true).length ≤ 1048575) = true := decide_eq_true (by have := without_len x r.path true; omega)
      have d5 : riseN (without x r.path true) = true := riseN_mk (without_rise w1.rise _ _)
      have d6 : ∀ y ∈ without x r.path true, y.path.length ≤ 1048576 := fun y hy => wood_paths w1 y (List.mem_filter.1 hy).1
      have d7 : decide ((ndOf r).path.length ≤ 1048576) = true := decide_eq_true hp
      have e1 : IntKind.wrap .i64 ((i : Int) + 1) = ((i + 1 : Nat) : Int) := by rw [wrap_small (by omega) (by omega)]; omega
      rw [loopF]
      simp only [impl_apply.b1, d1, d2, inR_nat hlt, cond_true, e1, hr, d3, d4, d5, d7, decide_eq_true d6, decide_true]
      unfold doI at hI
      by_cases c1 : r.kind = 3 ∧ r.opq = false
      · obtain ⟨c3, co⟩ := c1
        by_cases cf : 0 ≤ findN x r.path
        · have hin := findN_inR (t := x) (p := r.path) (by omega)
          by_cases ck : (gt x (findN x r.path)).kind = 3
          · rw [if_pos ⟨⟨c3, co⟩, cf, ck⟩] at hI
            simp only [c3, co, cf, ck, hin, decide_true, Bool.not_false, Bool.and_true, Bool.and_self, cond_true, Option.bind_some]
            rw [ck] at hI
            exact hI
          · rw [if_neg (fun h => ck h.2.2), if_neg (by omega)] at hI
            simp only [c3, co, cf, ck, hin, decide_true, decide_false, Bool.not_false, Bool.and_true, Bool.and_self, cond_true, cond_false, Option.bind_some, show ¬ (3 : Int) = 4 by decide]
            exact hI
        · rw [if_neg (fun h => cf h.2.1), if_neg (by omega)] at hI
          simp only [c3, co, cf, decide_true, decide_false, Bool.not_false, Bool.and_true, Bool.and_false, cond_true, cond_false, Option.bind_some, show ¬ (3 : Int) = 4 by decide]
          exact hI
      · rw [if_neg (fun h => c1 h.1)] at hI
        have c2 : (decide (r.kind = 3) && !r.opq) = false := by
          rcases bool_two r.opq with co | co
          · simp [co]
          · by_cases c3 : r.kind = 3
            · exact absurd ⟨c3, co⟩ c1
            · simp [c3]
        simp only [c2, Bool.false_and, cond_false, Option.bind_some]
        by_cases c4 : r.kind = 4
        · rw [if_pos c4] at hI
          simp only [c4, decide_true, Bool.not_true, cond_false]
          exact hI
        · rw [if_neg c4] at hI
          simp only [c4, decide_false, Bool.not_false, cond_true]
          exact hI
  have g1 : decide (a1.length ≤ 1048576) = true := decide_eq_true (by omega)
  have hk := key a0.length 0 (a0.length + 1) (by omega) (by omega)
  rw [List.take_zero] at hk
  have hk2 : loopF (impl_apply.b1 a0) (a0.length + 1) (a1, 0) = some (.inr (applyL a0 a1)) := hk
  rw [hk2]
  simp only [g1, cond_true, Option.bind_some]
def rtCode (l : List Rec) (t : List Nd) : Int := if decide (4096 < l.length) || decide (4096 < t.length) then 2 else if !decide ((layerFault l).2 = 0) || !treeOK t then 1 else 0
def fitT (t : List Nd) : List Nd × Int := if 24 < t.length then ([], 7) else (t, 0)
def applyOf (l : List Rec) (t : List Nd) : List Nd × Int := if rtCode l t = 0 then fitT (applyL l t) else ([], rtCode l t)
theorem n24_dec (n : Nat) : decide ((24 : Int) < (n : Int)) = decide (24 < n) := by rw [decide_eq_decide]; omega
def impl_Apply.sh (a0 : List Rec) (a1 : List Nd) : Option (List Nd × Int) :=
  bif decide (a0.length ≤ 1048576) then (bif decide (∀ x ∈ a0, x.path.length ≤ 1048576) then (((bif (!(decide ((layerFaultL a0).2 = 0))) then some true else (bif decide (a1.length ≤ 1048576) then (bif decide (∀ x ∈ a1, x.path.length ≤ 1048576) then (some (!(treeOK a1))) else none) else none))).bind fun z14 => bif decide (([.inl ((decide (4096 < a0.length)) || (decide (4096 < a1.length))), .inr 2, .inl z14, .inr 1] : List (Bool ⊕ Int)).length ≤ 4611686018427387904) then ((some (firstOf ([.inl ((decide (4096 < a0.length)) || (decide (4096 < a1.length))), .inr 2, .inl z14, .inr 1] : List (Bool ⊕ Int)))).bind fun z31 => bif (!decide (z31 = 0)) then (some ([], z31)) else (bif decide (a0.length ≤ 16) then (bif decide (a1.length ≤ 1000) then (bif decide (okT a0 a1 = true) then (bif (decide (24 < ((applyL a0 a1).length : Int))) then (some ([], 7)) else (some ((applyL a0 a1), 0))) else none) else none) else none)) else none) else none) else none
theorem impl_Apply.eq (a0 : List Rec) (a1 : List Nd) (h0 : a0.length ≤ 1048576) (h1 : a1.length ≤ 1048576) (h2 : ∀ x ∈ a0, x.path.length ≤ 1048576) (h3 : ∀ x ∈ a1, x.path.length ≤ 1048576) : impl_Apply.sh a0 a1 = some ((applyOf a0 a1).1, (applyOf a0 a1).2) := by
  unfold impl_Apply.sh applyOf
  simp only [h0, h1, decide_true, cond_true, decide_eq_true h2, decide_eq_true h3, firstOf_c, List.length_cons, List.length_nil, firstOf, anyB, anyI]
  by_cases h : (decide (4096 < a0.length) || decide (4096 < a1.length)) = true
  · have hc : rtCode a0 a1 = 2 := by simp only [rtCode, h, if_true]
    cases hz : decide ((layerFaultL a0).2 = 0) <;> simp [h, hc]
  · have hf : (decide (4096 < a0.length) || decide (4096 < a1.length)) = false := by simpa using h
    rw [layerFaultL_zero, hf]
    by_cases c1 : (layerFault a0).2 = 0
    · rcases bool_two (treeOK a1) with c2 | c2
      · have hc : rtCode a0 a1 = 0 := by simp only [rtCode, h, if_false, c1, c2]; rfl
        have l1 := layerOK_len c1
        have l2 := treeOK_len c2
        have b2 : a1.length ≤ 1000 := by omega
        by_cases h24 : 24 < (applyL a0 a1).length <;> simp [c1, c2, hc, l1, b2, okT_mk c1 (treeOK_Wood c2), n24_dec, fitT, h24]
      · have hc : rtCode a0 a1 = 1 := by simp only [rtCode, h, if_false, c1, c2]; rfl
        simp [c1, c2, hc]
    · have hc : rtCode a0 a1 = 1 := by simp only [rtCode, h, if_false, c1]; simp
      simp [c1, hc]
end Go.UL
