/- Plain Lean: what the functions compute. -/
import Derived.Test.YtfefjaohlhkmaaaGreatDooraP17
set_option linter.unusedVariables false
set_option linter.unusedSimpArgs false
namespace Go.UL
open Go.RowKit
/-! ### the record that counts at a path -/
/-! ### the order of paths -/
theorem bl_trans : ∀ a b c : List UInt8, Op.bytesLess a b = true → Op.bytesLess b c = true → Op.bytesLess a c = true := by
  intro a
  induction a with
  | nil => intro b c h1 h2; cases b with
    | nil => simp [Op.bytesLess] at h1
    | cons y b => cases c with
      | nil => simp [Op.bytesLess] at h2
      | cons z c => rfl
  | cons x a ih =>
    intro b c h1 h2
    cases b with
    | nil => simp [Op.bytesLess] at h1
    | cons y b => cases c with
      | nil => simp [Op.bytesLess] at h2
      | cons z c =>
        simp only [Op.bytesLess, Bool.or_eq_true, Bool.and_eq_true, decide_eq_true_eq, beq_iff_eq, UInt8.lt_iff_toNat_lt] at h1 h2 ⊢
        rcases h1 with h1 | ⟨rfl, h1⟩
        · rcases h2 with h2 | ⟨rfl, h2⟩
          · exact .inl (by omega)
          · exact .inl h1
        · rcases h2 with h2 | ⟨rfl, h2⟩
          · exact .inl h2
          · exact .inr ⟨rfl, ih b c h1 h2⟩
theorem bl_tri : ∀ a b : List UInt8, Op.bytesLess a b = false → Op.bytesLess b a = false → a = b := by
  intro a
  induction a with
  | nil => intro b h1 h2; cases b with
    | nil => rfl
    | cons y b => simp [Op.bytesLess] at h1
  | cons x a ih =>
    intro b h1 h2
    cases b with
    | nil => simp [Op.bytesLess] at h2
    | cons y b =>
      simp only [Op.bytesLess, Bool.or_eq_false_iff, Bool.and_eq_false_iff, decide_eq_false_iff_not, beq_eq_false_iff_ne, UInt8.lt_iff_toNat_lt] at h1 h2
      have hxy : x = y := UInt8.toNat_inj.1 (by omega)
      subst hxy
      rcases h1.2 with h | h
      · exact absurd rfl h
      · rcases h2.2 with h' | h'
        · exact absurd rfl h'
        · rw [ih b h h']
theorem lt8_trans {a b c : List UInt8} (h1 : lt8 a b = true) (h2 : lt8 b c = true) : lt8 a c = true := by
  simp only [lt8] at *
  exact bl_trans _ _ _ h1 h2
theorem lt8_tri {a b : List UInt8} (h1 : lt8 a b = false) (h2 : lt8 b a = false) : a = b := by
  simp only [lt8] at *
  exact bl_tri _ _ h1 h2
theorem lessL_irrefl : ∀ a, lessL a a = false := by
  intro a
  induction a with
  | nil => rfl
  | cons x a ih => simp [lessL, ih]
theorem lessL_trans : ∀ a b c, lessL a b = true → lessL b c = true → lessL a c = true := by
  intro a
  induction a with
  | nil =>
    intro b c h1 h2
    cases b with
    | nil => simp [lessL] at h1
    | cons y b => cases c with
      | nil => simp [lessL] at h2
      | cons z c => rfl
  | cons x a ih =>
    intro b c h1 h2
    cases b with
    | nil => simp [lessL] at h1
    | cons y b => cases c with
      | nil => simp [lessL] at h2
      | cons z c =>
        simp only [lessL] at h1 h2 ⊢
        by_cases hxy : x = y
        · subst hxy
          simp only [if_true] at h1
          by_cases hxz : x = z
          · subst hxz
            simp only [if_true] at h2 ⊢
            exact ih b c h1 h2
          · simp only [hxz, if_false] at h2 ⊢; exact h2
        · simp only [hxy, if_false] at h1
          by_cases hyz : y = z
          · subst hyz
            simp only [hxy, if_false]; exact h1
          · simp only [hyz, if_false] at h2
            have h3 := lt8_trans h1 h2
            by_cases hxz : x = z
            · subst hxz; rw [lt8_irrefl] at h3; cases h3
            · simp only [hxz, if_false]; exact h3
theorem lessL_tri : ∀ a b, lessL a b = false → lessL b a = false → a = b := by
  intro a
  induction a with
  | nil =>
    intro b h1 h2
    cases b with
    | nil => rfl
    | cons y b => simp [lessL] at h1
  | cons x a ih =>
    intro b h1 h2
    cases b with
    | nil => simp [lessL] at h2
    | cons y b =>
      simp only [lessL] at h1 h2
      by_cases hxy : x = y
      · subst hxy
        simp only [if_true] at h1 h2
        rw [ih b h1 h2]
      · have hyx : ¬ y = x := fun e => hxy e.symm
        simp only [hxy, hyx, if_false] at h1 h2
        exact absurd (lt8_tri h1 h2) hxy
def ltP (a b : List UInt8) : Bool := lessL (cut 47 a) (cut 47 b)
theorem ltP_irrefl (a : List UInt8) : ltP a a = false := lessL_irrefl _
theorem ltP_trans {a b c : List UInt8} (h1 : ltP a b = true) (h2 : ltP b c = true) : ltP a c = true := lessL_trans _ _ _ h1 h2
theorem ltP_tri {a b : List UInt8} (h1 : ltP a b = false) (h2 : ltP b a = false) : a = b := cut_inj (lessL_tri _ _ h1 h2)
theorem ltP_asymm {a b : List UInt8} (h : ltP a b = true) : ltP b a = false := by
  rcases bool_two (ltP b a) with h2 | h2
  · have := ltP_trans h h2; rw [ltP_irrefl] at this; cases this
  · exact h2
theorem ltP_ne {a b : List UInt8} (h : ltP a b = true) : a ≠ b := fun e => by subst e; rw [ltP_irrefl] at h; cases h
/-- Rising strictly. -/
def Rise (l : List (List UInt8)) : Prop := l.Pairwise fun a b => ltP a b = true
theorem Rise.uniq : ∀ {a b : List (List UInt8)}, Rise a → Rise b → (∀ x, x ∈ a ↔ x ∈ b) → a = b := by
  intro a
  induction a with
  | nil =>
    intro b _ _ h
    cases b with
    | nil => rfl
    | cons y b => exact absurd ((h y).2 (List.mem_cons_self ..)) (by simp)
  | cons x a ih =>
    intro b ha hb h
    cases b with
    | nil => exact absurd ((h x).1 (List.mem_cons_self ..)) (by simp)
    | cons y b =>
      have ha' := List.pairwise_cons.1 ha
      have hb' := List.pairwise_cons.1 hb
      have hxy : x = y := by
        rcases List.mem_cons.1 ((h x).1 (List.mem_cons_self ..)) with e | hx
        · exact e
        · rcases List.mem_cons.1 ((h y).2 (List.mem_cons_self ..)) with e | hy
          · exact e.symm
          · have h1 := hb'.1 x hx
            have h2 := ha'.1 y hy
            rw [ltP_asymm h1] at h2; cases h2
      subst hxy
      congr 1
      refine ih ha'.2 hb'.2 fun z => ?_
      constructor
      · intro hz
        rcases List.mem_cons.1 ((h z).1 (List.mem_cons_of_mem _ hz)) with e | hz'
        · subst e; exact absurd rfl (ltP_ne (ha'.1 z hz))
        · exact hz'
      · intro hz
        rcases List.mem_cons.1 ((h z).2 (List.mem_cons_of_mem _ hz)) with e | hz'
        · subst e; exact absurd rfl (ltP_ne (hb'.1 z hz))
        · exact hz'
/-- From neighbours to all. -/
theorem rise_of_near {α : Type} [Inhabited α] (f : α → List UInt8) {l : List α} (h : ∀ i, 0 < i → i < l.length → ltP (f (l.getD (i - 1) default)) (f (l.getD i default)) = true) : Rise (l.map f) := by
  unfold Rise
  rw [List.pairwise_map, List.pairwise_iff_getElem]
  intro i j hi hj hij
  obtain ⟨d, rfl⟩ : ∃ d, j = i + 1 + d := ⟨j - i - 1, by omega⟩
  induction d with
  | zero =>
    have := h (i + 1) (by omega) hj
    rw [getD_el hj, show i + 1 - 1 = i by omega, getD_el hi] at this
    exact this
  | succ d ih =>
    have h1 := ih (by omega) (by omega)
    have h2 := h (i + 1 + (d + 1)) (by omega) hj
    rw [getD_el hj, show i + 1 + (d + 1) - 1 = i + 1 + d by omega, getD_el (by omega)] at h2
    exact ltP_trans h1 h2
theorem treeOK_rise {t : List Nd} (h : treeOK t = true) : t.length ≤ 24 ∧ Rise (t.map (·.path)) := by
  unfold treeOK at h
  rw [Bool.and_eq_true] at h
  refine ⟨of_decide_eq_true h.1, rise_of_near _ fun i h0 hi => ?_⟩
  have := List.all_eq_true.1 h.2 i (List.mem_range.2 hi)
  have h9 : ¬ i = 0 := by omega
  simp only [nodeAtOK, Bool.and_eq_true, h9, decide_false, Bool.false_or] at this
  exact this.1.2
/-! ### two sorted trees side by side -/
theorem rise_lt {x : List UInt8} {l : List (List UInt8)} (h : Rise (x :: l)) : ∀ z ∈ l, ltP x z = true := (List.pairwise_cons.1 h).1
theorem rise_tl {x : List UInt8} {l : List (List UInt8)} (h : Rise (x :: l)) : Rise l := (List.pairwise_cons.1 h).2
/-! ### the paths of layers -/
theorem drop_gt {α : Type} [Inhabited α] {l : List α} {i : Nat} (h : i < l.length) : l.drop i = gt l (i : Int) :: l.drop (i + 1) := by
  rw [List.drop_eq_getElem_cons h, getD_gt, getD_el h]
/-! ### lists by paths, whatever stands at them -/
section
variable {α : Type} (f : α → List UInt8)
def lookF (l : List α) (p : List UInt8) : Option α := l.find? fun x => decide (f x = p)
theorem lookF_cons (x : α) (l : List α) (p : List UInt8) : lookF f (x :: l) p = if f x = p then some x else lookF f l p := by
  unfold lookF
  by_cases h : f x = p <;> simp [h]
theorem lookF_none {l : List α} {p : List UInt8} : lookF f l p = none ↔ p ∉ l.map f := by
  induction l with
  | nil => simp [lookF]
  | cons x l ih =>
    rw [lookF_cons]
    by_cases h : f x = p
    · simp [h]
    · rw [if_neg h, ih]
      simp [Ne.symm h]
theorem lookF_some {l : List α} {p : List UInt8} {x : α} (h : lookF f l p = some x) : x ∈ l ∧ f x = p := by
  have h1 := List.mem_of_find?_eq_some h
  have h2 := List.find?_some h
  exact ⟨h1, of_decide_eq_true h2⟩
theorem lookF_of_mem {l : List α} (h : Rise (l.map f)) : ∀ x ∈ l, lookF f l (f x) = some x := by
  induction l with
  | nil => intro x hx; cases hx
  | cons y l ih =>
    intro x hx
    rw [lookF_cons]
    rcases List.mem_cons.1 hx with rfl | hx
    · rw [if_pos rfl]
    · have hlt : ltP (f y) (f x) = true := rise_lt h (f x) (List.mem_map_of_mem hx)
      rw [if_neg (ltP_ne hlt)]
      exact ih (rise_tl h) x hx
theorem filterMap_look {l : List α} (h : Rise (l.map f)) : (l.map f).filterMap (lookF f l) = l := by
  rw [List.filterMap_map]
  have : ∀ m : List α, (∀ x ∈ m, x ∈ l) → m.filterMap (lookF f l ∘ f) = m := by
    intro m
    induction m with
    | nil => intro _; rfl
    | cons x m ih =>
      intro hm
      rw [List.filterMap_cons]
      have h1 : (lookF f l ∘ f) x = some x := lookF_of_mem f h x (hm x (List.mem_cons_self ..))
      rw [h1]
      simp only
      rw [ih fun y hy => hm y (List.mem_cons_of_mem _ hy)]
  exact this l fun _ h => h
theorem mem_look {l : List α} {p : List UInt8} : p ∈ l.map f ↔ lookF f l p ≠ none := by
  constructor
  · intro h e; exact (lookF_none f).1 e h
  · intro h
    by_cases h2 : p ∈ l.map f
    · exact h2
    · exact absurd ((lookF_none f).2 h2) h
/-- Strictly rising lists that show the same at each path are the same. -/
theorem riseF_uniq {a b : List α} (ha : Rise (a.map f)) (hb : Rise (b.map f)) (h : ∀ p, lookF f a p = lookF f b p) : a = b := by
  have hm : a.map f = b.map f := Rise.uniq ha hb fun p => by rw [mem_look, mem_look, h]
  rw [← filterMap_look f ha, ← filterMap_look f hb, hm]
  congr 1
  funext p
  exact h p
theorem findI_look [Inhabited α] (l : List α) (p : List UInt8) : (0 ≤ findI (fun x => decide (f x = p)) l ↔ lookF f l p ≠ none) ∧ ∀ x, lookF f l p = some x → gt l (findI (fun x => decide (f x = p)) l) = x := by
  induction l with
  | nil => simp [findI, lookF]
  | cons y l ih =>
    rw [lookF_cons]
    by_cases h : f y = p
    · simp only [findI, h, decide_true, if_true]
      exact ⟨by simp, fun x hx => by rw [← Option.some.inj hx]; rfl⟩
    · simp only [findI, h, decide_false, Bool.false_eq_true, if_false]
      have hge := findI_ge (fun x => decide (f x = p)) l
      by_cases hm : findI (fun x => decide (f x = p)) l = -1
      · rw [if_pos hm]
        rw [hm] at ih
        refine ⟨ih.1, fun x hx => ?_⟩
        have : lookF f l p = none := by
          by_cases e : lookF f l p = none
          · exact e
          · have := ih.1.2 e; omega
        rw [this] at hx; cases hx
      · rw [if_neg hm]
        obtain ⟨n, hn⟩ : ∃ n : Nat, findI (fun x => decide (f x = p)) l = n := ⟨(findI (fun x => decide (f x = p)) l).toNat, by omega⟩
        rw [hn] at ih ⊢
        refine ⟨⟨fun _ => ih.1.1 (by omega), fun _ => by omega⟩, fun x hx => ?_⟩
        have := ih.2 x hx
        have e : ((n : Int) + 1) = ((n + 1 : Nat) : Int) := by omega
        rw [e, getD_gt, List.getD_cons_succ]
        exact this
end
section
variable {α : Type} (f : α → List UInt8) (hl hu : α → Option α) (hb : α → α → Option α)
end
/-! ### two layers as one -/
/-! ### two layers as one: the program's way and the reference's -/
/-- Right paths, strictly rising. -/
def sheetB (l : List Rec) : Bool := l.all (fun r => pathOK r.path) && decide (l.Pairwise fun a b => ltP a.path b.path = true)
theorem sheetB_path {l : List Rec} (h : sheetB l = true) : ∀ x ∈ l, pathOK x.path = true := by
  simp only [sheetB, Bool.and_eq_true] at h
  exact fun x hx => List.all_eq_true.1 h.1 x hx
theorem sheetB_rise {l : List Rec} (h : sheetB l = true) : Rise (l.map (·.path)) := by
  simp only [sheetB, Bool.and_eq_true] at h
  exact List.pairwise_map.2 (of_decide_eq_true h.2)
theorem sheetB_mk {l : List Rec} (h1 : ∀ x ∈ l, pathOK x.path = true) (h2 : Rise (l.map (·.path))) : sheetB l = true := by
  simp only [sheetB, Bool.and_eq_true]
  exact ⟨List.all_eq_true.2 h1, decide_eq_true (List.pairwise_map.1 h2)⟩
theorem codeAt_less {l : List Rec} {i : Nat} (h : codeAt l i = 0) (h0 : 0 < i) : ltP (l.getD (i - 1) default).path (l.getD i default).path = true := by
  unfold codeAt at h
  split at h
  · omega
  · split at h
    · exact absurd h ‹_›
    · split at h
      · omega
      · split at h
        · omega
        · rename_i h3
          rcases bool_two (lessL (cut 47 (l.getD (i - 1) default).path) (cut 47 (l.getD i default).path)) with h4 | h4
          · exact h4
          · exact absurd ⟨h0, h4⟩ h3
theorem layerOK_rise {l : List Rec} (h : (layerFault l).2 = 0) : Rise (l.map (·.path)) :=
  rise_of_near _ fun i h0 hi => codeAt_less (layerFault_zero h i hi) h0
/-! ### a node's place among nodes in order -/
def riseN (t : List Nd) : Bool := decide (t.Pairwise fun a b => ltP a.path b.path = true)
theorem riseN_rise {t : List Nd} (h : riseN t = true) : Rise (t.map (·.path)) := List.pairwise_map.2 (of_decide_eq_true h)
theorem riseN_mk {t : List Nd} (h : Rise (t.map (·.path))) : riseN t = true := decide_eq_true (List.pairwise_map.1 h)
def lessC (t : List Nd) (p : List UInt8) : Nat := (t.filter fun x => ltP x.path p).length
def placeL (t : List Nd) (n : Nd) : List Nd := t.filter (fun x => ltP x.path n.path) ++ n :: t.filter (fun x => !ltP x.path n.path)
theorem lessC_le (t : List Nd) (p : List UInt8) : lessC t p ≤ t.length := List.length_filter_le _ _
theorem notless_all {x : Nd} {t : List Nd} {p : List UInt8} (hr : Rise ((x :: t).map (·.path))) (hx : ltP x.path p = false) : ∀ y ∈ t, ltP y.path p = false := by
  intro y hy
  have h1 : ltP x.path y.path = true := rise_lt hr y.path (List.mem_map_of_mem hy)
  rcases bool_two (ltP y.path p) with h | h
  · rw [ltP_trans h1 h] at hx; cases hx
  · exact h
theorem less_iff : ∀ {t : List Nd} {p : List UInt8}, Rise (t.map (·.path)) → ∀ h, h < t.length → ltP (t.getD h default).path p = decide (h < lessC t p) := by
  intro t p
  induction t with
  | nil => intro _ h hh; simp at hh
  | cons x t ih =>
    intro hr h hh
    have hr2 := rise_tl hr
    rcases bool_two (ltP x.path p) with hx | hx
    · have hc : lessC (x :: t) p = lessC t p + 1 := by simp [lessC, hx]
      cases h with
      | zero => simp [hx, hc]
      | succ h =>
        rw [List.getD_cons_succ, ih hr2 h (by simpa using hh), hc]
        rw [decide_eq_decide]; omega
    · have hall := notless_all hr hx
      have hc : lessC (x :: t) p = 0 := by
        unfold lessC
        rw [List.length_eq_zero_iff, List.filter_eq_nil_iff]
        intro y hy
        rcases List.mem_cons.1 hy with rfl | hy
        · rw [hx]; simp
        · rw [hall y hy]; simp
      rw [hc]
      have hm : (x :: t).getD h default ∈ x :: t := by rw [getD_el hh]; exact List.getElem_mem hh
      rcases List.mem_cons.1 hm with he | hm
      · rw [he, hx]; simp
      · rw [hall _ hm]; simp
theorem less_split : ∀ {t : List Nd} {p : List UInt8}, Rise (t.map (·.path)) → t.take (lessC t p) = t.filter (fun x => ltP x.path p) ∧ t.drop (lessC t p) = t.filter (fun x => !ltP x.path p) := by
  intro t p
  induction t with
  | nil => intro _; exact ⟨rfl, rfl⟩
  | cons x t ih =>
    intro hr
    obtain ⟨i1, i2⟩ := ih (rise_tl hr)
    rcases bool_two (ltP x.path p) with hx | hx
    · have hc : lessC (x :: t) p = lessC t p + 1 := by simp [lessC, hx]
      rw [hc, List.take_succ_cons, List.drop_succ_cons, i1, i2]
      simp [hx]
    · have hall := notless_all hr hx
      have hc : lessC (x :: t) p = 0 := by
        unfold lessC
        rw [List.length_eq_zero_iff, List.filter_eq_nil_iff]
        intro y hy
        rcases List.mem_cons.1 hy with rfl | hy
        · rw [hx]; simp
        · rw [hall y hy]; simp
      have h1 : (x :: t).filter (fun x => ltP x.path p) = [] := List.length_eq_zero_iff.1 hc
      have h2 : (x :: t).filter (fun x => !ltP x.path p) = x :: t := List.filter_eq_self.2 fun y hy => by
        rcases List.mem_cons.1 hy with rfl | hy
        · rw [hx]; rfl
        · rw [hall y hy]; rfl
      rw [hc, h1, h2]
      exact ⟨rfl, rfl⟩
def cmpN (x y : Nd) : Option Int := bif decide (x.path.length ≤ 1048576) then (bif decide (y.path.length ≤ 1048576) then some (cmpL (cut 47 x.path) (cut 47 y.path)) else none) else none
theorem cmpN_some {x y : Nd} {r : Int} (h : cmpN x y = some r) : x.path.length ≤ 1048576 ∧ y.path.length ≤ 1048576 ∧ r = cmpL (cut 47 x.path) (cut 47 y.path) := by
  unfold cmpN at h
  by_cases h1 : x.path.length ≤ 1048576
  · by_cases h2 : y.path.length ≤ 1048576
    · simp [h1, h2] at h; exact ⟨h1, h2, h.symm⟩
    · simp [h1, h2] at h
  · simp [h1] at h
def slices_BinSearchN.b1 (a0 : List Nd) (a1 : Nd) (a2 : Nd → Nd → Option Int) : Int × Int → Option (Step (Int × Bool) (Int × Int) (Int)) :=
  fun q => match q with
  | (x9_7, x10_8) => bif (decide (x9_7 < x10_8)) then (bif inR (IntKind.wrap .i64 ((IntKind.wrap .u64 (IntKind.wrap .i64 (x9_7 + x10_8))).fdiv (2 ^ 1))) a0.length then ((a2 (gt a0 (IntKind.wrap .i64 ((IntKind.wrap .u64 (IntKind.wrap .i64 (x9_7 + x10_8))).fdiv (2 ^ 1)))) a1).bind fun z31 => bif (decide (z31 < 0)) then (some (.nxt (IntKind.wrap .i64 ((IntKind.wrap .i64 ((IntKind.wrap .u64 (IntKind.wrap .i64 (x9_7 + x10_8))).fdiv (2 ^ 1))) + 1), x10_8))) else (some (.nxt (x9_7, IntKind.wrap .i64 ((IntKind.wrap .u64 (IntKind.wrap .i64 (x9_7 + x10_8))).fdiv (2 ^ 1)))))) else none) else (some (.brk x9_7))
def slices_BinSearchN.sh (k : Nat) (a0 : List Nd) (a1 : Nd) (a2 : Nd → Nd → Option Int) : Option (Int × Bool) :=
  (loopF (slices_BinSearchN.b1 a0 a1 a2) k (0, (a0.length : Int))).bind fun z => match z with | .inl t => some t | .inr x9_12 => bif (!(decide (x9_12 < (a0.length : Int))) || (inR x9_12 a0.length)) then ((a2 (gt a0 x9_12) a1).bind fun z58 => some (x9_12, ((decide (x9_12 < (a0.length : Int))) && (decide (z58 = 0))))) else none
theorem slices_BinSearchN.eq (a0 : List Nd) (a1 : Nd) (a2 : Nd → Nd → Option Int) {r : Int × Bool} (H : slices_BinSearchN.sh 64 a0 a1 a2 = some r) : ∃ k, slices_BinSearchN.sh k a0 a1 a2 = some r := ⟨64, H⟩
theorem binS_loop {t : List Nd} {n : Nd} (h0 : t.length ≤ 1048575) (h1 : Rise (t.map (·.path))) (h2 : ∀ x ∈ t, x.path.length ≤ 1048576) (h3 : n.path.length ≤ 1048576) :
    ∀ (d i j k : Nat), j - i < 2 ^ d → d < k → i ≤ lessC t n.path → lessC t n.path ≤ j → j ≤ t.length → loopF (slices_BinSearchN.b1 t n cmpN) k ((i : Int), (j : Int)) = some (.inr (lessC t n.path : Int)) := by
  intro d
  induction d with
  | zero =>
    intro i j k hd hk hi hj hl
    obtain ⟨k, rfl⟩ : ∃ m, k = m + 1 := ⟨k - 1, by omega⟩
    have hij : i = j := by simp at hd; omega
    subst hij
    have he : lessC t n.path = i := by omega
    rw [loopF]
    have d1 : decide ((i : Int) < (i : Int)) = false := decide_eq_false (by omega)
    simp only [slices_BinSearchN.b1, d1, cond_false, he]; rfl
  | succ d ih =>
    intro i j k hd hk hi hj hl
    obtain ⟨k, rfl⟩ : ∃ m, k = m + 1 := ⟨k - 1, by omega⟩
    rw [loopF]
    by_cases hij : i < j
    · have d1 : decide ((i : Int) < (j : Int)) = true := decide_eq_true (by omega)
      obtain ⟨m, hm⟩ : ∃ m : Nat, m = (i + j) / 2 := ⟨_, rfl⟩
      have w1 : IntKind.wrap .i64 ((i : Int) + (j : Int)) = ((i + j : Nat) : Int) := by rw [wrap_small (by omega) (by omega)]; omega
      have w2 : IntKind.wrap .u64 ((i + j : Nat) : Int) = ((i + j : Nat) : Int) := by rw [IntKind.wrap_u64]; omega
      have w3 : (((i + j : Nat) : Int)).fdiv (2 ^ 1) = (m : Int) := by
        rw [hm, show ((2 : Int) ^ 1) = 2 by rfl, Int.fdiv_eq_ediv_of_nonneg _ (by omega)]; omega
      have w4 : IntKind.wrap .i64 (m : Int) = (m : Int) := wrap_small (by omega) (by omega)
      have w5 : IntKind.wrap .i64 ((m : Int) + 1) = ((m + 1 : Nat) : Int) := by rw [wrap_small (by omega) (by omega)]; omega
      have hml : m < t.length := by omega
      have hp : (t.getD m default).path.length ≤ 1048576 := h2 _ (by rw [getD_el hml]; exact List.getElem_mem hml)
      have hc : cmpN (gt t (m : Int)) n = some (cmpL (cut 47 (t.getD m default).path) (cut 47 n.path)) := by
        unfold cmpN; rw [getD_gt]; simp only [decide_eq_true hp, decide_eq_true h3, cond_true]
      have hcl : decide (cmpL (cut 47 (t.getD m default).path) (cut 47 n.path) < 0) = decide (m < lessC t n.path) := by
        rw [cmpL_less]; exact less_iff h1 m hml
      have hpow : 2 ^ (d + 1) = 2 * 2 ^ d := by rw [Nat.pow_succ]; omega
      simp only [slices_BinSearchN.b1, d1, cond_true, w1, w2, w3, w4, w5, inR_nat hml, hc, Option.bind_some, hcl]
      by_cases hlt : m < lessC t n.path
      · simp only [hlt, decide_true, cond_true]
        exact ih (m + 1) j k (by omega) (by omega) (by omega) hj hl
      · simp only [hlt, decide_false, cond_false]
        exact ih i m k (by omega) (by omega) hi (by omega) (by omega)
    · have he : lessC t n.path = i := by omega
      have d1 : decide ((i : Int) < (j : Int)) = false := decide_eq_false (by omega)
      simp only [slices_BinSearchN.b1, d1, cond_false, he]; rfl
theorem binS_run {t : List Nd} {n : Nd} (h0 : t.length ≤ 1048575) (h1 : riseN t = true) (h2 : ∀ x ∈ t, x.path.length ≤ 1048576) (h3 : n.path.length ≤ 1048576) :
    ∃ fd : Bool, slices_BinSearchN.sh 64 t n cmpN = some ((lessC t n.path : Int), fd) := by
  have hl := binS_loop h0 (riseN_rise h1) h2 h3 20 0 t.length 64 (by omega) (by omega) (Nat.zero_le _) (lessC_le _ _) (Nat.le_refl _)
  have hle := lessC_le t n.path
  unfold slices_BinSearchN.sh
  rw [show ((0 : Int)) = ((0 : Nat) : Int) from rfl, hl]
  have hc : ∃ z, cmpN (gt t (lessC t n.path : Int)) n = some z := by
    unfold cmpN
    have hp : (gt t (lessC t n.path : Int)).path.length ≤ 1048576 := by
      rw [getD_gt]
      by_cases hlt : lessC t n.path < t.length
      · rw [getD_el hlt]; exact h2 _ (List.getElem_mem hlt)
      · rw [List.getD_eq_getElem?_getD, List.getElem?_eq_none (by omega)]; exact Nat.zero_le _
    exact ⟨_, by simp only [decide_eq_true hp, decide_eq_true h3, cond_true]; rfl⟩
  obtain ⟨z, hz⟩ := hc
  have hg : (!(decide ((lessC t n.path : Int) < (t.length : Int))) || inR (lessC t n.path : Int) t.length) = true := by
    by_cases hlt : lessC t n.path < t.length
    · rw [inR_nat hlt]; simp
    · have : decide ((lessC t n.path : Int) < (t.length : Int)) = false := decide_eq_false (by omega)
      rw [this]; rfl
  exact ⟨_, by simp only [Option.bind_some, hg, cond_true, hz]; rfl⟩
def impl_place_1.sh (a0 : Nd) (a1 : Nd) : Option (Int) :=
  bif decide (a0.path.length ≤ 1048576) then (bif decide (a1.path.length ≤ 1048576) then (some (cmpL (cut 47 a0.path) (cut 47 a1.path))) else none) else none
theorem impl_place_1.eq (a0 a1 : Nd) (h0 : a0.path.length ≤ 1048576) (h1 : a1.path.length ≤ 1048576) : impl_place_1.sh a0 a1 = some (cmpL (cut 47 a0.path) (cut 47 a1.path)) := by simp [impl_place_1.sh, h0, h1]

end Go.UL
