/- Plain Lean: what the functions compute. -/
import Derived.Test.YthpjkenkbfkdhaaGreatDoorVP18
set_option linter.unusedVariables false
set_option linter.unusedSimpArgs false
namespace Go.UL
open Go.RowKit
/-! ### the order of paths -/
theorem bl_trans : ∀ a b c : List UInt8, Op.bytesLess a b = true → Op.bytesLess b c = true → Op.bytesLess a c = true := by
  intro a
  induction a with
  | nil => intro b c h1 h2; cases b with
    | nil => simp [Op.bytesLess] at h1
    | cons y b => cases c with
      | nil => simp [Op.bytesLess] at h2
      | cons z c => rfl
  | cons x a ih =>
    intro b c h1 h2
    cases b with
    | nil => simp [Op.bytesLess] at h1
    | cons y b => cases c with
      | nil => simp [Op.bytesLess] at h2
      | cons z c =>
        simp only [Op.bytesLess, Bool.or_eq_true, Bool.and_eq_true, decide_eq_true_eq, beq_iff_eq, UInt8.lt_iff_toNat_lt] at h1 h2 ⊢
        rcases h1 with h1 | ⟨rfl, h1⟩
        · rcases h2 with h2 | ⟨rfl, h2⟩
          · exact .inl (by omega)
          · exact .inl h1
        · rcases h2 with h2 | ⟨rfl, h2⟩
          · exact .inl h2
          · exact .inr ⟨rfl, ih b c h1 h2⟩
theorem bl_tri : ∀ a b : List UInt8, Op.bytesLess a b = false → Op.bytesLess b a = false → a = b := by
  intro a
  induction a with
  | nil => intro b h1 h2; cases b with
    | nil => rfl
    | cons y b => simp [Op.bytesLess] at h1
  | cons x a ih =>
    intro b h1 h2
    cases b with
    | nil => simp [Op.bytesLess] at h2
    | cons y b =>
      simp only [Op.bytesLess, Bool.or_eq_false_iff, Bool.and_eq_false_iff, decide_eq_false_iff_not, beq_eq_false_iff_ne, UInt8.lt_iff_toNat_lt] at h1 h2
      have hxy : x = y := UInt8.toNat_inj.1 (by omega)
      subst hxy
      rcases h1.2 with h | h
      · exact absurd rfl h
      · rcases h2.2 with h' | h'
        · exact absurd rfl h'
        · rw [ih b h h']
theorem lt8_trans {a b c : List UInt8} (h1 : lt8 a b = true) (h2 : lt8 b c = true) : lt8 a c = true := by
  simp only [lt8] at *
  exact bl_trans _ _ _ h1 h2
theorem lt8_tri {a b : List UInt8} (h1 : lt8 a b = false) (h2 : lt8 b a = false) : a = b := by
  simp only [lt8] at *
  exact bl_tri _ _ h1 h2
theorem lessL_irrefl : ∀ a, lessL a a = false := by
  intro a
  induction a with
  | nil => rfl
  | cons x a ih => simp [lessL, ih]
theorem lessL_trans : ∀ a b c, lessL a b = true → lessL b c = true → lessL a c = true := by
  intro a
  induction a with
  | nil =>
    intro b c h1 h2
    cases b with
    | nil => simp [lessL] at h1
    | cons y b => cases c with
      | nil => simp [lessL] at h2
      | cons z c => rfl
  | cons x a ih =>
    intro b c h1 h2
    cases b with
    | nil => simp [lessL] at h1
    | cons y b => cases c with
      | nil => simp [lessL] at h2
      | cons z c =>
        simp only [lessL] at h1 h2 ⊢
        by_cases hxy : x = y
        · subst hxy
          simp only [if_true] at h1
          by_cases hxz : x = z
          · subst hxz
            simp only [if_true] at h2 ⊢
            exact ih b c h1 h2
          · simp only [hxz, if_false] at h2 ⊢; exact h2
        · simp only [hxy, if_false] at h1
          by_cases hyz : y = z
          · subst hyz
            simp only [hxy, if_false]; exact h1
          · simp only [hyz, if_false] at h2
            have h3 := lt8_trans h1 h2
            by_cases hxz : x = z
            · subst hxz; rw [lt8_irrefl] at h3; cases h3
            · simp only [hxz, if_false]; exact h3
theorem lessL_tri : ∀ a b, lessL a b = false → lessL b a = false → a = b := by
  intro a
  induction a with
  | nil =>
    intro b h1 h2
    cases b with
    | nil => rfl
    | cons y b => simp [lessL] at h1
  | cons x a ih =>
    intro b h1 h2
    cases b with
    | nil => simp [lessL] at h2
    | cons y b =>
      simp only [lessL] at h1 h2
      by_cases hxy : x = y
      · subst hxy
        simp only [if_true] at h1 h2
        rw [ih b h1 h2]
      · have hyx : ¬ y = x := fun e => hxy e.symm
        simp only [hxy, hyx, if_false] at h1 h2
        exact absurd (lt8_tri h1 h2) hxy
def ltP (a b : List UInt8) : Bool := lessL (cut 47 a) (cut 47 b)
theorem ltP_irrefl (a : List UInt8) : ltP a a = false := lessL_irrefl _
theorem ltP_trans {a b c : List UInt8} (h1 : ltP a b = true) (h2 : ltP b c = true) : ltP a c = true := lessL_trans _ _ _ h1 h2
theorem ltP_tri {a b : List UInt8} (h1 : ltP a b = false) (h2 : ltP b a = false) : a = b := cut_inj (lessL_tri _ _ h1 h2)
theorem ltP_asymm {a b : List UInt8} (h : ltP a b = true) : ltP b a = false := by
  rcases bool_two (ltP b a) with h2 | h2
  · have := ltP_trans h h2; rw [ltP_irrefl] at this; cases this
  · exact h2
theorem ltP_ne {a b : List UInt8} (h : ltP a b = true) : a ≠ b := fun e => by subst e; rw [ltP_irrefl] at h; cases h
/-- Rising strictly. -/
def Rise (l : List (List UInt8)) : Prop := l.Pairwise fun a b => ltP a b = true
theorem Rise.uniq : ∀ {a b : List (List UInt8)}, Rise a → Rise b → (∀ x, x ∈ a ↔ x ∈ b) → a = b := by
  intro a
  induction a with
  | nil =>
    intro b _ _ h
    cases b with
    | nil => rfl
    | cons y b => exact absurd ((h y).2 (List.mem_cons_self ..)) (by simp)
  | cons x a ih =>
    intro b ha hb h
    cases b with
    | nil => exact absurd ((h x).1 (List.mem_cons_self ..)) (by simp)
    | cons y b =>
      have ha' := List.pairwise_cons.1 ha
      have hb' := List.pairwise_cons.1 hb
      have hxy : x = y := by
        rcases List.mem_cons.1 ((h x).1 (List.mem_cons_self ..)) with e | hx
        · exact e
        · rcases List.mem_cons.1 ((h y).2 (List.mem_cons_self ..)) with e | hy
          · exact e.symm
          · have h1 := hb'.1 x hx
            have h2 := ha'.1 y hy
            rw [ltP_asymm h1] at h2; cases h2
      subst hxy
      congr 1
      refine ih ha'.2 hb'.2 fun z => ?_
      constructor
      · intro hz
        rcases List.mem_cons.1 ((h z).1 (List.mem_cons_of_mem _ hz)) with e | hz'
        · subst e; exact absurd rfl (ltP_ne (ha'.1 z hz))
        · exact hz'
      · intro hz
        rcases List.mem_cons.1 ((h z).2 (List.mem_cons_of_mem _ hz)) with e | hz'
        · subst e; exact absurd rfl (ltP_ne (hb'.1 z hz))
        · exact hz'
/-- From neighbours to all. -/
theorem rise_of_near {α : Type} [Inhabited α] (f : α → List UInt8) {l : List α} (h : ∀ i, 0 < i → i < l.length → ltP (f (l.getD (i - 1) default)) (f (l.getD i default)) = true) : Rise (l.map f) := by
  unfold Rise
  rw [List.pairwise_map, List.pairwise_iff_getElem]
  intro i j hi hj hij
  obtain ⟨d, rfl⟩ : ∃ d, j = i + 1 + d := ⟨j - i - 1, by omega⟩
  induction d with
  | zero =>
    have := h (i + 1) (by omega) hj
    rw [getD_el hj, show i + 1 - 1 = i by omega, getD_el hi] at this
    exact this
  | succ d ih =>
    have h1 := ih (by omega) (by omega)
    have h2 := h (i + 1 + (d + 1)) (by omega) hj
    rw [getD_el hj, show i + 1 + (d + 1) - 1 = i + 1 + d by omega, getD_el (by omega)] at h2
    exact ltP_trans h1 h2
theorem treeOK_rise {t : List Nd} (h : treeOK t = true) : t.length ≤ 24 ∧ Rise (t.map (·.path)) := by
  unfold treeOK at h
  rw [Bool.and_eq_true] at h
  refine ⟨of_decide_eq_true h.1, rise_of_near _ fun i h0 hi => ?_⟩
  have := List.all_eq_true.1 h.2 i (List.mem_range.2 hi)
  have h9 : ¬ i = 0 := by omega
  simp only [nodeAtOK, Bool.and_eq_true, h9, decide_false, Bool.false_or] at this
  exact this.1.2
/-! ### two sorted trees side by side -/
def lookN (l : List Nd) (p : List UInt8) : Option Nd := l.find? fun x => decide (x.path = p)
def nodeAt (t : List Nd) (p : List UInt8) : Nd := if 0 ≤ findN t p then gt t (findN t p) else zeroN
theorem lookN_cons (x : Nd) (l : List Nd) (p : List UInt8) : lookN (x :: l) p = if x.path = p then some x else lookN l p := by
  unfold lookN
  by_cases h : x.path = p <;> simp [h]
theorem lookN_none {l : List Nd} {p : List UInt8} : lookN l p = none ↔ p ∉ l.map (·.path) := by
  induction l with
  | nil => simp [lookN]
  | cons x l ih =>
    rw [lookN_cons]
    by_cases h : x.path = p
    · simp [h]
    · rw [if_neg h, ih]
      simp [Ne.symm h]
theorem lookN_some {l : List Nd} {p : List UInt8} {x : Nd} (h : lookN l p = some x) : x ∈ l ∧ x.path = p := by
  have h1 := List.mem_of_find?_eq_some h
  have h2 := List.find?_some h
  exact ⟨h1, of_decide_eq_true h2⟩
theorem gt_cons_succ (x : Nd) (l : List Nd) (n : Nat) : gt (x :: l) ((n : Int) + 1) = gt l (n : Int) := by
  have : ((n : Int) + 1) = ((n + 1 : Nat) : Int) := by omega
  rw [this, getD_gt, getD_gt, List.getD_cons_succ]
theorem nodeAt_look (t : List Nd) (p : List UInt8) : nodeAt t p = (lookN t p).getD zeroN := by
  unfold nodeAt findN
  induction t with
  | nil => simp [findI, lookN]
  | cons x t ih =>
    rw [lookN_cons]
    by_cases h : x.path = p
    · simp only [findI, h, decide_true, if_true]
      rfl
    · simp only [findI, h, decide_false, Bool.false_eq_true, if_false]
      rw [← ih]
      by_cases hm : findI (fun r : Nd => decide (r.path = p)) t = -1
      · rw [if_pos hm, hm]; rfl
      · have hg := findI_ge (fun r : Nd => decide (r.path = p)) t
        obtain ⟨n, hn⟩ : ∃ n : Nat, findI (fun r : Nd => decide (r.path = p)) t = n := ⟨(findI (fun r : Nd => decide (r.path = p)) t).toNat, by omega⟩
        rw [if_neg hm, hn]
        have h0 : (0 : Int) ≤ (n : Int) := by omega
        have h1 : (0 : Int) ≤ (n : Int) + 1 := by omega
        rw [if_pos h0, if_pos h1, gt_cons_succ]
def mrg : List Nd → List Nd → List (List UInt8)
  | [], b => b.map (·.path)
  | x :: a, [] => (x :: a).map (·.path)
  | x :: a, y :: b =>
    if ltP x.path y.path then x.path :: mrg a (y :: b)
    else if ltP y.path x.path then y.path :: mrg (x :: a) b
    else if x = y then mrg a b else x.path :: mrg a b
termination_by a b => a.length + b.length
theorem mrg_nil (a : List Nd) : mrg a [] = a.map (·.path) := by cases a <;> rw [mrg] <;> rfl
theorem rise_lt {x : List UInt8} {l : List (List UInt8)} (h : Rise (x :: l)) : ∀ z ∈ l, ltP x z = true := (List.pairwise_cons.1 h).1
theorem rise_tl {x : List UInt8} {l : List (List UInt8)} (h : Rise (x :: l)) : Rise l := (List.pairwise_cons.1 h).2
theorem look_diff {a b : List Nd} {z : List UInt8} (h : lookN a z ≠ lookN b z) : z ∈ a.map (·.path) ∨ z ∈ b.map (·.path) := by
  by_cases h1 : z ∈ a.map (·.path)
  · exact .inl h1
  · by_cases h2 : z ∈ b.map (·.path)
    · exact .inr h2
    · rw [lookN_none.2 h1, lookN_none.2 h2] at h; exact absurd rfl h
theorem mrg_spec : ∀ (n : Nat) (a b : List Nd), a.length + b.length ≤ n → Rise (a.map (·.path)) → Rise (b.map (·.path)) → Rise (mrg a b) ∧ ∀ z, z ∈ mrg a b ↔ lookN a z ≠ lookN b z := by
  intro n
  induction n with
  | zero =>
    intro a b hn ha hb
    have h1 : a = [] := List.eq_nil_of_length_eq_zero (by omega)
    have h2 : b = [] := List.eq_nil_of_length_eq_zero (by omega)
    subst h1; subst h2
    refine ⟨by rw [mrg]; exact hb, fun z => ?_⟩
    rw [mrg]; simp
  | succ n ih =>
    intro a b hn ha hb
    cases a with
    | nil =>
      refine ⟨by rw [mrg]; exact hb, fun z => ?_⟩
      rw [mrg]
      have hz : lookN ([] : List Nd) z = none := rfl
      rw [hz]
      constructor
      · intro h e; exact (lookN_none.1 e.symm) h
      · intro h
        by_cases h2 : z ∈ b.map (·.path)
        · exact h2
        · exact absurd (lookN_none.2 h2).symm h
    | cons x a =>
      cases b with
      | nil =>
        rw [mrg_nil]
        refine ⟨ha, fun z => ?_⟩
        have hz : lookN ([] : List Nd) z = none := rfl
        rw [hz]
        constructor
        · intro h e; exact (lookN_none.1 e) h
        · intro h
          by_cases h2 : z ∈ (x :: a).map (·.path)
          · exact h2
          · exact absurd (lookN_none.2 h2) h
      | cons y b =>
        simp only [List.length_cons] at hn
        have ha1 : ∀ z ∈ a.map (·.path), ltP x.path z = true := rise_lt ha
        have hb1 : ∀ z ∈ b.map (·.path), ltP y.path z = true := rise_lt hb
        have ha2 : Rise (a.map (·.path)) := rise_tl ha
        have hb2 : Rise (b.map (·.path)) := rise_tl hb
        rw [mrg]
        rcases bool_two (ltP x.path y.path) with hl | hl
        · obtain ⟨i1, i2⟩ := ih a (y :: b) (by simp only [List.length_cons]; omega) ha2 hb
          have hbx : ∀ z ∈ (y :: b).map (·.path), ltP x.path z = true := by
            intro z hz
            rcases List.mem_cons.1 hz with rfl | hz
            · exact hl
            · exact ltP_trans hl (hb1 z hz)
          rw [if_pos hl]
          refine ⟨List.pairwise_cons.2 ⟨fun z hz => ?_, i1⟩, fun z => ?_⟩
          · rcases look_diff ((i2 z).1 hz) with h | h
            · exact ha1 z h
            · exact hbx z h
          · rw [List.mem_cons, lookN_cons x a]
            by_cases hz : x.path = z
            · rw [if_pos hz]
              have : lookN (y :: b) z = none := lookN_none.2 fun hm => ltP_ne (hbx z hm) hz
              rw [this]
              exact ⟨fun _ => by simp, fun _ => .inl hz.symm⟩
            · rw [if_neg hz, i2 z]
              exact ⟨fun h => h.resolve_left fun e => hz e.symm, .inr⟩
        · have hln : ¬ ltP x.path y.path = true := by rw [hl]; simp
          rw [if_neg hln]
          rcases bool_two (ltP y.path x.path) with hr | hr
          · obtain ⟨i1, i2⟩ := ih (x :: a) b (by simp only [List.length_cons]; omega) ha hb2
            have hay : ∀ z ∈ (x :: a).map (·.path), ltP y.path z = true := by
              intro z hz
              rcases List.mem_cons.1 hz with rfl | hz
              · exact hr
              · exact ltP_trans hr (ha1 z hz)
            rw [if_pos hr]
            refine ⟨List.pairwise_cons.2 ⟨fun z hz => ?_, i1⟩, fun z => ?_⟩
            · rcases look_diff ((i2 z).1 hz) with h | h
              · exact hay z h
              · exact hb1 z h
            · rw [List.mem_cons, lookN_cons y b]
              by_cases hz : y.path = z
              · rw [if_pos hz]
                have : lookN (x :: a) z = none := lookN_none.2 fun hm => ltP_ne (hay z hm) hz
                rw [this]
                exact ⟨fun _ => by simp, fun _ => .inl hz.symm⟩
              · rw [if_neg hz, i2 z]
                exact ⟨fun h => h.resolve_left fun e => hz e.symm, .inr⟩
          · have hrn : ¬ ltP y.path x.path = true := by rw [hr]; simp
            have hxy : x.path = y.path := ltP_tri hl hr
            rw [if_neg hrn]
            obtain ⟨i1, i2⟩ := ih a b (by omega) ha2 hb2
            have hna : lookN a x.path = none := lookN_none.2 fun hm => ltP_ne (ha1 _ hm) rfl
            have hnb : lookN b x.path = none := lookN_none.2 fun hm => ltP_ne (hb1 _ hm) hxy.symm
            by_cases he : x = y
            · subst he
              rw [if_pos rfl]
              refine ⟨i1, fun z => ?_⟩
              rw [i2 z, lookN_cons x a, lookN_cons x b]
              by_cases hz : x.path = z
              · subst hz
                rw [hna, hnb, if_pos rfl]
                simp
              · rw [if_neg hz, if_neg hz]
            · rw [if_neg he]
              refine ⟨List.pairwise_cons.2 ⟨fun z hz => ?_, i1⟩, fun z => ?_⟩
              · rcases look_diff ((i2 z).1 hz) with h | h
                · exact ha1 z h
                · rw [hxy]; exact hb1 z h
              · rw [List.mem_cons, lookN_cons x a, lookN_cons y b, ← hxy]
                by_cases hz : x.path = z
                · rw [if_pos hz, if_pos hz]
                  exact ⟨fun _ e => he (Option.some.inj e), fun _ => .inl hz.symm⟩
                · rw [if_neg hz, if_neg hz, i2 z]
                  exact ⟨fun h => h.resolve_left fun e => hz e.symm, .inr⟩
/-! ### the paths of layers -/
def insP (l : List (List UInt8)) (p : List UInt8) : List (List UInt8) := l.filter (fun x => ltP x p) ++ p :: l.filter (fun x => ltP p x)
theorem insP_rise {l : List (List UInt8)} (h : Rise l) (p : List UInt8) : Rise (insP l p) := by
  unfold insP Rise
  rw [List.pairwise_append, List.pairwise_cons]
  refine ⟨List.Pairwise.filter _ h, ⟨fun z hz => (List.mem_filter.1 hz).2, List.Pairwise.filter _ h⟩, ?_⟩
  intro u hu v hv
  have h1 := (List.mem_filter.1 hu).2
  rcases List.mem_cons.1 hv with rfl | hv
  · exact h1
  · exact ltP_trans h1 (List.mem_filter.1 hv).2
theorem insP_mem (l : List (List UInt8)) (p z : List UInt8) : z ∈ insP l p ↔ z = p ∨ z ∈ l := by
  unfold insP
  rw [List.mem_append, List.mem_cons, List.mem_filter, List.mem_filter]
  constructor
  · rintro (h | h | h)
    · exact .inr h.1
    · exact .inl h
    · exact .inr h.1
  · rintro (h | h)
    · exact .inr (.inl h)
    · rcases bool_two (ltP z p) with h1 | h1
      · exact .inl ⟨h, h1⟩
      · rcases bool_two (ltP p z) with h2 | h2
        · exact .inr (.inr ⟨h, h2⟩)
        · exact .inr (.inl (ltP_tri h1 h2))
def riseOf (l : List (List UInt8)) : List (List UInt8) := l.foldl insP []
theorem foldl_insP : ∀ (l acc : List (List UInt8)), Rise acc → Rise (l.foldl insP acc) ∧ ∀ z, z ∈ l.foldl insP acc ↔ z ∈ l ∨ z ∈ acc := by
  intro l
  induction l with
  | nil => intro acc h; exact ⟨h, fun z => by simp⟩
  | cons x l ih =>
    intro acc h
    obtain ⟨h1, h2⟩ := ih (insP acc x) (insP_rise h x)
    refine ⟨h1, fun z => ?_⟩
    rw [List.foldl_cons, h2, insP_mem, List.mem_cons]
    constructor
    · rintro (h | h | h)
      · exact .inl (.inr h)
      · exact .inl (.inl h)
      · exact .inr h
    · rintro ((h | h) | h)
      · exact .inr (.inl h)
      · exact .inl h
      · exact .inr (.inr h)
theorem riseOf_rise (l : List (List UInt8)) : Rise (riseOf l) := (foldl_insP l [] List.Pairwise.nil).1
theorem riseOf_mem (l : List (List UInt8)) (z : List UInt8) : z ∈ riseOf l ↔ z ∈ l := by
  rw [riseOf, (foldl_insP l [] List.Pairwise.nil).2]; simp
theorem insP_len (l : List (List UInt8)) (p : List UInt8) : (insP l p).length ≤ l.length + 1 := by
  unfold insP
  have : (l.filter fun x => ltP x p).length + (l.filter fun x => ltP p x).length ≤ l.length := by
    induction l with
    | nil => simp
    | cons x l ih =>
      rcases bool_two (ltP x p) with h1 | h1
      · have h2 := ltP_asymm h1
        simp [h1, h2]; omega
      · rcases bool_two (ltP p x) with h2 | h2 <;> simp [h1, h2] <;> omega
  simp only [List.length_append, List.length_cons]; omega
theorem riseOf_len (l : List (List UInt8)) : (riseOf l).length ≤ l.length := by
  have : ∀ (l acc : List (List UInt8)), (l.foldl insP acc).length ≤ l.length + acc.length := by
    intro l
    induction l with
    | nil => intro acc; simp
    | cons x l ih =>
      intro acc
      have h1 := ih (insP acc x)
      have h2 := insP_len acc x
      simp only [List.foldl_cons, List.length_cons]; omega
  have := this l []
  simpa [riseOf] using this
def pathsL (ls : List (List Rec)) : List (List UInt8) := riseOf (ls.flatten.map (·.path))
def touchedL (a b : List Nd) : List (List UInt8) := (pathsL [a.map recOf, b.map recOf]).filter fun p => !decide (nodeAt a p = nodeAt b p)
def treesCode (a b : List Nd) : Int := if decide (4096 < a.length) || decide (4096 < b.length) then 2 else if !treeOK a || !treeOK b then 1 else 0
def touchedOf (a b : List Nd) : List (List UInt8) × Int := if treesCode a b = 0 then (touchedL a b, 0) else ([], treesCode a b)
theorem treesCode_zero {a b : List Nd} (h : treesCode a b = 0) : treeOK a = true ∧ treeOK b = true := by
  unfold treesCode at h
  split at h
  · omega
  · split at h
    · omega
    · rename_i h2; simpa using h2
theorem treeOK_kind {t : List Nd} (h : treeOK t = true) : ∀ x ∈ t, x ≠ zeroN := by
  intro x hx e
  unfold treeOK at h
  rw [Bool.and_eq_true] at h
  obtain ⟨i, hi, hxi⟩ := List.getElem_of_mem hx
  have := List.all_eq_true.1 h.2 i (List.mem_range.2 hi)
  simp only [nodeAtOK, Bool.and_eq_true] at this
  have h1 := this.1.1
  rw [getD_el hi, hxi, e] at h1
  simp [nodeOK, recOf, zeroN, recFault, within] at h1
theorem nodeAt_diff {a b : List Nd} (ha : treeOK a = true) (hb : treeOK b = true) (p : List UInt8) : nodeAt a p ≠ nodeAt b p ↔ lookN a p ≠ lookN b p := by
  rw [nodeAt_look, nodeAt_look]
  cases h1 : lookN a p with
  | none =>
    cases h2 : lookN b p with
    | none => simp
    | some y => simp [Ne.symm (treeOK_kind hb y (lookN_some h2).1)]
  | some x =>
    cases h2 : lookN b p with
    | none => simp [treeOK_kind ha x (lookN_some h1).1]
    | some y => simp
theorem touched_mrg {a b : List Nd} (ha : treeOK a = true) (hb : treeOK b = true) : touchedL a b = mrg a b := by
  obtain ⟨h1, h2⟩ := mrg_spec _ a b (Nat.le_refl _) (treeOK_rise ha).2 (treeOK_rise hb).2
  refine Rise.uniq (List.Pairwise.filter _ (riseOf_rise _)) h1 fun z => ?_
  rw [touchedL, List.mem_filter, h2]
  have hm : z ∈ pathsL [a.map recOf, b.map recOf] ↔ z ∈ a.map (·.path) ∨ z ∈ b.map (·.path) := by
    rw [pathsL, riseOf_mem]
    simp [recOf]
  have hd := nodeAt_diff ha hb z
  constructor
  · rintro ⟨_, h⟩
    exact hd.1 (by simpa using h)
  · intro h
    exact ⟨hm.2 (look_diff h), by simpa using hd.2 h⟩
theorem drop_gt {α : Type} [Inhabited α] {l : List α} {i : Nat} (h : i < l.length) : l.drop i = gt l (i : Int) :: l.drop (i + 1) := by
  rw [List.drop_eq_getElem_cons h, getD_gt, getD_el h]
theorem treesCode_dec (a b : List Nd) : (decide ((4096 : Int) < (a.length : Int)) || decide ((4096 : Int) < (b.length : Int))) = (decide (4096 < a.length) || decide (4096 < b.length)) := by rw [lenN4096, lenN4096]

end Go.UL
