/- Plain Lean: what the functions compute. -/
import Derived.Test.YthpjkenkbfkdhaaGreatDoorQP20
set_option linter.unusedVariables false
set_option linter.unusedSimpArgs false
namespace Go.UL
open Go.RowKit
/-! ### lists by paths, whatever stands at them -/
section
variable {α : Type} (f : α → List UInt8)
def lookF (l : List α) (p : List UInt8) : Option α := l.find? fun x => decide (f x = p)
theorem lookF_cons (x : α) (l : List α) (p : List UInt8) : lookF f (x :: l) p = if f x = p then some x else lookF f l p := by
  unfold lookF
  by_cases h : f x = p <;> simp [h]
theorem lookF_none {l : List α} {p : List UInt8} : lookF f l p = none ↔ p ∉ l.map f := by
  induction l with
  | nil => simp [lookF]
  | cons x l ih =>
    rw [lookF_cons]
    by_cases h : f x = p
    · simp [h]
    · rw [if_neg h, ih]
      simp [Ne.symm h]
theorem lookF_some {l : List α} {p : List UInt8} {x : α} (h : lookF f l p = some x) : x ∈ l ∧ f x = p := by
  have h1 := List.mem_of_find?_eq_some h
  have h2 := List.find?_some h
  exact ⟨h1, of_decide_eq_true h2⟩
theorem lookF_of_mem {l : List α} (h : Rise (l.map f)) : ∀ x ∈ l, lookF f l (f x) = some x := by
  induction l with
  | nil => intro x hx; cases hx
  | cons y l ih =>
    intro x hx
    rw [lookF_cons]
    rcases List.mem_cons.1 hx with rfl | hx
    · rw [if_pos rfl]
    · have hlt : ltP (f y) (f x) = true := rise_lt h (f x) (List.mem_map_of_mem hx)
      rw [if_neg (ltP_ne hlt)]
      exact ih (rise_tl h) x hx
theorem filterMap_look {l : List α} (h : Rise (l.map f)) : (l.map f).filterMap (lookF f l) = l := by
  rw [List.filterMap_map]
  have : ∀ m : List α, (∀ x ∈ m, x ∈ l) → m.filterMap (lookF f l ∘ f) = m := by
    intro m
    induction m with
    | nil => intro _; rfl
    | cons x m ih =>
      intro hm
      rw [List.filterMap_cons]
      have h1 : (lookF f l ∘ f) x = some x := lookF_of_mem f h x (hm x (List.mem_cons_self ..))
      rw [h1]
      simp only
      rw [ih fun y hy => hm y (List.mem_cons_of_mem _ hy)]
  exact this l fun _ h => h
theorem mem_look {l : List α} {p : List UInt8} : p ∈ l.map f ↔ lookF f l p ≠ none := by
  constructor
  · intro h e; exact (lookF_none f).1 e h
  · intro h
    by_cases h2 : p ∈ l.map f
    · exact h2
    · exact absurd ((lookF_none f).2 h2) h
/-- Strictly rising lists that show the same at each path are the same. -/
theorem riseF_uniq {a b : List α} (ha : Rise (a.map f)) (hb : Rise (b.map f)) (h : ∀ p, lookF f a p = lookF f b p) : a = b := by
  have hm : a.map f = b.map f := Rise.uniq ha hb fun p => by rw [mem_look, mem_look, h]
  rw [← filterMap_look f ha, ← filterMap_look f hb, hm]
  congr 1
  funext p
  exact h p
/-- What a strictly rising list of paths picks. -/
theorem pick_spec {ps : List (List UInt8)} (hp : Rise ps) (g : List UInt8 → Option α) (hg : ∀ p x, g p = some x → f x = p) :
    Rise ((ps.filterMap g).map f) ∧ ∀ p, lookF f (ps.filterMap g) p = if p ∈ ps then g p else none := by
  induction ps with
  | nil => exact ⟨List.Pairwise.nil, fun p => by simp [lookF]⟩
  | cons q ps ih =>
    obtain ⟨i1, i2⟩ := ih (rise_tl hp)
    have hq := rise_lt hp
    have hnot : q ∉ ps := fun hm => ltP_ne (hq q hm) rfl
    cases hgq : g q with
    | none =>
      rw [List.filterMap_cons, hgq]
      refine ⟨i1, fun p => ?_⟩
      simp only
      rw [i2]
      by_cases e : p = q
      · subst e; simp [hnot, hgq]
      · simp [e]
    | some x =>
      rw [List.filterMap_cons, hgq]
      have hx := hg q x hgq
      refine ⟨?_, fun p => ?_⟩
      · simp only [List.map_cons]
        refine List.pairwise_cons.2 ⟨fun z hz => ?_, i1⟩
        rw [hx]
        have : lookF f (ps.filterMap g) z ≠ none := (mem_look f).1 hz
        rw [i2] at this
        by_cases hm : z ∈ ps
        · exact hq z hm
        · rw [if_neg hm] at this; exact absurd rfl this
      · simp only
        rw [lookF_cons, i2, hx]
        by_cases e : q = p
        · subst e; simp [hgq]
        · have e' : ¬ p = q := fun h => e h.symm
          simp [e, e']
theorem findI_look [Inhabited α] (l : List α) (p : List UInt8) : (0 ≤ findI (fun x => decide (f x = p)) l ↔ lookF f l p ≠ none) ∧ ∀ x, lookF f l p = some x → gt l (findI (fun x => decide (f x = p)) l) = x := by
  induction l with
  | nil => simp [findI, lookF]
  | cons y l ih =>
    rw [lookF_cons]
    by_cases h : f y = p
    · simp only [findI, h, decide_true, if_true]
      exact ⟨by simp, fun x hx => by rw [← Option.some.inj hx]; rfl⟩
    · simp only [findI, h, decide_false, Bool.false_eq_true, if_false]
      have hge := findI_ge (fun x => decide (f x = p)) l
      by_cases hm : findI (fun x => decide (f x = p)) l = -1
      · rw [if_pos hm]
        rw [hm] at ih
        refine ⟨ih.1, fun x hx => ?_⟩
        have : lookF f l p = none := by
          by_cases e : lookF f l p = none
          · exact e
          · have := ih.1.2 e; omega
        rw [this] at hx; cases hx
      · rw [if_neg hm]
        obtain ⟨n, hn⟩ : ∃ n : Nat, findI (fun x => decide (f x = p)) l = n := ⟨(findI (fun x => decide (f x = p)) l).toNat, by omega⟩
        rw [hn] at ih ⊢
        refine ⟨⟨fun _ => ih.1.1 (by omega), fun _ => by omega⟩, fun x hx => ?_⟩
        have := ih.2 x hx
        have e : ((n : Int) + 1) = ((n + 1 : Nat) : Int) := by omega
        rw [e, getD_gt, List.getD_cons_succ]
        exact this
end
section
variable {α : Type} (f : α → List UInt8) (hl hu : α → Option α) (hb : α → α → Option α)
/-- Two strictly rising lists side by side. -/
def mrgF : List α → List α → List α
  | [], b => b.filterMap hu
  | x :: a, [] => (x :: a).filterMap hl
  | x :: a, y :: b =>
    if ltP (f x) (f y) then (hl x).toList ++ mrgF a (y :: b)
    else if ltP (f y) (f x) then (hu y).toList ++ mrgF (x :: a) b
    else (hb x y).toList ++ mrgF a b
termination_by a b => a.length + b.length
def mrgO (a b : Option α) : Option α := match a, b with
  | none, none => none
  | some x, none => hl x
  | none, some y => hu y
  | some x, some y => hb x y
theorem lookF_opt {x : Option α} {q : List UInt8} (hx : ∀ z, x = some z → f z = q) (l : List α) (hq : q ∉ l.map f) (p : List UInt8) : lookF f (x.toList ++ l) p = if q = p then x else lookF f l p := by
  cases x with
  | none =>
    by_cases e : q = p
    · subst e; simp [(lookF_none f).2 hq]
    · simp [e]
  | some z =>
    have := hx z rfl
    show lookF f (z :: l) p = _
    rw [lookF_cons, this]
theorem rise_opt {x : Option α} {q : List UInt8} (hx : ∀ z, x = some z → f z = q) {l : List α} (hl : Rise (l.map f)) (hlt : ∀ p ∈ l.map f, ltP q p = true) : Rise ((x.toList ++ l).map f) := by
  cases x with
  | none => exact hl
  | some z =>
    refine List.pairwise_cons.2 ⟨fun p hp => ?_, hl⟩
    rw [hx z rfl]; exact hlt p hp
theorem mrgF_spec (h1 : ∀ x z, hl x = some z → f z = f x) (h2 : ∀ y z, hu y = some z → f z = f y) (h3 : ∀ x y z, f x = f y → hb x y = some z → f z = f x) :
    ∀ (n : Nat) (a b : List α), a.length + b.length ≤ n → Rise (a.map f) → Rise (b.map f) → Rise ((mrgF f hl hu hb a b).map f) ∧ ∀ p, lookF f (mrgF f hl hu hb a b) p = mrgO hl hu hb (lookF f a p) (lookF f b p) := by
  have one : ∀ (h : α → Option α) (hh : ∀ x z, h x = some z → f z = f x) (l : List α), Rise (l.map f) → Rise ((l.filterMap h).map f) ∧ ∀ p, lookF f (l.filterMap h) p = (lookF f l p).bind h := by
    intro h hh l
    induction l with
    | nil => intro _; exact ⟨List.Pairwise.nil, fun p => rfl⟩
    | cons x l ih =>
      intro hr
      obtain ⟨i1, i2⟩ := ih (rise_tl hr)
      have hq := rise_lt hr
      have hsub : ∀ p ∈ (l.filterMap h).map f, ltP (f x) p = true := by
        intro p hp
        have : lookF f (l.filterMap h) p ≠ none := (mem_look f).1 hp
        rw [i2] at this
        by_cases hm : p ∈ l.map f
        · exact hq p hm
        · rw [(lookF_none f).2 hm] at this; exact absurd rfl this
      have e : (x :: l).filterMap h = (h x).toList ++ l.filterMap h := by cases hx : h x <;> simp [hx]
      rw [e]
      refine ⟨rise_opt f (hh x) i1 hsub, fun p => ?_⟩
      rw [lookF_opt f (hh x) _ (fun hm => ltP_ne (hsub _ hm) rfl), lookF_cons, i2]
      by_cases ep : f x = p <;> simp [ep]
  intro n
  induction n with
  | zero =>
    intro a b hn ha hb'
    have e1 : a = [] := List.eq_nil_of_length_eq_zero (by omega)
    have e2 : b = [] := List.eq_nil_of_length_eq_zero (by omega)
    subst e1; subst e2
    rw [mrgF]
    exact ⟨List.Pairwise.nil, fun p => rfl⟩
  | succ n ih =>
    intro a b hn ha hb'
    cases a with
    | nil =>
      rw [mrgF]
      obtain ⟨i1, i2⟩ := one hu h2 b hb'
      refine ⟨i1, fun p => ?_⟩
      rw [i2]
      show _ = mrgO hl hu hb none _
      cases lookF f b p <;> rfl
    | cons x a =>
      cases b with
      | nil =>
        rw [mrgF]
        obtain ⟨i1, i2⟩ := one hl h1 (x :: a) ha
        refine ⟨i1, fun p => ?_⟩
        rw [i2]
        show _ = mrgO hl hu hb _ none
        cases lookF f (x :: a) p <;> rfl
      | cons y b =>
        simp only [List.length_cons] at hn
        have ha1 := rise_lt ha
        have hb1 := rise_lt hb'
        have ha2 : Rise (a.map f) := rise_tl ha
        have hb2 : Rise (b.map f) := rise_tl hb'
        have mem : ∀ (a b : List α) (p : List UInt8), mrgO hl hu hb (lookF f a p) (lookF f b p) ≠ none → p ∈ a.map f ∨ p ∈ b.map f := by
          intro a b p h
          by_cases m1 : p ∈ a.map f
          · exact .inl m1
          · by_cases m2 : p ∈ b.map f
            · exact .inr m2
            · rw [(lookF_none f).2 m1, (lookF_none f).2 m2] at h; exact absurd rfl h
        rw [mrgF]
        rcases bool_two (ltP (f x) (f y)) with hl1 | hl1
        · obtain ⟨i1, i2⟩ := ih a (y :: b) (by simp only [List.length_cons]; omega) ha2 hb'
          have hby : ∀ p ∈ (y :: b).map f, ltP (f x) p = true := by
            intro p hp
            rcases List.mem_cons.1 hp with rfl | hp
            · exact hl1
            · exact ltP_trans hl1 (hb1 p hp)
          have hlt : ∀ p ∈ (mrgF f hl hu hb a (y :: b)).map f, ltP (f x) p = true := by
            intro p hp
            have h := (mem_look f).1 hp
            rw [i2] at h
            rcases mem _ _ _ h with m | m
            · exact ha1 p m
            · exact hby p m
          rw [if_pos hl1]
          refine ⟨rise_opt f (h1 x) i1 hlt, fun p => ?_⟩
          rw [lookF_opt f (h1 x) _ (fun hm => ltP_ne (hlt _ hm) rfl), lookF_cons f x, i2]
          by_cases ep : f x = p
          · rw [if_pos ep, if_pos ep]
            have : lookF f (y :: b) p = none := (lookF_none f).2 fun hm => ltP_ne (hby p hm) ep
            rw [this]; rfl
          · rw [if_neg ep, if_neg ep]
        · have hln : ¬ ltP (f x) (f y) = true := by rw [hl1]; simp
          rw [if_neg hln]
          rcases bool_two (ltP (f y) (f x)) with hr | hr
          · obtain ⟨i1, i2⟩ := ih (x :: a) b (by simp only [List.length_cons]; omega) ha hb2
            have hay : ∀ p ∈ (x :: a).map f, ltP (f y) p = true := by
              intro p hp
              rcases List.mem_cons.1 hp with rfl | hp
              · exact hr
              · exact ltP_trans hr (ha1 p hp)
            have hlt : ∀ p ∈ (mrgF f hl hu hb (x :: a) b).map f, ltP (f y) p = true := by
              intro p hp
              have h := (mem_look f).1 hp
              rw [i2] at h
              rcases mem _ _ _ h with m | m
              · exact hay p m
              · exact hb1 p m
            rw [if_pos hr]
            refine ⟨rise_opt f (h2 y) i1 hlt, fun p => ?_⟩
            rw [lookF_opt f (h2 y) _ (fun hm => ltP_ne (hlt _ hm) rfl), lookF_cons f y, i2]
            by_cases ep : f y = p
            · rw [if_pos ep, if_pos ep]
              have : lookF f (x :: a) p = none := (lookF_none f).2 fun hm => ltP_ne (hay p hm) ep
              rw [this]; rfl
            · rw [if_neg ep, if_neg ep]
          · have hrn : ¬ ltP (f y) (f x) = true := by rw [hr]; simp
            have hxy : f x = f y := ltP_tri hl1 hr
            rw [if_neg hrn]
            obtain ⟨i1, i2⟩ := ih a b (by omega) ha2 hb2
            have hlt : ∀ p ∈ (mrgF f hl hu hb a b).map f, ltP (f x) p = true := by
              intro p hp
              have h := (mem_look f).1 hp
              rw [i2] at h
              rcases mem _ _ _ h with m | m
              · exact ha1 p m
              · rw [hxy]; exact hb1 p m
            have h3' := fun z => h3 x y z hxy
            refine ⟨rise_opt f h3' i1 hlt, fun p => ?_⟩
            rw [lookF_opt f h3' _ (fun hm => ltP_ne (hlt _ hm) rfl), lookF_cons f x, lookF_cons f y, i2, ← hxy]
            by_cases ep : f x = p
            · rw [if_pos ep, if_pos ep, if_pos ep]; rfl
            · rw [if_neg ep, if_neg ep, if_neg ep]
end
/-! ### two layers as one -/
def overR (l u : Rec) : Rec := if u.kind = 3 ∧ stopsR l = true then ⟨u.kind, u.path, u.body, u.mode, true⟩ else u
def twoR (lower upper : List Rec) : List Rec := mrgF (·.path) (fun r => if cutsR upper r.path then none else some r) some (fun a b => some (overR a b)) lower upper
def pickR (lower upper : List Rec) (p : List UInt8) : Option Rec :=
  if 0 ≤ findR upper p then some (if 0 ≤ findR lower p then overR (gt lower (findR lower p)) (gt upper (findR upper p)) else gt upper (findR upper p))
  else if cutsR upper p then none else some (gt lower (findR lower p))
theorem overR_path (l u : Rec) : (overR l u).path = u.path := by unfold overR; split <;> rfl
theorem filterMap_eq_of {α β : Type} {g h : α → Option β} : ∀ {l : List α}, (∀ x ∈ l, g x = h x) → l.filterMap g = l.filterMap h := by
  intro l
  induction l with
  | nil => intro _; rfl
  | cons x l ih =>
    intro hx
    rw [List.filterMap_cons, List.filterMap_cons, hx x (List.mem_cons_self ..), ih fun y hy => hx y (List.mem_cons_of_mem _ hy)]
theorem two_pick {lower upper : List Rec} (hl : Rise (lower.map (·.path))) (hu : Rise (upper.map (·.path))) : (pathsL [lower, upper]).filterMap (pickR lower upper) = twoR lower upper := by
  have hm : ∀ z, z ∈ pathsL [lower, upper] ↔ z ∈ lower.map (·.path) ∨ z ∈ upper.map (·.path) := by
    intro z
    rw [pathsL, riseOf_mem]
    simp
  obtain ⟨m1, m2⟩ := mrgF_spec (·.path) (fun r => if cutsR upper r.path then none else some r) some (fun a b => some (overR a b))
    (fun x z h => by
      by_cases hc : cutsR upper x.path = true
      · simp [hc] at h
      · simp [hc] at h; rw [h]) (fun y z h => by rw [Option.some.inj h]) (fun x y z he h => by
      have : overR x y = z := Option.some.inj h
      rw [← this, overR_path]; exact he.symm) _ lower upper (Nat.le_refl _) hl hu
  have look1 := fun p => findI_look (fun r : Rec => r.path) lower p
  have look2 := fun p => findI_look (fun r : Rec => r.path) upper p
  -- what is picked at a path of one of them
  have key : ∀ p, p ∈ pathsL [lower, upper] → pickR lower upper p = mrgO (fun r => if cutsR upper r.path then none else some r) some (fun a b => some (overR a b)) (lookF (·.path) lower p) (lookF (·.path) upper p) := by
    intro p hp
    unfold pickR findR
    cases hlk : lookF (fun r : Rec => r.path) lower p with
    | none =>
      have n1 : ¬ 0 ≤ findI (fun r : Rec => decide (r.path = p)) lower := fun h => (look1 p).1.1 h hlk
      cases huk : lookF (fun r : Rec => r.path) upper p with
      | none =>
        rcases (hm p).1 hp with h | h
        · exact absurd h ((lookF_none _).1 hlk)
        · exact absurd h ((lookF_none _).1 huk)
      | some y =>
        have n2 : 0 ≤ findI (fun r : Rec => decide (r.path = p)) upper := (look2 p).1.2 (by rw [huk]; simp)
        rw [if_pos n2, if_neg n1, (look2 p).2 y huk]; rfl
    | some x =>
      have n1 : 0 ≤ findI (fun r : Rec => decide (r.path = p)) lower := (look1 p).1.2 (by rw [hlk]; simp)
      have hxp := (lookF_some _ hlk).2
      cases huk : lookF (fun r : Rec => r.path) upper p with
      | none =>
        have n2 : ¬ 0 ≤ findI (fun r : Rec => decide (r.path = p)) upper := fun h => (look2 p).1.1 h huk
        rw [if_neg n2, (look1 p).2 x hlk]
        show _ = if cutsR upper x.path then none else some x
        rw [show x.path = p from hxp]
      | some y =>
        have n2 : 0 ≤ findI (fun r : Rec => decide (r.path = p)) upper := (look2 p).1.2 (by rw [huk]; simp)
        rw [if_pos n2, if_pos n1, (look1 p).2 x hlk, (look2 p).2 y huk]; rfl
  have hpath : ∀ p ∈ pathsL [lower, upper], ∀ z, pickR lower upper p = some z → z.path = p := by
    intro p hp z hz
    rw [key p hp] at hz
    have h := m2 p
    have e : lookF (fun r : Rec => r.path) (mrgF (fun r : Rec => r.path) (fun r => if cutsR upper r.path then none else some r) some (fun a b => some (overR a b)) lower upper) p = some z := by rw [← hz]; exact h
    exact (lookF_some _ e).2
  have hcongr : (pathsL [lower, upper]).filterMap (pickR lower upper) = (pathsL [lower, upper]).filterMap (fun p => if p ∈ pathsL [lower, upper] then pickR lower upper p else none) := by
    exact filterMap_eq_of fun p hp => by rw [if_pos hp]
  rw [hcongr]
  obtain ⟨p1, p2⟩ := pick_spec (fun r : Rec => r.path) (ps := pathsL [lower, upper]) (riseOf_rise _) (fun p => if p ∈ pathsL [lower, upper] then pickR lower upper p else none) (fun p x h => by
    by_cases hp : p ∈ pathsL [lower, upper]
    · rw [if_pos hp] at h; exact hpath p hp x h
    · rw [if_neg hp] at h; cases h)
  refine riseF_uniq (fun r : Rec => r.path) p1 m1 fun p => ?_
  have p3 : lookF (fun r : Rec => r.path) ((pathsL [lower, upper]).filterMap (fun p => if p ∈ pathsL [lower, upper] then pickR lower upper p else none)) p = if p ∈ pathsL [lower, upper] then (if p ∈ pathsL [lower, upper] then pickR lower upper p else none) else none := p2 p
  refine p3.trans (Eq.trans ?_ (m2 p).symm)
  by_cases hp : p ∈ pathsL [lower, upper]
  · rw [if_pos hp, if_pos hp, key p hp]
  · rw [if_neg hp]
    have a1 : lookF (fun r : Rec => r.path) lower p = none := (lookF_none _).2 fun h => hp ((hm p).2 (.inl h))
    have a2 : lookF (fun r : Rec => r.path) upper p = none := (lookF_none _).2 fun h => hp ((hm p).2 (.inr h))
    rw [a1, a2]; rfl

end Go.UL
