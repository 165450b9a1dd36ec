import Derived.Test.YtdhmlillkbjjjaaGreatDoorqP18
set_option linter.unusedVariables false
set_option linter.unusedSimpArgs false
namespace Go.UL
open Go.RowKit
theorem bl_trans : ∀ a b c : List UInt8, Op.bytesLess a b = true → Op.bytesLess b c = true → Op.bytesLess a c = true := by
 intro a
 induction a with
 | nil => intro b c h1 h2; cases b with
  | nil => simp [Op.bytesLess] at h1
  | cons y b => cases c with
   | nil => simp [Op.bytesLess] at h2
   | cons z c => rfl
 | cons x a ih =>
  intro b c h1 h2
  cases b with
  | nil => simp [Op.bytesLess] at h1
  | cons y b => cases c with
   | nil => simp [Op.bytesLess] at h2
   | cons z c =>
    simp only [Op.bytesLess, Bool.or_eq_true, Bool.and_eq_true, decide_eq_true_eq, beq_iff_eq, UInt8.lt_iff_toNat_lt] at h1 h2 ⊢
    rcases h1 with h1 | ⟨rfl, h1⟩
    ·rcases h2 with h2 | ⟨rfl, h2⟩
     ·exact .inl (by omega)
     ·exact .inl h1
    ·rcases h2 with h2 | ⟨rfl, h2⟩
     ·exact .inl h2
     ·exact .inr ⟨rfl, ih b c h1 h2⟩
theorem bl_tri : ∀ a b : List UInt8, Op.bytesLess a b = false → Op.bytesLess b a = false → a = b := by
 intro a
 induction a with
 | nil => intro b h1 h2; cases b with
  | nil => rfl
  | cons y b => simp [Op.bytesLess] at h1
 | cons x a ih =>
  intro b h1 h2
  cases b with
  | nil => simp [Op.bytesLess] at h2
  | cons y b =>
   simp only [Op.bytesLess, Bool.or_eq_false_iff, Bool.and_eq_false_iff, decide_eq_false_iff_not, beq_eq_false_iff_ne, UInt8.lt_iff_toNat_lt] at h1 h2
   have hxy : x = y := UInt8.toNat_inj.1 (by omega)
   subst hxy
   rcases h1.2 with h | h
   ·exact absurd rfl h
   ·rcases h2.2 with h' | h'
    ·exact absurd rfl h'
    ·rw [ih b h h']
theorem lt8_trans {a b c : List UInt8} (h1 : lt8 a b = true) (h2 : lt8 b c = true) : lt8 a c = true := by
 simp only [lt8] at *
 exact bl_trans _ _ _ h1 h2
theorem lt8_tri {a b : List UInt8} (h1 : lt8 a b = false) (h2 : lt8 b a = false) : a = b := by
 simp only [lt8] at *
 exact bl_tri _ _ h1 h2
theorem lessL_irrefl : ∀ a, vA a a = false := by
 intro a
 induction a with
 | nil => rfl
 | cons x a ih => simp [vA, ih]
theorem lessL_trans : ∀ a b c, vA a b = true → vA b c = true → vA a c = true := by
 intro a
 induction a with
 | nil =>
  intro b c h1 h2
  cases b with
  | nil => simp [vA] at h1
  | cons y b => cases c with
   | nil => simp [vA] at h2
   | cons z c => rfl
 | cons x a ih =>
  intro b c h1 h2
  cases b with
  | nil => simp [vA] at h1
  | cons y b => cases c with
   | nil => simp [vA] at h2
   | cons z c =>
    simp only [vA] at h1 h2 ⊢
    by_cases hxy : x = y
    ·subst hxy
     simp only [if_true] at h1
     by_cases hxz : x = z
     ·subst hxz
      simp only [if_true] at h2 ⊢
      exact ih b c h1 h2
     ·simp only [hxz, if_false] at h2 ⊢; exact h2
    ·simp only [hxy, if_false] at h1
     by_cases hyz : y = z
     ·subst hyz
      simp only [hxy, if_false]; exact h1
     ·simp only [hyz, if_false] at h2
      have h3 := lt8_trans h1 h2
      by_cases hxz : x = z
      ·subst hxz; rw [YK] at h3; cases h3
      ·simp only [hxz, if_false]; exact h3
theorem lessL_tri : ∀ a b, vA a b = false → vA b a = false → a = b := by
 intro a
 induction a with
 | nil =>
  intro b h1 h2
  cases b with
  | nil => rfl
  | cons y b => simp [vA] at h1
 | cons x a ih =>
  intro b h1 h2
  cases b with
  | nil => simp [vA] at h2
  | cons y b =>
   simp only [vA] at h1 h2
   by_cases hxy : x = y
   ·subst hxy
    simp only [if_true] at h1 h2
    rw [ih b h1 h2]
   ·have hyx : ¬ y = x := fun e => hxy e.symm
    simp only [hxy, hyx, if_false] at h1 h2
    exact absurd (lt8_tri h1 h2) hxy
def ltP (a b : List UInt8) : Bool := vA (cut 47 a) (cut 47 b)
theorem Vx (a : List UInt8) : ltP a a = false := lessL_irrefl _
theorem j0 {a b c : List UInt8} (h1 : ltP a b = true) (h2 : ltP b c = true) : ltP a c = true := lessL_trans _ _ _ h1 h2
theorem Yk {a b : List UInt8} (h1 : ltP a b = false) (h2 : ltP b a = false) : a = b := cut_inj (lessL_tri _ _ h1 h2)
theorem Vw {a b : List UInt8} (h : ltP a b = true) : ltP b a = false := by
 rcases ql (ltP b a) with h2 | h2
 ·have := j0 h h2; rw [Vx] at this; cases this
 ·exact h2
theorem Q8 {a b : List UInt8} (h : ltP a b = true) : a ≠ b := fun e => by subst e; rw [Vx] at h; cases h
def yi (l : List (List UInt8)) : Prop := l.Pairwise fun a b => ltP a b = true
theorem yi.uniq : ∀ {a b : List (List UInt8)}, yi a → yi b → (∀ x, x ∈ a ↔ x ∈ b) → a = b := by
 intro a
 induction a with
 | nil =>
  intro b _ _ h
  cases b with
  | nil => rfl
  | cons y b => exact absurd ((h y).2 (List.mem_cons_self ..)) (by simp)
 | cons x a ih =>
  intro b ha hb h
  cases b with
  | nil => exact absurd ((h x).1 (List.mem_cons_self ..)) (by simp)
  | cons y b =>
   have ha' := List.pairwise_cons.1 ha
   have hb' := List.pairwise_cons.1 hb
   have hxy : x = y := by
    rcases List.mem_cons.1 ((h x).1 (List.mem_cons_self ..)) with e | hx
    ·exact e
    ·rcases List.mem_cons.1 ((h y).2 (List.mem_cons_self ..)) with e | hy
     ·exact e.symm
     ·have h1 := hb'.1 x hx
      have h2 := ha'.1 y hy
      rw [Vw h1] at h2; cases h2
   subst hxy
   congr 1
   refine ih ha'.2 hb'.2 fun z => ?_
   constructor
   ·intro hz
    rcases List.mem_cons.1 ((h z).1 (List.mem_cons_of_mem _ hz)) with e | hz'
    ·subst e; exact absurd rfl (Q8 (ha'.1 z hz))
    ·exact hz'
   ·intro hz
    rcases List.mem_cons.1 ((h z).2 (List.mem_cons_of_mem _ hz)) with e | hz'
    ·subst e; exact absurd rfl (Q8 (hb'.1 z hz))
    ·exact hz'
theorem JW {α : Type} [Inhabited α] (f : α → List UInt8) {l : List α} (h : ∀ i, 0 < i → i < l.length → ltP (f (l.getD (i - 1) default)) (f (l.getD i default)) = true) : yi (l.map f) := by
 unfold yi
 rw [List.pairwise_map, List.pairwise_iff_getElem]
 intro i j hi hj hij
 obtain ⟨d, rfl⟩ : ∃ d, j = i + 1 + d := ⟨j - i - 1, by omega⟩
 induction d with
 | zero =>
  have := h (i + 1) (by omega) hj
  rw [vr hj, show i + 1 - 1 = i by omega, vr hi] at this
  exact this
 | succ d ih =>
  have h1 := ih (by omega) (by omega)
  have h2 := h (i + 1 + (d + 1)) (by omega) hj
  rw [vr hj, show i + 1 + (d + 1) - 1 = i + 1 + d by omega, vr (by omega)] at h2
  exact j0 h1 h2
theorem VB {x : List UInt8} {l : List (List UInt8)} (h : yi (x :: l)) : ∀ z ∈ l, ltP x z = true := (List.pairwise_cons.1 h).1
theorem Q9 {x : List UInt8} {l : List (List UInt8)} (h : yi (x :: l)) : yi l := (List.pairwise_cons.1 h).2
def GX (l : List (List UInt8)) (p : List UInt8) : List (List UInt8) := l.filter (fun x => ltP x p) ++ p :: l.filter (fun x => ltP p x)
theorem insP_rise {l : List (List UInt8)} (h : yi l) (p : List UInt8) : yi (GX l p) := by
 unfold GX yi
 rw [List.pairwise_append, List.pairwise_cons]
 refine ⟨List.Pairwise.filter _ h, ⟨fun z hz => (List.mem_filter.1 hz).2, List.Pairwise.filter _ h⟩, ?_⟩
 intro u hu v hv
 have h1 := (List.mem_filter.1 hu).2
 rcases List.mem_cons.1 hv with rfl | hv
 ·exact h1
 ·exact j0 h1 (List.mem_filter.1 hv).2
theorem insP_mem (l : List (List UInt8)) (p z : List UInt8) : z ∈ GX l p ↔ z = p ∨ z ∈ l := by
 unfold GX
 rw [List.mem_append, List.mem_cons, List.mem_filter, List.mem_filter]
 constructor
 ·rintro (h | h | h)
  ·exact .inr h.1
  ·exact .inl h
  ·exact .inr h.1
 ·rintro (h | h)
  ·exact .inr (.inl h)
  ·rcases ql (ltP z p) with h1 | h1
   ·exact .inl ⟨h, h1⟩
   ·rcases ql (ltP p z) with h2 | h2
    ·exact .inr (.inr ⟨h, h2⟩)
    ·exact .inr (.inl (Yk h1 h2))
def YI (l : List (List UInt8)) : List (List UInt8) := l.foldl GX []
theorem XF : ∀ (l acc : List (List UInt8)), yi acc → yi (l.foldl GX acc) ∧ ∀ z, z ∈ l.foldl GX acc ↔ z ∈ l ∨ z ∈ acc := by
 intro l
 induction l with
 | nil => intro acc h; exact ⟨h, fun z => by simp⟩
 | cons x l ih =>
  intro acc h
  obtain ⟨h1, h2⟩ := ih (GX acc x) (insP_rise h x)
  refine ⟨h1, fun z => ?_⟩
  rw [List.foldl_cons, h2, insP_mem, List.mem_cons]
  constructor
  ·rintro (h | h | h)
   ·exact .inl (.inr h)
   ·exact .inl (.inl h)
   ·exact .inr h
  ·rintro ((h | h) | h)
   ·exact .inr (.inl h)
   ·exact .inl h
   ·exact .inr (.inr h)
theorem GO (l : List (List UInt8)) : yi (YI l) := (XF l [] List.Pairwise.nil).1
theorem JA (l : List (List UInt8)) (z : List UInt8) : z ∈ YI l ↔ z ∈ l := by
 rw [YI, (XF l [] List.Pairwise.nil).2]; simp
theorem insP_len (l : List (List UInt8)) (p : List UInt8) : (GX l p).length ≤ l.length + 1 := by
 unfold GX
 have : (l.filter fun x => ltP x p).length + (l.filter fun x => ltP p x).length ≤ l.length := by
  induction l with
  | nil => simp
  | cons x l ih =>
   rcases ql (ltP x p) with h1 | h1
   ·have h2 := Vw h1
    simp [h1, h2]; omega
   ·rcases ql (ltP p x) with h2 | h2 <;> simp [h1, h2] <;> omega
 simp only [List.length_append, List.length_cons]; omega
theorem riseOf_len (l : List (List UInt8)) : (YI l).length ≤ l.length := by
 have : ∀ (l acc : List (List UInt8)), (l.foldl GX acc).length ≤ l.length + acc.length := by
  intro l
  induction l with
  | nil => intro acc; simp
  | cons x l ih =>
   intro acc
   have h1 := ih (GX acc x)
   have h2 := insP_len acc x
   simp only [List.foldl_cons, List.length_cons]; omega
 have := this l []
 simpa [YI] using this
def vb (ls : List (List Rec)) : List (List UInt8) := YI (ls.flatten.map (·.path))
theorem Qr {α : Type} [Inhabited α] {l : List α} {i : Nat} (h : i < l.length) : l.drop i = gt l (i : Int) :: l.drop (i + 1) := by
 rw [List.drop_eq_getElem_cons h, vK, vr h]
def vo.b2 (a0 : List (List Rec)) (x11_9 : Int) : List (List UInt8) × Int → Option (Step (Step (List (List UInt8)) (List (List UInt8) × Int) (List (List UInt8))) (List (List UInt8) × Int) (List (List UInt8))) :=
 fun q => match q with
 | (x3_36, x17_38) => bif (decide (x17_38 < ((gt a0 x11_9).length : Int))) then (bif inR x17_38 (gt a0 x11_9).length then (bif decide ((x3_36.length + ([(gt (gt a0 x11_9) x17_38).path] : List (List UInt8)).length) * 16 ≤ 140737488355328) then (some (.nxt (x3_36 ++ ([(gt (gt a0 x11_9) x17_38).path] : List (List UInt8)), IntKind.wrap .i64 (x17_38 + 1)))) else none) else none) else (some (.brk x3_36))
def vo.b1 (k : Nat) (a0 : List (List Rec)) : List (List UInt8) × Int → Option (Step (List (List UInt8)) (List (List UInt8) × Int) (List (List UInt8))) :=
  fun q => match q with
  | (x3_7, x11_9) => bif (decide (x11_9 < (a0.length : Int))) then (bif inR x11_9 a0.length then ((qn (vo.b2 a0 x11_9) k (x3_7, 0)).bind fun z => match z with | .inl t => some t | .inr x3_42 => some (.nxt (x3_42, IntKind.wrap .i64 (x11_9 + 1)))) else none) else (some (.brk x3_7))
def vo.sh (k : Nat) (a0 : List (List Rec)) : Option (List (List UInt8)) :=
  (qn (vo.b1 k a0) k (([] : List (List UInt8)), 0)).bind fun z => match z with | .inl t => some t | .inr x3_13 => bif decide (∀ x ∈ x3_13, x.length ≤ 1048576) then (bif decide (x3_13.length ≤ 4611686018427387903) then (some (YI x3_13)) else none) else none
theorem vo.in {a0 : List (List Rec)} {x : Nat} (hg : (gt a0 (x : Int)).length ≤ 1048576) : ∀ (m i K : Nat) (acc : List (List UInt8)), i + m = (gt a0 (x : Int)).length → m < K → acc.length + m ≤ 8000000 → qn (vo.b2 a0 (x : Int)) K (acc, (i : Int)) = some (.inr (acc ++ ((gt a0 (x : Int)).drop i).map (·.path))) := by
 intro m
 induction m with
 | zero =>
  intro i K acc hi hK _
  obtain ⟨K, rfl⟩ : ∃ j, K = j + 1 := ⟨K - 1, by omega⟩
  have d1 : decide ((i : Int) < ((gt a0 (x : Int)).length : Int)) = false := decide_eq_false (by omega)
  have hd : (gt a0 (x : Int)).drop i = [] := List.drop_eq_nil_of_le (by omega)
  rw [qn, hd]
  simp only [vo.b2, d1, cond_false, List.map_nil, List.append_nil]; rfl
 | succ m ih =>
  intro i K acc hi hK hb
  obtain ⟨K, rfl⟩ : ∃ j, K = j + 1 := ⟨K - 1, by omega⟩
  have hlt : i < (gt a0 (x : Int)).length := by omega
  have d1 : decide ((i : Int) < ((gt a0 (x : Int)).length : Int)) = true := decide_eq_true (by omega)
  have e1 : ∀ z : List UInt8, decide ((acc.length + ([z] : List (List UInt8)).length) * 16 ≤ 140737488355328) = true := fun z => decide_eq_true (by simp; omega)
  have w1 : IntKind.wrap .i64 ((i : Int) + 1) = ((i + 1 : Nat) : Int) := by rw [wrap_small (by omega) (by omega)]; omega
  have hI := ih (i + 1) K (acc ++ [(gt (gt a0 (x : Int)) (i : Int)).path]) (by omega) (by omega) (by simp; omega)
  rw [qn, Qr hlt]
  simp only [vo.b2, d1, cond_true, qP hlt, e1, w1]
  refine hI.trans ?_
  simp
theorem vo.out {a0 : List (List Rec)} (h0 : a0.length ≤ 5) (h1 : ∀ l ∈ a0, l.length ≤ 1048576) : ∀ (m i K : Nat) (acc : List (List UInt8)), i + m = a0.length → m < K → acc.length ≤ i * 1048576 → qn (vo.b1 1048577 a0) K (acc, (i : Int)) = some (.inr (acc ++ ((a0.drop i).flatten).map (·.path))) := by
 intro m
 induction m with
 | zero =>
  intro i K acc hi hK _
  obtain ⟨K, rfl⟩ : ∃ j, K = j + 1 := ⟨K - 1, by omega⟩
  have d1 : decide ((i : Int) < (a0.length : Int)) = false := decide_eq_false (by omega)
  have hd : a0.drop i = [] := List.drop_eq_nil_of_le (by omega)
  rw [qn]
  simp only [vo.b1, d1, cond_false, hd, List.flatten_nil, List.map_nil, List.append_nil]; rfl
 | succ m ih =>
  intro i K acc hi hK hb
  obtain ⟨K, rfl⟩ : ∃ j, K = j + 1 := ⟨K - 1, by omega⟩
  have hlt : i < a0.length := by omega
  have hli : (gt a0 (i : Int)).length ≤ 1048576 := by rw [vK, vr hlt]; exact h1 _ (List.getElem_mem hlt)
  have d1 : decide ((i : Int) < (a0.length : Int)) = true := decide_eq_true (by omega)
  have w1 : IntKind.wrap .i64 ((i : Int) + 1) = ((i + 1 : Nat) : Int) := by rw [wrap_small (by omega) (by omega)]; omega
  have hin := vo.in hli (gt a0 (i : Int)).length 0 1048577 acc (by omega) (by omega) (by omega)
  rw [List.drop_zero] at hin
  have hin' : qn (vo.b2 a0 (i : Int)) 1048577 (acc, 0) = some (.inr (acc ++ (gt a0 (i : Int)).map (·.path))) := hin
  have hI := ih (i + 1) K (acc ++ (gt a0 (i : Int)).map (·.path)) (by omega) (by omega) (by simp only [List.length_append, List.length_map]; omega)
  rw [qn]
  simp only [vo.b1, d1, cond_true, qP hlt, hin', Option.bind_some, w1]
  refine hI.trans ?_
  rw [Qr hlt]
  simp
theorem vo.eq (a0 : List (List Rec)) (h0 : a0.length ≤ 5) (h1 : ∀ l ∈ a0, l.length ≤ 1048576) (h2 : ∀ l ∈ a0, ∀ x ∈ l, x.path.length ≤ 1048576) : ∃ k, vo.sh k a0 = some (vb a0) := by
 refine ⟨1048577, ?_⟩
 unfold vo.sh
 have ho := vo.out h0 h1 a0.length 0 1048577 [] (by omega) (by omega) (by simp)
 rw [List.drop_zero, List.nil_append] at ho
 have ho' : qn (vo.b1 1048577 a0) 1048577 ([], 0) = some (.inr (a0.flatten.map (·.path))) := ho
 have e1 : decide (∀ x ∈ a0.flatten.map (·.path), x.length ≤ 1048576) = true := decide_eq_true fun x hx => by
  obtain ⟨r, hr, rfl⟩ := List.mem_map.1 hx
  obtain ⟨l, hl, hrl⟩ := List.mem_flatten.1 hr
  exact h2 l hl r hrl
 have hlen : ∀ (ls : List (List Rec)), (∀ l ∈ ls, l.length ≤ 1048576) → ls.flatten.length ≤ ls.length * 1048576 := by
  intro ls
  induction ls with
  | nil => intro _; simp
  | cons l ls ih =>
   intro h
   have a1 := h l (List.mem_cons_self ..)
   have a2 := ih fun x hx => h x (List.mem_cons_of_mem _ hx)
   simp only [List.flatten_cons, List.length_append, List.length_cons]; omega
 have e2 : decide ((a0.flatten.map (·.path)).length ≤ 4611686018427387903) = true := decide_eq_true (by have := hlen a0 h1; rw [List.length_map]; omega)
 rw [ho']
 simp only [Option.bind_some, e1, e2, cond_true]
 rfl
section
variable {α : Type} (f : α → List UInt8)
def yj (l : List α) (p : List UInt8) : Option α := l.find? fun x => decide (f x = p)
theorem jH (x : α) (l : List α) (p : List UInt8) : yj f (x :: l) p = if f x = p then some x else yj f l p := by
 unfold yj
 by_cases h : f x = p <;> simp [h]
theorem jt {l : List α} {p : List UInt8} : yj f l p = none ↔ p ∉ l.map f := by
 induction l with
 | nil => simp [yj]
 | cons x l ih =>
  rw [jH]
  by_cases h : f x = p
  ·simp [h]
  ·rw [if_neg h, ih]
   simp [Ne.symm h]
theorem Vr {l : List α} {p : List UInt8} {x : α} (h : yj f l p = some x) : x ∈ l ∧ f x = p := by
 have h1 := List.mem_of_find?_eq_some h
 have h2 := List.find?_some h
 exact ⟨h1, of_decide_eq_true h2⟩
theorem YF {l : List α} (h : yi (l.map f)) : ∀ x ∈ l, yj f l (f x) = some x := by
 induction l with
 | nil => intro x hx; cases hx
 | cons y l ih =>
  intro x hx
  rw [jH]
  rcases List.mem_cons.1 hx with rfl | hx
  ·rw [if_pos rfl]
  ·have hlt : ltP (f y) (f x) = true := VB h (f x) (List.mem_map_of_mem hx)
   rw [if_neg (Q8 hlt)]
   exact ih (Q9 h) x hx
theorem YY {l : List α} (h : yi (l.map f)) : (l.map f).filterMap (yj f l) = l := by
 rw [List.filterMap_map]
 have : ∀ m : List α, (∀ x ∈ m, x ∈ l) → m.filterMap (yj f l ∘ f) = m := by
  intro m
  induction m with
  | nil => intro _; rfl
  | cons x m ih =>
   intro hm
   rw [List.filterMap_cons]
   have h1 : (yj f l ∘ f) x = some x := YF f h x (hm x (List.mem_cons_self ..))
   rw [h1]
   simp only
   rw [ih fun y hy => hm y (List.mem_cons_of_mem _ hy)]
 exact this l fun _ h => h
theorem QC {l : List α} {p : List UInt8} : p ∈ l.map f ↔ yj f l p ≠ none := by
 constructor
 ·intro h e; exact (jt f).1 e h
 ·intro h
  by_cases h2 : p ∈ l.map f
  ·exact h2
  ·exact absurd ((jt f).2 h2) h
theorem Jy {a b : List α} (ha : yi (a.map f)) (hb : yi (b.map f)) (h : ∀ p, yj f a p = yj f b p) : a = b := by
 have hm : a.map f = b.map f := yi.uniq ha hb fun p => by rw [QC, QC, h]
 rw [← YY f ha, ← YY f hb, hm]
 congr 1
 funext p
 exact h p
theorem pick_spec {ps : List (List UInt8)} (hp : yi ps) (g : List UInt8 → Option α) (hg : ∀ p x, g p = some x → f x = p) :
  yi ((ps.filterMap g).map f) ∧ ∀ p, yj f (ps.filterMap g) p = if p ∈ ps then g p else none := by
 induction ps with
 | nil => exact ⟨List.Pairwise.nil, fun p => by simp [yj]⟩
 | cons q ps ih =>
  obtain ⟨i1, i2⟩ := ih (Q9 hp)
  have hq := VB hp
  have hnot : q ∉ ps := fun hm => Q8 (hq q hm) rfl
  cases hgq : g q with
  | none =>
   rw [List.filterMap_cons, hgq]
   refine ⟨i1, fun p => ?_⟩
   simp only
   rw [i2]
   by_cases e : p = q
   ·subst e; simp [hnot, hgq]
   ·simp [e]
  | some x =>
   rw [List.filterMap_cons, hgq]
   have hx := hg q x hgq
   refine ⟨?_, fun p => ?_⟩
   ·simp only [List.map_cons]
    refine List.pairwise_cons.2 ⟨fun z hz => ?_, i1⟩
    rw [hx]
    have : yj f (ps.filterMap g) z ≠ none := (QC f).1 hz
    rw [i2] at this
    by_cases hm : z ∈ ps
    ·exact hq z hm
    ·rw [if_neg hm] at this; exact absurd rfl this
   ·simp only
    rw [jH, i2, hx]
    by_cases e : q = p
    ·subst e; simp [hgq]
    ·have e' : ¬ p = q := fun h => e h.symm
     simp [e, e']
theorem Vu [Inhabited α] (l : List α) (p : List UInt8) : (0 ≤ yT (fun x => decide (f x = p)) l ↔ yj f l p ≠ none) ∧ ∀ x, yj f l p = some x → gt l (yT (fun x => decide (f x = p)) l) = x := by
 induction l with
 | nil => simp [yT, yj]
 | cons y l ih =>
  rw [jH]
  by_cases h : f y = p
  ·simp only [yT, h, decide_true, if_true]
   exact ⟨by simp, fun x hx => by rw [← Option.some.inj hx]; rfl⟩
  ·simp only [yT, h, decide_false, Bool.false_eq_true, if_false]
   have hge := XN (fun x => decide (f x = p)) l
   by_cases hm : yT (fun x => decide (f x = p)) l = -1
   ·rw [if_pos hm]
    rw [hm] at ih
    refine ⟨ih.1, fun x hx => ?_⟩
    have : yj f l p = none := by
     by_cases e : yj f l p = none
     ·exact e
     ·have := ih.1.2 e; omega
    rw [this] at hx; cases hx
   ·rw [if_neg hm]
    obtain ⟨n, hn⟩ : ∃ n : Nat, yT (fun x => decide (f x = p)) l = n := ⟨(yT (fun x => decide (f x = p)) l).toNat, by omega⟩
    rw [hn] at ih ⊢
    refine ⟨⟨fun _ => ih.1.1 (by omega), fun _ => by omega⟩, fun x hx => ?_⟩
    have := ih.2 x hx
    have e : ((n : Int) + 1) = ((n + 1 : Nat) : Int) := by omega
    rw [e, vK, List.getD_cons_succ]
    exact this
end
section
variable {α : Type} (f : α → List UInt8) (hl hu : α → Option α) (hb : α → α → Option α)
def Vp : List α → List α → List α
 | [], b => b.filterMap hu
 | x :: a, [] => (x :: a).filterMap hl
 | x :: a, y :: b =>
  if ltP (f x) (f y) then (hl x).toList ++ Vp a (y :: b)
  else if ltP (f y) (f x) then (hu y).toList ++ Vp (x :: a) b
  else (hb x y).toList ++ Vp a b
termination_by a b => a.length + b.length
def Xk (a b : Option α) : Option α := match a, b with
 | none, none => none
 | some x, none => hl x
 | none, some y => hu y
 | some x, some y => hb x y
theorem Ji {x : Option α} {q : List UInt8} (hx : ∀ z, x = some z → f z = q) (l : List α) (hq : q ∉ l.map f) (p : List UInt8) : yj f (x.toList ++ l) p = if q = p then x else yj f l p := by
 cases x with
 | none =>
  by_cases e : q = p
  ·subst e; simp [(jt f).2 hq]
  ·simp [e]
 | some z =>
  have := hx z rfl
  show yj f (z :: l) p = _
  rw [jH, this]
theorem Gd {x : Option α} {q : List UInt8} (hx : ∀ z, x = some z → f z = q) {l : List α} (hl : yi (l.map f)) (hlt : ∀ p ∈ l.map f, ltP q p = true) : yi ((x.toList ++ l).map f) := by
 cases x with
 | none => exact hl
 | some z =>
  refine List.pairwise_cons.2 ⟨fun p hp => ?_, hl⟩
  rw [hx z rfl]; exact hlt p hp
theorem Gj (h1 : ∀ x z, hl x = some z → f z = f x) (h2 : ∀ y z, hu y = some z → f z = f y) (h3 : ∀ x y z, f x = f y → hb x y = some z → f z = f x) :
  ∀ (n : Nat) (a b : List α), a.length + b.length ≤ n → yi (a.map f) → yi (b.map f) → yi ((Vp f hl hu hb a b).map f) ∧ ∀ p, yj f (Vp f hl hu hb a b) p = Xk hl hu hb (yj f a p) (yj f b p) := by
 have one : ∀ (h : α → Option α) (hh : ∀ x z, h x = some z → f z = f x) (l : List α), yi (l.map f) → yi ((l.filterMap h).map f) ∧ ∀ p, yj f (l.filterMap h) p = (yj f l p).bind h := by
  intro h hh l
  induction l with
  | nil => intro _; exact ⟨List.Pairwise.nil, fun p => rfl⟩
  | cons x l ih =>
   intro hr
   obtain ⟨i1, i2⟩ := ih (Q9 hr)
   have hq := VB hr
   have hsub : ∀ p ∈ (l.filterMap h).map f, ltP (f x) p = true := by
    intro p hp
    have : yj f (l.filterMap h) p ≠ none := (QC f).1 hp
    rw [i2] at this
    by_cases hm : p ∈ l.map f
    ·exact hq p hm
    ·rw [(jt f).2 hm] at this; exact absurd rfl this
   have e : (x :: l).filterMap h = (h x).toList ++ l.filterMap h := by cases hx : h x <;> simp [hx]
   rw [e]
   refine ⟨Gd f (hh x) i1 hsub, fun p => ?_⟩
   rw [Ji f (hh x) _ (fun hm => Q8 (hsub _ hm) rfl), jH, i2]
   by_cases ep : f x = p <;> simp [ep]
 intro n
 induction n with
 | zero =>
  intro a b hn ha hb'
  have e1 : a = [] := List.eq_nil_of_length_eq_zero (by omega)
  have e2 : b = [] := List.eq_nil_of_length_eq_zero (by omega)
  subst e1; subst e2
  rw [Vp]
  exact ⟨List.Pairwise.nil, fun p => rfl⟩
 | succ n ih =>
  intro a b hn ha hb'
  cases a with
  | nil =>
   rw [Vp]
   obtain ⟨i1, i2⟩ := one hu h2 b hb'
   refine ⟨i1, fun p => ?_⟩
   rw [i2]
   show _ = Xk hl hu hb none _
   cases yj f b p <;> rfl
  | cons x a =>
   cases b with
   | nil =>
    rw [Vp]
    obtain ⟨i1, i2⟩ := one hl h1 (x :: a) ha
    refine ⟨i1, fun p => ?_⟩
    rw [i2]
    show _ = Xk hl hu hb _ none
    cases yj f (x :: a) p <;> rfl
   | cons y b =>
    simp only [List.length_cons] at hn
    have ha1 := VB ha
    have hb1 := VB hb'
    have ha2 : yi (a.map f) := Q9 ha
    have hb2 : yi (b.map f) := Q9 hb'
    have mem : ∀ (a b : List α) (p : List UInt8), Xk hl hu hb (yj f a p) (yj f b p) ≠ none → p ∈ a.map f ∨ p ∈ b.map f := by
     intro a b p h
     by_cases m1 : p ∈ a.map f
     ·exact .inl m1
     ·by_cases m2 : p ∈ b.map f
      ·exact .inr m2
      ·rw [(jt f).2 m1, (jt f).2 m2] at h; exact absurd rfl h
    rw [Vp]
    rcases ql (ltP (f x) (f y)) with hl1 | hl1
    ·obtain ⟨i1, i2⟩ := ih a (y :: b) (by simp only [List.length_cons]; omega) ha2 hb'
     have hby : ∀ p ∈ (y :: b).map f, ltP (f x) p = true := by
      intro p hp
      rcases List.mem_cons.1 hp with rfl | hp
      ·exact hl1
      ·exact j0 hl1 (hb1 p hp)
     have hlt : ∀ p ∈ (Vp f hl hu hb a (y :: b)).map f, ltP (f x) p = true := by
      intro p hp
      have h := (QC f).1 hp
      rw [i2] at h
      rcases mem _ _ _ h with m | m
      ·exact ha1 p m
      ·exact hby p m
     rw [if_pos hl1]
     refine ⟨Gd f (h1 x) i1 hlt, fun p => ?_⟩
     rw [Ji f (h1 x) _ (fun hm => Q8 (hlt _ hm) rfl), jH f x, i2]
     by_cases ep : f x = p
     ·rw [if_pos ep, if_pos ep]
      have : yj f (y :: b) p = none := (jt f).2 fun hm => Q8 (hby p hm) ep
      rw [this]; rfl
     ·rw [if_neg ep, if_neg ep]
    ·have hln : ¬ ltP (f x) (f y) = true := by rw [hl1]; simp
     rw [if_neg hln]
     rcases ql (ltP (f y) (f x)) with hr | hr
     ·obtain ⟨i1, i2⟩ := ih (x :: a) b (by simp only [List.length_cons]; omega) ha hb2
      have hay : ∀ p ∈ (x :: a).map f, ltP (f y) p = true := by
       intro p hp
       rcases List.mem_cons.1 hp with rfl | hp
       ·exact hr
       ·exact j0 hr (ha1 p hp)
      have hlt : ∀ p ∈ (Vp f hl hu hb (x :: a) b).map f, ltP (f y) p = true := by
       intro p hp
       have h := (QC f).1 hp
       rw [i2] at h
       rcases mem _ _ _ h with m | m
       ·exact hay p m
       ·exact hb1 p m
      rw [if_pos hr]
      refine ⟨Gd f (h2 y) i1 hlt, fun p => ?_⟩
      rw [Ji f (h2 y) _ (fun hm => Q8 (hlt _ hm) rfl), jH f y, i2]
      by_cases ep : f y = p
      ·rw [if_pos ep, if_pos ep]
       have : yj f (x :: a) p = none := (jt f).2 fun hm => Q8 (hay p hm) ep
       rw [this]; rfl
      ·rw [if_neg ep, if_neg ep]
     ·have hrn : ¬ ltP (f y) (f x) = true := by rw [hr]; simp
      have hxy : f x = f y := Yk hl1 hr
      rw [if_neg hrn]
      obtain ⟨i1, i2⟩ := ih a b (by omega) ha2 hb2
      have hlt : ∀ p ∈ (Vp f hl hu hb a b).map f, ltP (f x) p = true := by
       intro p hp
       have h := (QC f).1 hp
       rw [i2] at h
       rcases mem _ _ _ h with m | m
       ·exact ha1 p m
       ·rw [hxy]; exact hb1 p m
      have h3' := fun z => h3 x y z hxy
      refine ⟨Gd f h3' i1 hlt, fun p => ?_⟩
      rw [Ji f h3' _ (fun hm => Q8 (hlt _ hm) rfl), jH f x, jH f y, i2, ← hxy]
      by_cases ep : f x = p
      ·rw [if_pos ep, if_pos ep, if_pos ep]; rfl
      ·rw [if_neg ep, if_neg ep, if_neg ep]
end
def y0 (l u : Rec) : Rec := if u.kind = 3 ∧ vB l = true then ⟨u.kind, u.path, u.body, u.mode, true⟩ else u
def YH (lower upper : List Rec) : List Rec := Vp (·.path) (fun r => if yc upper r.path then none else some r) some (fun a b => some (y0 a b)) lower upper
def Y6 (lower upper : List Rec) (p : List UInt8) : Option Rec :=
 if 0 ≤ qB upper p then some (if 0 ≤ qB lower p then y0 (gt lower (qB lower p)) (gt upper (qB upper p)) else gt upper (qB upper p))
 else if yc upper p then none else some (gt lower (qB lower p))
theorem Xs (l u : Rec) : (y0 l u).path = u.path := by unfold y0; split <;> rfl
theorem GS {α β : Type} {g h : α → Option β} : ∀ {l : List α}, (∀ x ∈ l, g x = h x) → l.filterMap g = l.filterMap h := by
 intro l
 induction l with
 | nil => intro _; rfl
 | cons x l ih =>
  intro hx
  rw [List.filterMap_cons, List.filterMap_cons, hx x (List.mem_cons_self ..), ih fun y hy => hx y (List.mem_cons_of_mem _ hy)]
theorem two_pick {lower upper : List Rec} (hl : yi (lower.map (·.path))) (hu : yi (upper.map (·.path))) : (vb [lower, upper]).filterMap (Y6 lower upper) = YH lower upper := by
 have hm : ∀ z, z ∈ vb [lower, upper] ↔ z ∈ lower.map (·.path) ∨ z ∈ upper.map (·.path) := by
  intro z
  rw [vb, JA]
  simp
 obtain ⟨m1, m2⟩ := Gj (·.path) (fun r => if yc upper r.path then none else some r) some (fun a b => some (y0 a b))
  (fun x z h => by
   by_cases hc : yc upper x.path = true
   ·simp [hc] at h
   ·simp [hc] at h; rw [h]) (fun y z h => by rw [Option.some.inj h]) (fun x y z he h => by
   have : y0 x y = z := Option.some.inj h
   rw [← this, Xs]; exact he.symm) _ lower upper (Nat.le_refl _) hl hu
 have look1 := fun p => Vu (fun r : Rec => r.path) lower p
 have look2 := fun p => Vu (fun r : Rec => r.path) upper p
 have key : ∀ p, p ∈ vb [lower, upper] → Y6 lower upper p = Xk (fun r => if yc upper r.path then none else some r) some (fun a b => some (y0 a b)) (yj (·.path) lower p) (yj (·.path) upper p) := by
  intro p hp
  unfold Y6 qB
  cases hlk : yj (fun r : Rec => r.path) lower p with
  | none =>
   have n1 : ¬ 0 ≤ yT (fun r : Rec => decide (r.path = p)) lower := fun h => (look1 p).1.1 h hlk
   cases huk : yj (fun r : Rec => r.path) upper p with
   | none =>
    rcases (hm p).1 hp with h | h
    ·exact absurd h ((jt _).1 hlk)
    ·exact absurd h ((jt _).1 huk)
   | some y =>
    have n2 : 0 ≤ yT (fun r : Rec => decide (r.path = p)) upper := (look2 p).1.2 (by rw [huk]; simp)
    rw [if_pos n2, if_neg n1, (look2 p).2 y huk]; rfl
  | some x =>
   have n1 : 0 ≤ yT (fun r : Rec => decide (r.path = p)) lower := (look1 p).1.2 (by rw [hlk]; simp)
   have hxp := (Vr _ hlk).2
   cases huk : yj (fun r : Rec => r.path) upper p with
   | none =>
    have n2 : ¬ 0 ≤ yT (fun r : Rec => decide (r.path = p)) upper := fun h => (look2 p).1.1 h huk
    rw [if_neg n2, (look1 p).2 x hlk]
    show _ = if yc upper x.path then none else some x
    rw [show x.path = p from hxp]
   | some y =>
    have n2 : 0 ≤ yT (fun r : Rec => decide (r.path = p)) upper := (look2 p).1.2 (by rw [huk]; simp)
    rw [if_pos n2, if_pos n1, (look1 p).2 x hlk, (look2 p).2 y huk]; rfl
 have hpath : ∀ p ∈ vb [lower, upper], ∀ z, Y6 lower upper p = some z → z.path = p := by
  intro p hp z hz
  rw [key p hp] at hz
  have h := m2 p
  have e : yj (fun r : Rec => r.path) (Vp (fun r : Rec => r.path) (fun r => if yc upper r.path then none else some r) some (fun a b => some (y0 a b)) lower upper) p = some z := by rw [← hz]; exact h
  exact (Vr _ e).2
 have hcongr : (vb [lower, upper]).filterMap (Y6 lower upper) = (vb [lower, upper]).filterMap (fun p => if p ∈ vb [lower, upper] then Y6 lower upper p else none) := by
  exact GS fun p hp => by rw [if_pos hp]
 rw [hcongr]
 obtain ⟨p1, p2⟩ := pick_spec (fun r : Rec => r.path) (ps := vb [lower, upper]) (GO _) (fun p => if p ∈ vb [lower, upper] then Y6 lower upper p else none) (fun p x h => by
  by_cases hp : p ∈ vb [lower, upper]
  ·rw [if_pos hp] at h; exact hpath p hp x h
  ·rw [if_neg hp] at h; cases h)
 refine Jy (fun r : Rec => r.path) p1 m1 fun p => ?_
 have p3 : yj (fun r : Rec => r.path) ((vb [lower, upper]).filterMap (fun p => if p ∈ vb [lower, upper] then Y6 lower upper p else none)) p = if p ∈ vb [lower, upper] then (if p ∈ vb [lower, upper] then Y6 lower upper p else none) else none := p2 p
 refine p3.trans (Eq.trans ?_ (m2 p).symm)
 by_cases hp : p ∈ vb [lower, upper]
 ·rw [if_pos hp, if_pos hp, key p hp]
 ·rw [if_neg hp]
  have a1 : yj (fun r : Rec => r.path) lower p = none := (jt _).2 fun h => hp ((hm p).2 (.inl h))
  have a2 : yj (fun r : Rec => r.path) upper p = none := (jt _).2 fun h => hp ((hm p).2 (.inr h))
  rw [a1, a2]; rfl
def yA (l : List Rec) : Bool := l.all (fun r => qE r.path) && decide (l.Pairwise fun a b => ltP a.path b.path = true)
theorem jA {l : List Rec} (h : yA l = true) : ∀ x ∈ l, qE x.path = true := by
 simp only [yA, Bool.and_eq_true] at h
 exact fun x hx => List.all_eq_true.1 h.1 x hx
theorem QI {l : List Rec} (h : yA l = true) : yi (l.map (·.path)) := by
 simp only [yA, Bool.and_eq_true] at h
 exact List.pairwise_map.2 (of_decide_eq_true h.2)
theorem YB {l : List Rec} (h1 : ∀ x ∈ l, qE x.path = true) (h2 : yi (l.map (·.path))) : yA l = true := by
 simp only [yA, Bool.and_eq_true]
 exact ⟨List.all_eq_true.2 h1, decide_eq_true (List.pairwise_map.1 h2)⟩
theorem codeAt_less {l : List Rec} {i : Nat} (h : ji l i = 0) (h0 : 0 < i) : ltP (l.getD (i - 1) default).path (l.getD i default).path = true := by
 unfold ji at h
 split at h
 ·omega
 ·split at h
  ·exact absurd h ‹_›
  ·split at h
   ·omega
   ·split at h
    ·omega
    ·rename_i h3
     rcases ql (vA (cut 47 (l.getD (i - 1) default).path) (cut 47 (l.getD i default).path)) with h4 | h4
     ·exact h4
     ·exact absurd ⟨h0, h4⟩ h3
theorem JT {l : List Rec} (h : (qC l).2 = 0) : yi (l.map (·.path)) :=
 JW _ fun i h0 hi => codeAt_less (QT h i hi) h0
theorem VE {l : List Rec} (h : (qC l).2 = 0) : yA l = true := YB (layerOK_path h) (JT h)
theorem YX {α : Type} (f : α → List UInt8) (hl hu : α → Option α) (hb : α → α → Option α) (a : List α) : Vp f hl hu hb a [] = a.filterMap hl := by
 cases a with
 | nil => rw [Vp]; rfl
 | cons x a => rw [Vp]
theorem mrgF_len {α : Type} (f : α → List UInt8) (hl hu : α → Option α) (hb : α → α → Option α) : ∀ (n : Nat) (a b : List α), a.length + b.length ≤ n → (Vp f hl hu hb a b).length ≤ a.length + b.length := by
 intro n
 induction n with
 | zero =>
  intro a b hn
  have e1 : a = [] := List.eq_nil_of_length_eq_zero (by omega)
  have e2 : b = [] := List.eq_nil_of_length_eq_zero (by omega)
  subst e1; subst e2; rw [Vp]; simp
 | succ n ih =>
  intro a b hn
  cases a with
  | nil => rw [Vp]; simpa using List.length_filterMap_le _ _
  | cons x a =>
   cases b with
   | nil => rw [Vp]; simpa using List.length_filterMap_le hl (x :: a)
   | cons y b =>
    have ho : ∀ z : Option α, z.toList.length ≤ 1 := fun z => by cases z <;> simp
    simp only [List.length_cons] at hn
    rw [Vp]
    split
    ·have := ih a (y :: b) (by simp only [List.length_cons]; omega)
     have h1 := ho (hl x)
     simp only [List.length_append, List.length_cons] at this ⊢; omega
    ·split
     ·have := ih (x :: a) b (by simp only [List.length_cons]; omega)
      have h1 := ho (hu y)
      simp only [List.length_append, List.length_cons] at this ⊢; omega
     ·have := ih a b (by omega)
      have h1 := ho (hb x y)
      simp only [List.length_append, List.length_cons] at this ⊢; omega
theorem Xz (a b : List Rec) : (YH a b).length ≤ a.length + b.length := mrgF_len _ _ _ _ _ a b (Nat.le_refl _)
theorem Gi {a b : List Rec} (ha : yi (a.map (·.path))) (hb : yi (b.map (·.path))) :
  yi ((YH a b).map (·.path)) ∧ ∀ p, yj (·.path) (YH a b) p = Xk (fun r : Rec => if yc b r.path then none else some r) some (fun x y => some (y0 x y)) (yj (·.path) a p) (yj (·.path) b p) :=
 Gj (·.path) (fun r => if yc b r.path then none else some r) some (fun x y => some (y0 x y))
  (fun x z h => by
   by_cases hc : yc b x.path = true
   ·simp [hc] at h
   ·simp [hc] at h; rw [h]) (fun y z h => by rw [Option.some.inj h]) (fun x y z he h => by
   have : y0 x y = z := Option.some.inj h
   rw [← this, Xs]; exact he.symm) _ a b (Nat.le_refl _) ha hb
theorem JI {a b : List Rec} (ha : yA a = true) (hb : yA b = true) : yA (YH a b) = true := by
 obtain ⟨h1, h2⟩ := Gi (QI ha) (QI hb)
 refine YB (fun x hx => ?_) h1
 have hx2 : yj (fun r : Rec => r.path) (YH a b) x.path ≠ none := (QC _).1 (List.mem_map_of_mem hx)
 have hx3 := h2 x.path
 rw [hx3] at hx2
 cases hla : yj (fun r : Rec => r.path) a x.path with
 | some y => obtain ⟨m, e⟩ := Vr _ hla; rw [← e]; exact jA ha y m
 | none =>
  cases hlb : yj (fun r : Rec => r.path) b x.path with
  | some y => obtain ⟨m, e⟩ := Vr _ hlb; rw [← e]; exact jA hb y m
  | none => rw [hla, hlb] at hx2; exact absurd rfl hx2
def jF (a b : List Rec) : List Rec := jY (YH a b)
theorem GN (a b : List Rec) : (jF a b).length ≤ a.length + b.length := Nat.le_trans (canonL_len _) (Xz a b)
def YW (l : List Rec) : List Rec := if 16 < l.length then [] else l
def VW (l : List Rec) : Int := if 16 < l.length then 7 else 0
def Qx.sh (a0 : Rec) (a1 : Rec) : Option (Rec) :=
 bif ((decide (a1.kind = 3)) && (vB a0)) then (some (⟨a1.kind, a1.path, a1.body, a1.mode, true⟩ : Rec)) else (some a1)
theorem Qx.eq (a0 a1 : Rec) : Qx.sh a0 a1 = some (y0 a0 a1) := by
 unfold Qx.sh y0
 by_cases h1 : a1.kind = 3 <;> cases h2 : vB a0 <;> simp [h1, h2]
def qL.b1 (a0 : List Rec) (a1 : List Rec) : List Rec × Int × Int → Option (Step (List Rec) (List Rec × Int × Int) (List Rec)) :=
 fun q => match q with
 | (x5_7, x6_9, x7_10) => bif ((decide (x6_9 < (a0.length : Int))) || (decide (x7_10 < (a1.length : Int)))) then (bif (!((!(decide (x7_10 = (a1.length : Int)))) && (decide (x6_9 < (a0.length : Int)))) || (inR x6_9 a0.length)) then (bif (!((!(decide (x7_10 = (a1.length : Int)))) && (decide (x6_9 < (a0.length : Int)))) || (inR x7_10 a1.length)) then (bif (!((!(decide (x7_10 = (a1.length : Int)))) && (decide (x6_9 < (a0.length : Int)))) || (decide (((gt a0 x6_9).path).length ≤ 1048576))) then (bif (!((!(decide (x7_10 = (a1.length : Int)))) && (decide (x6_9 < (a0.length : Int)))) || (decide (((gt a1 x7_10).path).length ≤ 1048576))) then (bif ((decide (x7_10 = (a1.length : Int))) || ((decide (x6_9 < (a0.length : Int))) && (vA (cut 47 ((gt a0 x6_9).path)) (cut 47 ((gt a1 x7_10).path))))) then (bif inR x6_9 a0.length then (bif decide (a1.length ≤ 1048576) then (bif decide (((gt a0 x6_9).path).length ≤ 1048576) then (bif (!(yc a1 ((gt a0 x6_9).path))) then (bif inR x6_9 a0.length then (bif decide ((x5_7.length + ([gt a0 x6_9] : List Rec).length) * 56 ≤ 140737488355328) then (some (.nxt (x5_7 ++ ([gt a0 x6_9] : List Rec), IntKind.wrap .i64 (x6_9 + 1), x7_10))) else none) else none) else (some (.nxt (x5_7, IntKind.wrap .i64 (x6_9 + 1), x7_10)))) else none) else none) else none) else (bif (!(!(decide (x6_9 = (a0.length : Int)))) || (inR x7_10 a1.length)) then (bif (!(!(decide (x6_9 = (a0.length : Int)))) || (inR x6_9 a0.length)) then (bif (!(!(decide (x6_9 = (a0.length : Int)))) || (decide (((gt a1 x7_10).path).length ≤ 1048576))) then (bif (!(!(decide (x6_9 = (a0.length : Int)))) || (decide (((gt a0 x6_9).path).length ≤ 1048576))) then (bif ((decide (x6_9 = (a0.length : Int))) || (vA (cut 47 ((gt a1 x7_10).path)) (cut 47 ((gt a0 x6_9).path)))) then (bif inR x7_10 a1.length then (bif decide ((x5_7.length + ([gt a1 x7_10] : List Rec).length) * 56 ≤ 140737488355328) then (some (.nxt (x5_7 ++ ([gt a1 x7_10] : List Rec), x6_9, IntKind.wrap .i64 (x7_10 + 1)))) else none) else none) else (bif inR x6_9 a0.length then (bif inR x7_10 a1.length then (bif decide ((x5_7.length + ([(y0 (gt a0 x6_9) (gt a1 x7_10))] : List Rec).length) * 56 ≤ 140737488355328) then (some (.nxt (x5_7 ++ ([(y0 (gt a0 x6_9) (gt a1 x7_10))] : List Rec), IntKind.wrap .i64 (x6_9 + 1), IntKind.wrap .i64 (x7_10 + 1)))) else none) else none) else none)) else none) else none) else none) else none)) else none) else none) else none) else none) else (some (.brk x5_7))
def qL.sh (k : Nat) (a0 : List Rec) (a1 : List Rec) : Option (List Rec) :=
  (qn (qL.b1 a0 a1) k (([] : List Rec), 0, 0)).bind fun z => match z with | .inl t => some t | .inr x5_14 => bif decide (x5_14.length ≤ 1048576) then (bif decide (∀ x ∈ x5_14, qE x.path = true) then (some (jY x5_14)) else none) else none
theorem qL.eq (a0 a1 : List Rec) (h0 : a0.length ≤ 500000) (h1 : a1.length ≤ 500000) (h2 : yA a0 = true) (h3 : yA a1 = true) : ∃ k, qL.sh k a0 a1 = some (jF a0 a1) := by
 refine ⟨a0.length + a1.length + 1, ?_⟩
 unfold qL.sh jF
 have hp0 := fun x hx => yG (jA h2 x hx)
 have hp1 := fun x hx => yG (jA h3 x hx)
 obtain ⟨M, hM⟩ : ∃ M, M = Vp (fun r : Rec => r.path) (fun r => if yc a1 r.path then none else some r) some (fun a b => some (y0 a b)) := ⟨_, rfl⟩
 have key : ∀ (n : Nat) (i k K : Nat) (out : List Rec), (a0.length - i) + (a1.length - k) = n → n < K → i ≤ a0.length → k ≤ a1.length → out.length ≤ i + k → qn (qL.b1 a0 a1) K (out, (i : Int), (k : Int)) = some (.inr (out ++ M (a0.drop i) (a1.drop k))) := by
  intro n
  induction n using Nat.strongRecOn with
  | _ n ih =>
   intro i k K out hn hK hi hk ho
   obtain ⟨K, rfl⟩ : ∃ j, K = j + 1 := ⟨K - 1, by omega⟩
   have e1 : ∀ z : Rec, decide ((out.length + ([z] : List Rec).length) * 56 ≤ 140737488355328) = true := fun z => decide_eq_true (by simp; omega)
   have b1 : decide (a1.length ≤ 1048576) = true := decide_eq_true (by omega)
   rw [qn]
   by_cases hia : i < a0.length
   ·have d1 : decide ((i : Int) < (a0.length : Int)) = true := decide_eq_true (by omega)
    have d4 : decide ((i : Int) = (a0.length : Int)) = false := decide_eq_false (by omega)
    have i1 := qP hia
    have p1 : decide ((gt a0 (i : Int)).path.length ≤ 1048576) = true := decide_eq_true (by rw [vK, vr hia]; exact hp0 _ (List.getElem_mem hia))
    have w1 : IntKind.wrap .i64 ((i : Int) + 1) = ((i + 1 : Nat) : Int) := by rw [vF hia (by omega)]; omega
    by_cases hkb : k < a1.length
    ·have d2 : decide ((k : Int) < (a1.length : Int)) = true := decide_eq_true (by omega)
     have d3 : decide ((k : Int) = (a1.length : Int)) = false := decide_eq_false (by omega)
     have i2 := qP hkb
     have p2 : decide ((gt a1 (k : Int)).path.length ≤ 1048576) = true := decide_eq_true (by rw [vK, vr hkb]; exact hp1 _ (List.getElem_mem hkb))
     have w2 : IntKind.wrap .i64 ((k : Int) + 1) = ((k + 1 : Nat) : Int) := by rw [vF hkb (by omega)]; omega
     simp only [qL.b1, d1, d2, d3, d4, i1, i2, p1, p2, w1, w2, e1, b1, Bool.not_true, Bool.not_false, Bool.true_and, Bool.and_true, Bool.or_true, Bool.true_or, Bool.false_or, cond_true, Bool.or_false]
     rw [Qr hia, Qr hkb, hM, Vp, ← hM]
     rcases ql (vA (cut 47 (gt a0 (i : Int)).path) (cut 47 (gt a1 (k : Int)).path)) with hl | hl
     ·have hl' : ltP (gt a0 (i : Int)).path (gt a1 (k : Int)).path = true := hl
      rw [if_pos hl', ← Qr hkb]
      simp only [hl, cond_true]
      rcases ql (yc a1 (gt a0 (i : Int)).path) with hc | hc
      ·have hI := ih ((a0.length - (i + 1)) + (a1.length - k)) (by omega) (i + 1) k K out rfl (by omega) (by omega) hk (by omega)
       simp only [hc, Bool.not_true, cond_false, if_true, Option.toList_none, List.nil_append]
       exact hI
      ·have hI := ih ((a0.length - (i + 1)) + (a1.length - k)) (by omega) (i + 1) k K (out ++ [gt a0 (i : Int)]) rfl (by omega) (by omega) hk (by simp; omega)
       simp only [hc, Bool.not_false, cond_true, Bool.false_eq_true, if_false, Option.toList_some]
       refine hI.trans ?_
       simp
     ·have hl' : ¬ ltP (gt a0 (i : Int)).path (gt a1 (k : Int)).path = true := by show ¬ vA _ _ = true; rw [hl]; simp
      rw [if_neg hl']
      simp only [hl, cond_false]
      rcases ql (vA (cut 47 (gt a1 (k : Int)).path) (cut 47 (gt a0 (i : Int)).path)) with hr | hr
      ·have hr' : ltP (gt a1 (k : Int)).path (gt a0 (i : Int)).path = true := hr
       have hI := ih ((a0.length - i) + (a1.length - (k + 1))) (by omega) i (k + 1) K (out ++ [gt a1 (k : Int)]) rfl (by omega) hi (by omega) (by simp; omega)
       rw [if_pos hr', ← Qr hia]
       simp only [hr, cond_true]
       refine hI.trans ?_
       simp
      ·have hr' : ¬ ltP (gt a1 (k : Int)).path (gt a0 (i : Int)).path = true := by show ¬ vA _ _ = true; rw [hr]; simp
       rw [if_neg hr']
       simp only [hr, cond_false]
       have hI := ih ((a0.length - (i + 1)) + (a1.length - (k + 1))) (by omega) (i + 1) (k + 1) K (out ++ [y0 (gt a0 (i : Int)) (gt a1 (k : Int))]) rfl (by omega) (by omega) (by omega) (by simp; omega)
       refine hI.trans ?_
       simp
    ·have hke : k = a1.length := by omega
     have d2 : decide ((k : Int) < (a1.length : Int)) = false := decide_eq_false (by omega)
     have d3 : decide ((k : Int) = (a1.length : Int)) = true := decide_eq_true (by omega)
     have hd : a1.drop k = [] := List.drop_eq_nil_of_le (by omega)
     simp only [qL.b1, d1, d2, d3, d4, i1, p1, w1, e1, b1, Bool.not_true, Bool.not_false, Bool.true_and, Bool.false_and, Bool.and_true, Bool.or_true, Bool.true_or, Bool.false_or, cond_true, Bool.or_false]
     rcases ql (yc a1 (gt a0 (i : Int)).path) with hc | hc
     ·have hI := ih ((a0.length - (i + 1)) + (a1.length - k)) (by omega) (i + 1) k K out rfl (by omega) (by omega) hk (by omega)
      simp only [hc, Bool.not_true, cond_false]
      refine hI.trans ?_
      rw [hd, hM, YX, YX, Qr hia]
      simp [hc]
     ·have hI := ih ((a0.length - (i + 1)) + (a1.length - k)) (by omega) (i + 1) k K (out ++ [gt a0 (i : Int)]) rfl (by omega) (by omega) hk (by simp; omega)
      simp only [hc, Bool.not_false, cond_true]
      refine hI.trans ?_
      rw [hd, hM, YX, YX, Qr hia]
      simp [hc]
   ·have hie : i = a0.length := by omega
    have d1 : decide ((i : Int) < (a0.length : Int)) = false := decide_eq_false (by omega)
    have d4 : decide ((i : Int) = (a0.length : Int)) = true := decide_eq_true (by omega)
    have hd0 : a0.drop i = [] := List.drop_eq_nil_of_le (by omega)
    by_cases hkb : k < a1.length
    ·have d2 : decide ((k : Int) < (a1.length : Int)) = true := decide_eq_true (by omega)
     have d3 : decide ((k : Int) = (a1.length : Int)) = false := decide_eq_false (by omega)
     have i2 := qP hkb
     have w2 : IntKind.wrap .i64 ((k : Int) + 1) = ((k + 1 : Nat) : Int) := by rw [vF hkb (by omega)]; omega
     have hI := ih ((a0.length - i) + (a1.length - (k + 1))) (by omega) i (k + 1) K (out ++ [gt a1 (k : Int)]) rfl (by omega) hi (by omega) (by simp; omega)
     simp only [qL.b1, d1, d2, d3, d4, i2, w2, e1, b1, Bool.not_true, Bool.not_false, Bool.true_and, Bool.false_and, Bool.and_false, Bool.and_true, Bool.or_true, Bool.true_or, Bool.false_or, cond_true, cond_false, Bool.or_false]
     refine hI.trans ?_
     rw [hd0, hM, Vp, Vp, Qr hkb]
     simp
    ·have d2 : decide ((k : Int) < (a1.length : Int)) = false := decide_eq_false (by omega)
     have hd1 : a1.drop k = [] := List.drop_eq_nil_of_le (by omega)
     simp only [qL.b1, d1, d2, Bool.or_false, cond_false]
     rw [hd0, hd1, hM, Vp]
     simp
 have hk := key (a0.length + a1.length) 0 0 (a0.length + a1.length + 1) [] (by simp) (by omega) (by omega) (by omega) (by simp)
 have hk2 : qn (qL.b1 a0 a1) (a0.length + a1.length + 1) ([], 0, 0) = some (.inr (YH a0 a1)) := by
  refine hk.trans ?_
  rw [List.drop_zero, List.drop_zero, List.nil_append, hM]; rfl
 have hl := Xz a0 a1
 have b2 : (YH a0 a1).length ≤ 1048576 := by omega
 rw [hk2]
 simp only [Option.bind_some, decide_eq_true b2, decide_eq_true (jA (JI h2 h3)), cond_true]
theorem fit_dec (n : Nat) : decide ((16 : Int) < (n : Int)) = decide (16 < n) := by rw [decide_eq_decide]; omega
def qK.b1 (a0 : List Rec) (a1 : List Rec) : List Rec × Int → Option (Step (List Rec) (List Rec × Int) (List Rec)) :=
 fun q => match q with
 | (x5_20, x17_22) => bif (decide (x17_22 < ((vb ([a0, a1] : List (List Rec))).length : Int))) then (bif inR x17_22 (vb ([a0, a1] : List (List Rec))).length then (bif decide (a0.length ≤ 1048576) then (bif decide (a1.length ≤ 1048576) then (bif (decide (0 ≤ (qB a1 (gt (vb ([a0, a1] : List (List Rec))) x17_22)))) then (bif inR (qB a1 (gt (vb ([a0, a1] : List (List Rec))) x17_22)) a1.length then (((bif ((decide (0 ≤ (qB a0 (gt (vb ([a0, a1] : List (List Rec))) x17_22)))) && (decide (((gt a1 (qB a1 (gt (vb ([a0, a1] : List (List Rec))) x17_22))).kind) = 3))) then (bif inR (qB a0 (gt (vb ([a0, a1] : List (List Rec))) x17_22)) a0.length then (some (vB (gt a0 (qB a0 (gt (vb ([a0, a1] : List (List Rec))) x17_22))))) else none) else some false)).bind fun z73 => bif z73 then (bif decide ((x5_20.length + ([(⟨(gt a1 (qB a1 (gt (vb ([a0, a1] : List (List Rec))) x17_22))).kind, (gt a1 (qB a1 (gt (vb ([a0, a1] : List (List Rec))) x17_22))).path, (gt a1 (qB a1 (gt (vb ([a0, a1] : List (List Rec))) x17_22))).body, (gt a1 (qB a1 (gt (vb ([a0, a1] : List (List Rec))) x17_22))).mode, true⟩ : Rec)] : List Rec).length) * 56 ≤ 140737488355328) then (some (.nxt (x5_20 ++ ([(⟨(gt a1 (qB a1 (gt (vb ([a0, a1] : List (List Rec))) x17_22))).kind, (gt a1 (qB a1 (gt (vb ([a0, a1] : List (List Rec))) x17_22))).path, (gt a1 (qB a1 (gt (vb ([a0, a1] : List (List Rec))) x17_22))).body, (gt a1 (qB a1 (gt (vb ([a0, a1] : List (List Rec))) x17_22))).mode, true⟩ : Rec)] : List Rec), IntKind.wrap .i64 (x17_22 + 1)))) else none) else (bif decide ((x5_20.length + ([(gt a1 (qB a1 (gt (vb ([a0, a1] : List (List Rec))) x17_22)))] : List Rec).length) * 56 ≤ 140737488355328) then (some (.nxt (x5_20 ++ ([(gt a1 (qB a1 (gt (vb ([a0, a1] : List (List Rec))) x17_22)))] : List Rec), IntKind.wrap .i64 (x17_22 + 1)))) else none)) else none) else (bif decide (a1.length ≤ 1048576) then (bif decide ((gt (vb ([a0, a1] : List (List Rec))) x17_22).length ≤ 1048576) then (bif (!(yc a1 (gt (vb ([a0, a1] : List (List Rec))) x17_22))) then (bif inR (qB a0 (gt (vb ([a0, a1] : List (List Rec))) x17_22)) a0.length then (bif decide ((x5_20.length + ([gt a0 (qB a0 (gt (vb ([a0, a1] : List (List Rec))) x17_22))] : List Rec).length) * 56 ≤ 140737488355328) then (some (.nxt (x5_20 ++ ([gt a0 (qB a0 (gt (vb ([a0, a1] : List (List Rec))) x17_22))] : List Rec), IntKind.wrap .i64 (x17_22 + 1)))) else none) else none) else (some (.nxt (x5_20, IntKind.wrap .i64 (x17_22 + 1))))) else none) else none)) else none) else none) else none) else (some (.brk x5_20))
def qK.sh (k : Nat) (a0 : List Rec) (a1 : List Rec) : Option (List Rec) :=
  bif decide (([a0, a1] : List (List Rec)).length ≤ 5) then (bif decide (∀ l ∈ ([a0, a1] : List (List Rec)), l.length ≤ 1048576) then (bif decide (∀ l ∈ ([a0, a1] : List (List Rec)), ∀ x ∈ l, x.path.length ≤ 1048576) then ((qn (qK.b1 a0 a1) k (([] : List Rec), 0)).bind fun z => match z with | .inl t => some t | .inr x5_26 => bif decide (x5_26.length ≤ 1048576) then (bif decide (∀ x ∈ x5_26, qE x.path = true) then (some (jY x5_26)) else none) else none) else none) else none) else none
theorem qK.eq (a0 a1 : List Rec) (h0 : a0.length ≤ 500000) (h1 : a1.length ≤ 500000) (h2 : yA a0 = true) (h3 : yA a1 = true) : ∃ k, qK.sh k a0 a1 = some (jF a0 a1) := by
 refine ⟨(vb [a0, a1]).length + 1, ?_⟩
 unfold qK.sh jF
 have hp0 := fun x hx => yG (jA h2 x hx)
 have hp1 := fun x hx => yG (jA h3 x hx)
 have g1 : ([a0, a1] : List (List Rec)).length ≤ 5 := by simp
 have g2 : ∀ l ∈ ([a0, a1] : List (List Rec)), l.length ≤ 1048576 := by
  intro l hl
  simp only [List.mem_cons, List.not_mem_nil, or_false] at hl
  rcases hl with rfl | rfl <;> omega
 have g3 : ∀ l ∈ ([a0, a1] : List (List Rec)), ∀ x ∈ l, x.path.length ≤ 1048576 := by
  intro l hl
  simp only [List.mem_cons, List.not_mem_nil, or_false] at hl
  rcases hl with rfl | rfl
  ·exact hp0
  ·exact hp1
 have hpl : (vb [a0, a1]).length ≤ 1000000 := by
  refine Nat.le_trans (riseOf_len _) ?_
  simp; omega
 have hmem : ∀ p ∈ vb [a0, a1], p.length ≤ 1048576 ∧ (p ∈ a0.map (·.path) ∨ p ∈ a1.map (·.path)) := by
  intro p hp
  rw [vb, JA] at hp
  simp only [List.flatten_cons, List.flatten_nil, List.append_nil, List.map_append, List.mem_append] at hp
  refine ⟨?_, hp⟩
  rcases hp with hp | hp <;> obtain ⟨x, hx, rfl⟩ := List.mem_map.1 hp
  ·exact hp0 x hx
  ·exact hp1 x hx
 rw [VH (vb [a0, a1]) (Y6 a0 a1) (qK.b1 a0 a1) (fun i hi acc ha => by
  have b0 : decide (a0.length ≤ 1048576) = true := decide_eq_true (by omega)
  have b1 : decide (a1.length ≤ 1048576) = true := decide_eq_true (by omega)
  have e1 : ∀ z : Rec, decide ((acc.length + ([z] : List Rec).length) * 56 ≤ 140737488355328) = true := fun z => decide_eq_true (by simp; omega)
  obtain ⟨m1, m2⟩ := hmem _ (List.getElem_mem hi)
  simp only [qK.b1, y9, hi, decide_true, cond_true, qP hi, vK, vr hi, b0, b1, e1, vF hi (by omega), decide_eq_true m1]
  obtain ⟨p, hp⟩ : ∃ p, (vb [a0, a1])[i] = p := ⟨_, rfl⟩
  rw [hp] at m1 m2 ⊢
  unfold Y6
  by_cases hu : 0 ≤ qB a1 p
  ·simp only [hu, decide_true, cond_true, V0 hu, if_true]
   by_cases hl : 0 ≤ qB a0 p
   ·simp only [hl, decide_true, Bool.true_and, V0 hl, cond_true, if_true, y0]
    by_cases hk : (gt a1 (qB a1 p)).kind = 3
    ·rcases ql (vB (gt a0 (qB a0 p))) with hs | hs <;> simp [hk, hs]
    ·simp [hk]
   ·simp [hl]
  ·simp only [hu, decide_false, cond_false, if_false]
   rcases ql (yc a1 p) with hc | hc
   ·simp [hc]
   ·have hl : 0 ≤ qB a0 p := by
     have h4 := (Vu (fun r : Rec => r.path) a0 p).1
     refine h4.2 ((QC _).1 (m2.resolve_right fun h5 => hu ?_))
     exact ((Vu (fun r : Rec => r.path) a1 p).1).2 ((QC _).1 h5)
    simp [hc, V0 hl]) (fun acc => by simp [qK.b1])]
 rw [two_pick (QI h2) (QI h3)]
 have hl := Xz a0 a1
 have b2 : (YH a0 a1).length ≤ 1048576 := by omega
 simp only [decide_eq_true g1, decide_eq_true g2, decide_eq_true g3, Option.bind_some, decide_eq_true b2, decide_eq_true (jA (JI h2 h3)), cond_true]
def XU (v : Value) (l : List Rec) : Value := if 16 < l.length then .slice none 0 0 else v
theorem Ow.fit {e : TypeId} {B : Nat} {w : World} {v : Value} {xs : List Rec} (h : Ow e 5 qc B w v xs) : Ow e 5 qc B w (XU v xs) (YW xs) := by
 unfold XU YW
 split
 ·exact Ow.zero
 ·exact h
def X0 (t : List Nd) : Bool := decide (t.Pairwise fun a b => ltP a.path b.path = true)
theorem Xl {t : List Nd} (h : X0 t = true) : yi (t.map (·.path)) := List.pairwise_map.2 (of_decide_eq_true h)
theorem riseN_mk {t : List Nd} (h : yi (t.map (·.path))) : X0 t = true := decide_eq_true (List.pairwise_map.1 h)
def jD (t : List Nd) (p : List UInt8) : Nat := (t.filter fun x => ltP x.path p).length
def j8 (t : List Nd) (n : Nd) : List Nd := t.filter (fun x => ltP x.path n.path) ++ n :: t.filter (fun x => !ltP x.path n.path)
theorem XW (t : List Nd) (p : List UInt8) : jD t p ≤ t.length := List.length_filter_le _ _
theorem Jf {x : Nd} {t : List Nd} {p : List UInt8} (hr : yi ((x :: t).map (·.path))) (hx : ltP x.path p = false) : ∀ y ∈ t, ltP y.path p = false := by
 intro y hy
 have h1 : ltP x.path y.path = true := VB hr y.path (List.mem_map_of_mem hy)
 rcases ql (ltP y.path p) with h | h
 ·rw [j0 h1 h] at hx; cases hx
 ·exact h
theorem less_iff : ∀ {t : List Nd} {p : List UInt8}, yi (t.map (·.path)) → ∀ h, h < t.length → ltP (t.getD h default).path p = decide (h < jD t p) := by
 intro t p
 induction t with
 | nil => intro _ h hh; simp at hh
 | cons x t ih =>
  intro hr h hh
  have hr2 := Q9 hr
  rcases ql (ltP x.path p) with hx | hx
  ·have hc : jD (x :: t) p = jD t p + 1 := by simp [jD, hx]
   cases h with
   | zero => simp [hx, hc]
   | succ h =>
    rw [List.getD_cons_succ, ih hr2 h (by simpa using hh), hc]
    rw [decide_eq_decide]; omega
  ·have hall := Jf hr hx
   have hc : jD (x :: t) p = 0 := by
    unfold jD
    rw [List.length_eq_zero_iff, List.filter_eq_nil_iff]
    intro y hy
    rcases List.mem_cons.1 hy with rfl | hy
    ·rw [hx]; simp
    ·rw [hall y hy]; simp
   rw [hc]
   have hm : (x :: t).getD h default ∈ x :: t := by rw [vr hh]; exact List.getElem_mem hh
   rcases List.mem_cons.1 hm with he | hm
   ·rw [he, hx]; simp
   ·rw [hall _ hm]; simp
theorem less_split : ∀ {t : List Nd} {p : List UInt8}, yi (t.map (·.path)) → t.take (jD t p) = t.filter (fun x => ltP x.path p) ∧ t.drop (jD t p) = t.filter (fun x => !ltP x.path p) := by
 intro t p
 induction t with
 | nil => intro _; exact ⟨rfl, rfl⟩
 | cons x t ih =>
  intro hr
  obtain ⟨i1, i2⟩ := ih (Q9 hr)
  rcases ql (ltP x.path p) with hx | hx
  ·have hc : jD (x :: t) p = jD t p + 1 := by simp [jD, hx]
   rw [hc, List.take_succ_cons, List.drop_succ_cons, i1, i2]
   simp [hx]
  ·have hall := Jf hr hx
   have hc : jD (x :: t) p = 0 := by
    unfold jD
    rw [List.length_eq_zero_iff, List.filter_eq_nil_iff]
    intro y hy
    rcases List.mem_cons.1 hy with rfl | hy
    ·rw [hx]; simp
    ·rw [hall y hy]; simp
   have h1 : (x :: t).filter (fun x => ltP x.path p) = [] := List.length_eq_zero_iff.1 hc
   have h2 : (x :: t).filter (fun x => !ltP x.path p) = x :: t := List.filter_eq_self.2 fun y hy => by
    rcases List.mem_cons.1 hy with rfl | hy
    ·rw [hx]; rfl
    ·rw [hall y hy]; rfl
   rw [hc, h1, h2]
   exact ⟨rfl, rfl⟩
def cmpN (x y : Nd) : Option Int := bif decide (x.path.length ≤ 1048576) then (bif decide (y.path.length ≤ 1048576) then some (cmpL (cut 47 x.path) (cut 47 y.path)) else none) else none
theorem cmpN_some {x y : Nd} {r : Int} (h : cmpN x y = some r) : x.path.length ≤ 1048576 ∧ y.path.length ≤ 1048576 ∧ r = cmpL (cut 47 x.path) (cut 47 y.path) := by
 unfold cmpN at h
 by_cases h1 : x.path.length ≤ 1048576
 ·by_cases h2 : y.path.length ≤ 1048576
  ·simp [h1, h2] at h; exact ⟨h1, h2, h.symm⟩
  ·simp [h1, h2] at h
 ·simp [h1] at h
def qM.b1 (a0 : List Nd) (a1 : Nd) (a2 : Nd → Nd → Option Int) : Int × Int → Option (Step (Int × Bool) (Int × Int) (Int)) :=
 fun q => match q with
 | (x9_7, x10_8) => bif (decide (x9_7 < x10_8)) then (bif inR (IntKind.wrap .i64 ((IntKind.wrap .u64 (IntKind.wrap .i64 (x9_7 + x10_8))).fdiv (2 ^ 1))) a0.length then ((a2 (gt a0 (IntKind.wrap .i64 ((IntKind.wrap .u64 (IntKind.wrap .i64 (x9_7 + x10_8))).fdiv (2 ^ 1)))) a1).bind fun z31 => bif (decide (z31 < 0)) then (some (.nxt (IntKind.wrap .i64 ((IntKind.wrap .i64 ((IntKind.wrap .u64 (IntKind.wrap .i64 (x9_7 + x10_8))).fdiv (2 ^ 1))) + 1), x10_8))) else (some (.nxt (x9_7, IntKind.wrap .i64 ((IntKind.wrap .u64 (IntKind.wrap .i64 (x9_7 + x10_8))).fdiv (2 ^ 1)))))) else none) else (some (.brk x9_7))
def qM.sh (k : Nat) (a0 : List Nd) (a1 : Nd) (a2 : Nd → Nd → Option Int) : Option (Int × Bool) :=
  (qn (qM.b1 a0 a1 a2) k (0, (a0.length : Int))).bind fun z => match z with | .inl t => some t | .inr x9_12 => bif (!(decide (x9_12 < (a0.length : Int))) || (inR x9_12 a0.length)) then ((a2 (gt a0 x9_12) a1).bind fun z58 => some (x9_12, ((decide (x9_12 < (a0.length : Int))) && (decide (z58 = 0))))) else none
theorem qM.eq (a0 : List Nd) (a1 : Nd) (a2 : Nd → Nd → Option Int) {r : Int × Bool} (H : qM.sh 64 a0 a1 a2 = some r) : ∃ k, qM.sh k a0 a1 a2 = some r := ⟨64, H⟩
theorem binS_loop {t : List Nd} {n : Nd} (h0 : t.length ≤ 1048575) (h1 : yi (t.map (·.path))) (h2 : ∀ x ∈ t, x.path.length ≤ 1048576) (h3 : n.path.length ≤ 1048576) :
  ∀ (d i j k : Nat), j - i < 2 ^ d → d < k → i ≤ jD t n.path → jD t n.path ≤ j → j ≤ t.length → qn (qM.b1 t n cmpN) k ((i : Int), (j : Int)) = some (.inr (jD t n.path : Int)) := by
 intro d
 induction d with
 | zero =>
  intro i j k hd hk hi hj hl
  obtain ⟨k, rfl⟩ : ∃ m, k = m + 1 := ⟨k - 1, by omega⟩
  have hij : i = j := by simp at hd; omega
  subst hij
  have he : jD t n.path = i := by omega
  rw [qn]
  have d1 : decide ((i : Int) < (i : Int)) = false := decide_eq_false (by omega)
  simp only [qM.b1, d1, cond_false, he]; rfl
 | succ d ih =>
  intro i j k hd hk hi hj hl
  obtain ⟨k, rfl⟩ : ∃ m, k = m + 1 := ⟨k - 1, by omega⟩
  rw [qn]
  by_cases hij : i < j
  ·have d1 : decide ((i : Int) < (j : Int)) = true := decide_eq_true (by omega)
   obtain ⟨m, hm⟩ : ∃ m : Nat, m = (i + j) / 2 := ⟨_, rfl⟩
   have w1 : IntKind.wrap .i64 ((i : Int) + (j : Int)) = ((i + j : Nat) : Int) := by rw [wrap_small (by omega) (by omega)]; omega
   have w2 : IntKind.wrap .u64 ((i + j : Nat) : Int) = ((i + j : Nat) : Int) := by rw [IntKind.wrap_u64]; omega
   have w3 : (((i + j : Nat) : Int)).fdiv (2 ^ 1) = (m : Int) := by
    rw [hm, show ((2 : Int) ^ 1) = 2 by rfl, Int.fdiv_eq_ediv_of_nonneg _ (by omega)]; omega
   have w4 : IntKind.wrap .i64 (m : Int) = (m : Int) := wrap_small (by omega) (by omega)
   have w5 : IntKind.wrap .i64 ((m : Int) + 1) = ((m + 1 : Nat) : Int) := by rw [wrap_small (by omega) (by omega)]; omega
   have hml : m < t.length := by omega
   have hp : (t.getD m default).path.length ≤ 1048576 := h2 _ (by rw [vr hml]; exact List.getElem_mem hml)
   have hc : cmpN (gt t (m : Int)) n = some (cmpL (cut 47 (t.getD m default).path) (cut 47 n.path)) := by
    unfold cmpN; rw [vK]; simp only [decide_eq_true hp, decide_eq_true h3, cond_true]
   have hcl : decide (cmpL (cut 47 (t.getD m default).path) (cut 47 n.path) < 0) = decide (m < jD t n.path) := by
    rw [Jo]; exact less_iff h1 m hml
   have hpow : 2 ^ (d + 1) = 2 * 2 ^ d := by rw [Nat.pow_succ]; omega
   simp only [qM.b1, d1, cond_true, w1, w2, w3, w4, w5, qP hml, hc, Option.bind_some, hcl]
   by_cases hlt : m < jD t n.path
   ·simp only [hlt, decide_true, cond_true]
    exact ih (m + 1) j k (by omega) (by omega) (by omega) hj hl
   ·simp only [hlt, decide_false, cond_false]
    exact ih i m k (by omega) (by omega) hi (by omega) (by omega)
  ·have he : jD t n.path = i := by omega
   have d1 : decide ((i : Int) < (j : Int)) = false := decide_eq_false (by omega)
   simp only [qM.b1, d1, cond_false, he]; rfl
theorem binS_run {t : List Nd} {n : Nd} (h0 : t.length ≤ 1048575) (h1 : X0 t = true) (h2 : ∀ x ∈ t, x.path.length ≤ 1048576) (h3 : n.path.length ≤ 1048576) :
  ∃ fd : Bool, qM.sh 64 t n cmpN = some ((jD t n.path : Int), fd) := by
 have hl := binS_loop h0 (Xl h1) h2 h3 20 0 t.length 64 (by omega) (by omega) (Nat.zero_le _) (XW _ _) (Nat.le_refl _)
 have hle := XW t n.path
 unfold qM.sh
 rw [show ((0 : Int)) = ((0 : Nat) : Int) from rfl, hl]
 have hc : ∃ z, cmpN (gt t (jD t n.path : Int)) n = some z := by
  unfold cmpN
  have hp : (gt t (jD t n.path : Int)).path.length ≤ 1048576 := by
   rw [vK]
   by_cases hlt : jD t n.path < t.length
   ·rw [vr hlt]; exact h2 _ (List.getElem_mem hlt)
   ·rw [List.getD_eq_getElem?_getD, List.getElem?_eq_none (by omega)]; exact Nat.zero_le _
  exact ⟨_, by simp only [decide_eq_true hp, decide_eq_true h3, cond_true]; rfl⟩
 obtain ⟨z, hz⟩ := hc
 have hg : (!(decide ((jD t n.path : Int) < (t.length : Int))) || inR (jD t n.path : Int) t.length) = true := by
  by_cases hlt : jD t n.path < t.length
  ·rw [qP hlt]; simp
  ·have : decide ((jD t n.path : Int) < (t.length : Int)) = false := decide_eq_false (by omega)
   rw [this]; rfl
 exact ⟨_, by simp only [Option.bind_some, hg, cond_true, hz]; rfl⟩
def Qq.sh (a0 : Nd) (a1 : Nd) : Option (Int) :=
 bif decide (a0.path.length ≤ 1048576) then (bif decide (a1.path.length ≤ 1048576) then (some (cmpL (cut 47 a0.path) (cut 47 a1.path))) else none) else none
theorem Qq.eq (a0 a1 : Nd) (h0 : a0.path.length ≤ 1048576) (h1 : a1.path.length ≤ 1048576) : Qq.sh a0 a1 = some (cmpL (cut 47 a0.path) (cut 47 a1.path)) := by simp [Qq.sh, h0, h1]
theorem XI : ∀ (p t : List UInt8), cut 47 (p ++ 47 :: t) = cut 47 p ++ cut 47 t := by
 intro p t
 induction p with
 | nil => rw [List.nil_append, Q3 Xy]; rfl
 | cons b p ih =>
  rw [List.cons_append]
  by_cases h : bn b = 47
  ·rw [Q3 h, Q3 h, ih]; rfl
  ·rw [Q6 h, Q6 h, ih]
   cases hc : cut 47 p with
   | nil => exact absurd hc (Qu _ _)
   | cons x l => rfl
theorem QL (q p : List UInt8) : ve q p = true ↔ ∃ r, r ≠ [] ∧ cut 47 q = cut 47 p ++ r := by
 unfold ve
 rw [List.isPrefixOf_iff_prefix]
 constructor
 ·rintro ⟨t, rfl⟩
  refine ⟨cut 47 t, Qu _ _, ?_⟩
  rw [List.append_assoc, List.singleton_append, XI]
 ·rintro ⟨r, hr, h⟩
  refine ⟨yO r, ?_⟩
  have hf : ∀ x ∈ cut 47 p ++ r, ∀ b ∈ x, bn b ≠ 47 := by rw [← h]; exact Jm q
  apply cut_inj
  rw [List.append_assoc, List.singleton_append, XI, h, Gt hr fun x hx => hf x (List.mem_append_right _ hx)]
theorem lessL_app : ∀ (a r : List (List UInt8)), r ≠ [] → vA a (a ++ r) = true := by
 intro a r hr
 induction a with
 | nil => cases r with
  | nil => exact absurd rfl hr
  | cons x r => rfl
 | cons x a ih => simp [vA, ih]
theorem Gg {q p : List UInt8} (h : ve q p = true) : ltP p q = true := by
 obtain ⟨r, hr, e⟩ := (QL q p).1 h
 unfold ltP; rw [e]; exact lessL_app _ _ hr
theorem Xi {q p : List UInt8} (h : ve q p = true) : q ≠ p := fun e => Q8 (Gg h) e.symm
theorem below_irrefl (p : List UInt8) : ve p p = false := by
 rcases ql (ve p p) with h | h
 ·exact absurd rfl (Xi h)
 ·exact h
theorem VK {a b c : List UInt8} (h1 : ve a b = true) (h2 : ve b c = true) : ve a c = true := by
 obtain ⟨r, hr, e⟩ := (QL a b).1 h1
 obtain ⟨s, hs, f⟩ := (QL b c).1 h2
 refine (QL a c).2 ⟨s ++ r, by simp [hr], ?_⟩
 rw [e, f, List.append_assoc]
theorem GC {a b : List UInt8} (h : ve a b = true) : ve b a = false := by
 rcases ql (ve b a) with h1 | h1
 ·exact absurd (VK h h1) (by rw [below_irrefl]; simp)
 ·exact h1
theorem XE {t : List UInt8} (h : qe t ≠ []) : cut 47 (qe t) = (cut 47 t).dropLast := by
 rw [parentP_cut] at h ⊢
 refine Gt (fun e => h (by rw [e]; rfl)) fun x hx => Jm t x (List.dropLast_subset _ hx)
theorem yV {t : List UInt8} (h : qe t ≠ []) : ve t (qe t) = true := by
 refine (QL _ _).2 ⟨[(cut 47 t).getLast (Qu _ _)], by simp, ?_⟩
 rw [XE h, List.dropLast_concat_getLast]
theorem V4 {t : List UInt8} (h : qe t ≠ []) : ltP (qe t) t = true := Gg (yV h)
theorem mem_ancs : ∀ (n : Nat) (t x : List UInt8), t.length ≤ n → (x ∈ jo t → x ≠ [] ∧ ve t x = true) := by
 intro n
 induction n with
 | zero =>
  intro t x hn hx
  have : t = [] := List.eq_nil_of_length_eq_zero (by omega)
  subst this
  rw [Qj, if_pos jR] at hx; cases hx
 | succ n ih =>
  intro t x hn hx
  rw [Qj] at hx
  by_cases hp : qe t = []
  ·rw [if_pos hp] at hx; cases hx
  ·rw [if_neg hp] at hx
   have ht : t ≠ [] := fun e => by subst e; exact hp jR
   rcases List.mem_cons.1 hx with rfl | hx
   ·exact ⟨hp, yV hp⟩
   ·obtain ⟨h1, h2⟩ := ih (qe t) x (by have := QJ ht; omega) hx
    exact ⟨h1, VK (yV hp) h2⟩
theorem Qa {t x : List UInt8} (h : x ∈ jo t) : ve t x = true := (mem_ancs _ t x (Nat.le_refl _) h).2
theorem V6 {t x : List UInt8} (ht : qE t = true) (h : ve t x = true) : x ∈ jo t := by
 obtain ⟨r, hr, e⟩ := (QL t x).1 h
 rw [ancs_cut ht, List.mem_reverse, List.mem_map]
 have hl : 0 < (cut 47 x).length := List.length_pos_iff.2 (Qu _ _)
 have hrl : 0 < r.length := List.length_pos_iff.2 hr
 refine ⟨(cut 47 x).length - 1, List.mem_range.2 ?_, ?_⟩
 ·rw [e, List.length_append]; omega
 ·rw [e, show (cut 47 x).length - 1 + 1 = (cut 47 x).length by omega, List.take_left, Q4]
theorem JX {t x : List UInt8} (ht : qE t = true) (h : ve t x = true) : qE x = true := by
 obtain ⟨r, hr, e⟩ := (QL t x).1 h
 have hrl : 0 < r.length := List.length_pos_iff.2 hr
 simp only [qE, Bool.and_eq_true, decide_eq_true_eq, e, List.all_append, List.length_append] at ht ⊢
 refine ⟨?_, by omega, ht.2.2.1⟩
 unfold ve at h
 rw [List.isPrefixOf_iff_prefix] at h
 have := h.length_le
 simp at this; omega
theorem Yq {t : List UInt8} (ht : qE t = true) (h : qe t ≠ []) : qE (qe t) = true := JX ht (yV h)
theorem GU {t x : List UInt8} (ht : qE t = true) (h : ve t x = true) : qe t ≠ [] ∧ (qe t = x ∨ ve (qe t) x = true) := by
 have hm := V6 ht h
 rw [Qj] at hm
 by_cases hp : qe t = []
 ·rw [if_pos hp] at hm; cases hm
 ·rw [if_neg hp] at hm
  refine ⟨hp, ?_⟩
  rcases List.mem_cons.1 hm with e | hm
  ·exact .inl e.symm
  ·exact .inr (Qa hm)
theorem Qn {t x : List UInt8} (h : ve t x = true) : (cut 47 x).length < (cut 47 t).length := by
 obtain ⟨r, hr, e⟩ := (QL t x).1 h
 have hrl : 0 < r.length := List.length_pos_iff.2 hr
 rw [e, List.length_append]; omega
end Go.UL
