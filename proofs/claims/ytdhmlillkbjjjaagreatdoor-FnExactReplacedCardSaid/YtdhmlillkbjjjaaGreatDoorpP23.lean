import Derived.Test.YtdhmlillkbjjjaaGreatDoorpP17
set_option linter.unusedVariables false
set_option linter.unusedSimpArgs false
namespace Go.UL
open Go.RowKit
theorem bl_trans : ∀ a b c : List UInt8, Op.bytesLess a b = true → Op.bytesLess b c = true → Op.bytesLess a c = true := by
 intro a
 induction a with
 | nil => intro b c h1 h2; cases b with
  | nil => simp [Op.bytesLess] at h1
  | cons y b => cases c with
   | nil => simp [Op.bytesLess] at h2
   | cons z c => rfl
 | cons x a ih =>
  intro b c h1 h2
  cases b with
  | nil => simp [Op.bytesLess] at h1
  | cons y b => cases c with
   | nil => simp [Op.bytesLess] at h2
   | cons z c =>
    simp only [Op.bytesLess, Bool.or_eq_true, Bool.and_eq_true, decide_eq_true_eq, beq_iff_eq, UInt8.lt_iff_toNat_lt] at h1 h2 ⊢
    rcases h1 with h1 | ⟨rfl, h1⟩
    ·rcases h2 with h2 | ⟨rfl, h2⟩
     ·exact .inl (by omega)
     ·exact .inl h1
    ·rcases h2 with h2 | ⟨rfl, h2⟩
     ·exact .inl h2
     ·exact .inr ⟨rfl, ih b c h1 h2⟩
theorem bl_tri : ∀ a b : List UInt8, Op.bytesLess a b = false → Op.bytesLess b a = false → a = b := by
 intro a
 induction a with
 | nil => intro b h1 h2; cases b with
  | nil => rfl
  | cons y b => simp [Op.bytesLess] at h1
 | cons x a ih =>
  intro b h1 h2
  cases b with
  | nil => simp [Op.bytesLess] at h2
  | cons y b =>
   simp only [Op.bytesLess, Bool.or_eq_false_iff, Bool.and_eq_false_iff, decide_eq_false_iff_not, beq_eq_false_iff_ne, UInt8.lt_iff_toNat_lt] at h1 h2
   have hxy : x = y := UInt8.toNat_inj.1 (by omega)
   subst hxy
   rcases h1.2 with h | h
   ·exact absurd rfl h
   ·rcases h2.2 with h' | h'
    ·exact absurd rfl h'
    ·rw [ih b h h']
theorem lt8_trans {a b c : List UInt8} (h1 : lt8 a b = true) (h2 : lt8 b c = true) : lt8 a c = true := by
 simp only [lt8] at *
 exact bl_trans _ _ _ h1 h2
theorem lt8_tri {a b : List UInt8} (h1 : lt8 a b = false) (h2 : lt8 b a = false) : a = b := by
 simp only [lt8] at *
 exact bl_tri _ _ h1 h2
theorem GM : ∀ a, vC a a = false := by
 intro a
 induction a with
 | nil => rfl
 | cons x a ih => simp [vC, ih]
theorem GY : ∀ a b c, vC a b = true → vC b c = true → vC a c = true := by
 intro a
 induction a with
 | nil =>
  intro b c h1 h2
  cases b with
  | nil => simp [vC] at h1
  | cons y b => cases c with
   | nil => simp [vC] at h2
   | cons z c => rfl
 | cons x a ih =>
  intro b c h1 h2
  cases b with
  | nil => simp [vC] at h1
  | cons y b => cases c with
   | nil => simp [vC] at h2
   | cons z c =>
    simp only [vC] at h1 h2 ⊢
    by_cases hxy : x = y
    ·subst hxy
     simp only [if_true] at h1
     by_cases hxz : x = z
     ·subst hxz
      simp only [if_true] at h2 ⊢
      exact ih b c h1 h2
     ·simp only [hxz, if_false] at h2 ⊢; exact h2
    ·simp only [hxy, if_false] at h1
     by_cases hyz : y = z
     ·subst hyz
      simp only [hxy, if_false]; exact h1
     ·simp only [hyz, if_false] at h2
      have h3 := lt8_trans h1 h2
      by_cases hxz : x = z
      ·subst hxz; rw [Vr] at h3; cases h3
      ·simp only [hxz, if_false]; exact h3
theorem lessL_tri : ∀ a b, vC a b = false → vC b a = false → a = b := by
 intro a
 induction a with
 | nil =>
  intro b h1 h2
  cases b with
  | nil => rfl
  | cons y b => simp [vC] at h1
 | cons x a ih =>
  intro b h1 h2
  cases b with
  | nil => simp [vC] at h2
  | cons y b =>
   simp only [vC] at h1 h2
   by_cases hxy : x = y
   ·subst hxy
    simp only [if_true] at h1 h2
    rw [ih b h1 h2]
   ·have hyx : ¬ y = x := fun e => hxy e.symm
    simp only [hxy, hyx, if_false] at h1 h2
    exact absurd (lt8_tri h1 h2) hxy
def ltP (a b : List UInt8) : Bool := vC (cut 47 a) (cut 47 b)
theorem Vj (a : List UInt8) : ltP a a = false := GM _
theorem jW {a b c : List UInt8} (h1 : ltP a b = true) (h2 : ltP b c = true) : ltP a c = true := GY _ _ _ h1 h2
theorem YH {a b : List UInt8} (h1 : ltP a b = false) (h2 : ltP b a = false) : a = b := XW (lessL_tri _ _ h1 h2)
theorem YU {a b : List UInt8} (h : ltP a b = true) : ltP b a = false := by
 rcases qF (ltP b a) with h2 | h2
 ·have := jW h h2; rw [Vj] at this; cases this
 ·exact h2
theorem QT {a b : List UInt8} (h : ltP a b = true) : a ≠ b := fun e => by subst e; rw [Vj] at h; cases h
def yO (l : List (List UInt8)) : Prop := l.Pairwise fun a b => ltP a b = true
theorem yO.uniq : ∀ {a b : List (List UInt8)}, yO a → yO b → (∀ x, x ∈ a ↔ x ∈ b) → a = b := by
 intro a
 induction a with
 | nil =>
  intro b _ _ h
  cases b with
  | nil => rfl
  | cons y b => exact absurd ((h y).2 (List.mem_cons_self ..)) (by simp)
 | cons x a ih =>
  intro b ha hb h
  cases b with
  | nil => exact absurd ((h x).1 (List.mem_cons_self ..)) (by simp)
  | cons y b =>
   have ha' := List.pairwise_cons.1 ha
   have hb' := List.pairwise_cons.1 hb
   have hxy : x = y := by
    rcases List.mem_cons.1 ((h x).1 (List.mem_cons_self ..)) with e | hx
    ·exact e
    ·rcases List.mem_cons.1 ((h y).2 (List.mem_cons_self ..)) with e | hy
     ·exact e.symm
     ·have h1 := hb'.1 x hx
      have h2 := ha'.1 y hy
      rw [YU h1] at h2; cases h2
   subst hxy
   congr 1
   refine ih ha'.2 hb'.2 fun z => ?_
   constructor
   ·intro hz
    rcases List.mem_cons.1 ((h z).1 (List.mem_cons_of_mem _ hz)) with e | hz'
    ·subst e; exact absurd rfl (QT (ha'.1 z hz))
    ·exact hz'
   ·intro hz
    rcases List.mem_cons.1 ((h z).2 (List.mem_cons_of_mem _ hz)) with e | hz'
    ·subst e; exact absurd rfl (QT (hb'.1 z hz))
    ·exact hz'
theorem GA {α : Type} [Inhabited α] (f : α → List UInt8) {l : List α} (h : ∀ i, 0 < i → i < l.length → ltP (f (l.getD (i - 1) default)) (f (l.getD i default)) = true) : yO (l.map f) := by
 unfold yO
 rw [List.pairwise_map, List.pairwise_iff_getElem]
 intro i j hi hj hij
 obtain ⟨d, rfl⟩ : ∃ d, j = i + 1 + d := ⟨j - i - 1, by omega⟩
 induction d with
 | zero =>
  have := h (i + 1) (by omega) hj
  rw [ya hj, show i + 1 - 1 = i by omega, ya hi] at this
  exact this
 | succ d ih =>
  have h1 := ih (by omega) (by omega)
  have h2 := h (i + 1 + (d + 1)) (by omega) hj
  rw [ya hj, show i + 1 + (d + 1) - 1 = i + 1 + d by omega, ya (by omega)] at h2
  exact jW h1 h2
theorem VJ {x : List UInt8} {l : List (List UInt8)} (h : yO (x :: l)) : ∀ z ∈ l, ltP x z = true := (List.pairwise_cons.1 h).1
theorem VI {x : List UInt8} {l : List (List UInt8)} (h : yO (x :: l)) : yO l := (List.pairwise_cons.1 h).2
def Jb (l : List (List UInt8)) (p : List UInt8) : List (List UInt8) := l.filter (fun x => ltP x p) ++ p :: l.filter (fun x => ltP p x)
theorem insP_rise {l : List (List UInt8)} (h : yO l) (p : List UInt8) : yO (Jb l p) := by
 unfold Jb yO
 rw [List.pairwise_append, List.pairwise_cons]
 refine ⟨List.Pairwise.filter _ h, ⟨fun z hz => (List.mem_filter.1 hz).2, List.Pairwise.filter _ h⟩, ?_⟩
 intro u hu v hv
 have h1 := (List.mem_filter.1 hu).2
 rcases List.mem_cons.1 hv with rfl | hv
 ·exact h1
 ·exact jW h1 (List.mem_filter.1 hv).2
theorem insP_mem (l : List (List UInt8)) (p z : List UInt8) : z ∈ Jb l p ↔ z = p ∨ z ∈ l := by
 unfold Jb
 rw [List.mem_append, List.mem_cons, List.mem_filter, List.mem_filter]
 constructor
 ·rintro (h | h | h)
  ·exact .inr h.1
  ·exact .inl h
  ·exact .inr h.1
 ·rintro (h | h)
  ·exact .inr (.inl h)
  ·rcases qF (ltP z p) with h1 | h1
   ·exact .inl ⟨h, h1⟩
   ·rcases qF (ltP p z) with h2 | h2
    ·exact .inr (.inr ⟨h, h2⟩)
    ·exact .inr (.inl (YH h1 h2))
def Vh (l : List (List UInt8)) : List (List UInt8) := l.foldl Jb []
theorem JE : ∀ (l acc : List (List UInt8)), yO acc → yO (l.foldl Jb acc) ∧ ∀ z, z ∈ l.foldl Jb acc ↔ z ∈ l ∨ z ∈ acc := by
 intro l
 induction l with
 | nil => intro acc h; exact ⟨h, fun z => by simp⟩
 | cons x l ih =>
  intro acc h
  obtain ⟨h1, h2⟩ := ih (Jb acc x) (insP_rise h x)
  refine ⟨h1, fun z => ?_⟩
  rw [List.foldl_cons, h2, insP_mem, List.mem_cons]
  constructor
  ·rintro (h | h | h)
   ·exact .inl (.inr h)
   ·exact .inl (.inl h)
   ·exact .inr h
  ·rintro ((h | h) | h)
   ·exact .inr (.inl h)
   ·exact .inl h
   ·exact .inr (.inr h)
theorem YZ (l : List (List UInt8)) : yO (Vh l) := (JE l [] List.Pairwise.nil).1
theorem Yg (l : List (List UInt8)) (z : List UInt8) : z ∈ Vh l ↔ z ∈ l := by
 rw [Vh, (JE l [] List.Pairwise.nil).2]; simp
theorem insP_len (l : List (List UInt8)) (p : List UInt8) : (Jb l p).length ≤ l.length + 1 := by
 unfold Jb
 have : (l.filter fun x => ltP x p).length + (l.filter fun x => ltP p x).length ≤ l.length := by
  induction l with
  | nil => simp
  | cons x l ih =>
   rcases qF (ltP x p) with h1 | h1
   ·have h2 := YU h1
    simp [h1, h2]; omega
   ·rcases qF (ltP p x) with h2 | h2 <;> simp [h1, h2] <;> omega
 simp only [List.length_append, List.length_cons]; omega
theorem Xu (l : List (List UInt8)) : (Vh l).length ≤ l.length := by
 have : ∀ (l acc : List (List UInt8)), (l.foldl Jb acc).length ≤ l.length + acc.length := by
  intro l
  induction l with
  | nil => intro acc; simp
  | cons x l ih =>
   intro acc
   have h1 := ih (Jb acc x)
   have h2 := insP_len acc x
   simp only [List.foldl_cons, List.length_cons]; omega
 have := this l []
 simpa [Vh] using this
def qT (ls : List (List Rec)) : List (List UInt8) := Vh (ls.flatten.map (·.path))
theorem Qp {α : Type} [Inhabited α] {l : List α} {i : Nat} (h : i < l.length) : l.drop i = gt l (i : Int) :: l.drop (i + 1) := by
 rw [List.drop_eq_getElem_cons h, vI, ya h]
def ve.b2 (a0 : List (List Rec)) (x11_9 : Int) : List (List UInt8) × Int → Option (Step (Step (List (List UInt8)) (List (List UInt8) × Int) (List (List UInt8))) (List (List UInt8) × Int) (List (List UInt8))) :=
 fun q => match q with
 | (x3_36, x17_38) => bif (decide (x17_38 < ((gt a0 x11_9).length : Int))) then (bif inR x17_38 (gt a0 x11_9).length then (bif decide ((x3_36.length + ([(gt (gt a0 x11_9) x17_38).path] : List (List UInt8)).length) * 16 ≤ 140737488355328) then (some (.nxt (x3_36 ++ ([(gt (gt a0 x11_9) x17_38).path] : List (List UInt8)), IntKind.wrap .i64 (x17_38 + 1)))) else none) else none) else (some (.brk x3_36))
def ve.b1 (k : Nat) (a0 : List (List Rec)) : List (List UInt8) × Int → Option (Step (List (List UInt8)) (List (List UInt8) × Int) (List (List UInt8))) :=
  fun q => match q with
  | (x3_7, x11_9) => bif (decide (x11_9 < (a0.length : Int))) then (bif inR x11_9 a0.length then ((qp (ve.b2 a0 x11_9) k (x3_7, 0)).bind fun z => match z with | .inl t => some t | .inr x3_42 => some (.nxt (x3_42, IntKind.wrap .i64 (x11_9 + 1)))) else none) else (some (.brk x3_7))
def ve.sh (k : Nat) (a0 : List (List Rec)) : Option (List (List UInt8)) :=
  (qp (ve.b1 k a0) k (([] : List (List UInt8)), 0)).bind fun z => match z with | .inl t => some t | .inr x3_13 => bif decide (∀ x ∈ x3_13, x.length ≤ 1048576) then (bif decide (x3_13.length ≤ 4611686018427387903) then (some (Vh x3_13)) else none) else none
theorem ve.in {a0 : List (List Rec)} {x : Nat} (hg : (gt a0 (x : Int)).length ≤ 1048576) : ∀ (m i K : Nat) (acc : List (List UInt8)), i + m = (gt a0 (x : Int)).length → m < K → acc.length + m ≤ 8000000 → qp (ve.b2 a0 (x : Int)) K (acc, (i : Int)) = some (.inr (acc ++ ((gt a0 (x : Int)).drop i).map (·.path))) := by
 intro m
 induction m with
 | zero =>
  intro i K acc hi hK _
  obtain ⟨K, rfl⟩ : ∃ j, K = j + 1 := ⟨K - 1, by omega⟩
  have d1 : decide ((i : Int) < ((gt a0 (x : Int)).length : Int)) = false := decide_eq_false (by omega)
  have hd : (gt a0 (x : Int)).drop i = [] := List.drop_eq_nil_of_le (by omega)
  rw [qp, hd]
  simp only [ve.b2, d1, cond_false, List.map_nil, List.append_nil]; rfl
 | succ m ih =>
  intro i K acc hi hK hb
  obtain ⟨K, rfl⟩ : ∃ j, K = j + 1 := ⟨K - 1, by omega⟩
  have hlt : i < (gt a0 (x : Int)).length := by omega
  have d1 : decide ((i : Int) < ((gt a0 (x : Int)).length : Int)) = true := decide_eq_true (by omega)
  have e1 : ∀ z : List UInt8, decide ((acc.length + ([z] : List (List UInt8)).length) * 16 ≤ 140737488355328) = true := fun z => decide_eq_true (by simp; omega)
  have w1 : IntKind.wrap .i64 ((i : Int) + 1) = ((i + 1 : Nat) : Int) := by rw [wrap_small (by omega) (by omega)]; omega
  have hI := ih (i + 1) K (acc ++ [(gt (gt a0 (x : Int)) (i : Int)).path]) (by omega) (by omega) (by simp; omega)
  rw [qp, Qp hlt]
  simp only [ve.b2, d1, cond_true, qR hlt, e1, w1]
  refine hI.trans ?_
  simp
theorem ve.out {a0 : List (List Rec)} (h0 : a0.length ≤ 5) (h1 : ∀ l ∈ a0, l.length ≤ 1048576) : ∀ (m i K : Nat) (acc : List (List UInt8)), i + m = a0.length → m < K → acc.length ≤ i * 1048576 → qp (ve.b1 1048577 a0) K (acc, (i : Int)) = some (.inr (acc ++ ((a0.drop i).flatten).map (·.path))) := by
 intro m
 induction m with
 | zero =>
  intro i K acc hi hK _
  obtain ⟨K, rfl⟩ : ∃ j, K = j + 1 := ⟨K - 1, by omega⟩
  have d1 : decide ((i : Int) < (a0.length : Int)) = false := decide_eq_false (by omega)
  have hd : a0.drop i = [] := List.drop_eq_nil_of_le (by omega)
  rw [qp]
  simp only [ve.b1, d1, cond_false, hd, List.flatten_nil, List.map_nil, List.append_nil]; rfl
 | succ m ih =>
  intro i K acc hi hK hb
  obtain ⟨K, rfl⟩ : ∃ j, K = j + 1 := ⟨K - 1, by omega⟩
  have hlt : i < a0.length := by omega
  have hli : (gt a0 (i : Int)).length ≤ 1048576 := by rw [vI, ya hlt]; exact h1 _ (List.getElem_mem hlt)
  have d1 : decide ((i : Int) < (a0.length : Int)) = true := decide_eq_true (by omega)
  have w1 : IntKind.wrap .i64 ((i : Int) + 1) = ((i + 1 : Nat) : Int) := by rw [wrap_small (by omega) (by omega)]; omega
  have hin := ve.in hli (gt a0 (i : Int)).length 0 1048577 acc (by omega) (by omega) (by omega)
  rw [List.drop_zero] at hin
  have hin' : qp (ve.b2 a0 (i : Int)) 1048577 (acc, 0) = some (.inr (acc ++ (gt a0 (i : Int)).map (·.path))) := hin
  have hI := ih (i + 1) K (acc ++ (gt a0 (i : Int)).map (·.path)) (by omega) (by omega) (by simp only [List.length_append, List.length_map]; omega)
  rw [qp]
  simp only [ve.b1, d1, cond_true, qR hlt, hin', Option.bind_some, w1]
  refine hI.trans ?_
  rw [Qp hlt]
  simp
theorem ve.eq (a0 : List (List Rec)) (h0 : a0.length ≤ 5) (h1 : ∀ l ∈ a0, l.length ≤ 1048576) (h2 : ∀ l ∈ a0, ∀ x ∈ l, x.path.length ≤ 1048576) : ∃ k, ve.sh k a0 = some (qT a0) := by
 refine ⟨1048577, ?_⟩
 unfold ve.sh
 have ho := ve.out h0 h1 a0.length 0 1048577 [] (by omega) (by omega) (by simp)
 rw [List.drop_zero, List.nil_append] at ho
 have ho' : qp (ve.b1 1048577 a0) 1048577 ([], 0) = some (.inr (a0.flatten.map (·.path))) := ho
 have e1 : decide (∀ x ∈ a0.flatten.map (·.path), x.length ≤ 1048576) = true := decide_eq_true fun x hx => by
  obtain ⟨r, hr, rfl⟩ := List.mem_map.1 hx
  obtain ⟨l, hl, hrl⟩ := List.mem_flatten.1 hr
  exact h2 l hl r hrl
 have hlen : ∀ (ls : List (List Rec)), (∀ l ∈ ls, l.length ≤ 1048576) → ls.flatten.length ≤ ls.length * 1048576 := by
  intro ls
  induction ls with
  | nil => intro _; simp
  | cons l ls ih =>
   intro h
   have a1 := h l (List.mem_cons_self ..)
   have a2 := ih fun x hx => h x (List.mem_cons_of_mem _ hx)
   simp only [List.flatten_cons, List.length_append, List.length_cons]; omega
 have e2 : decide ((a0.flatten.map (·.path)).length ≤ 4611686018427387903) = true := decide_eq_true (by have := hlen a0 h1; rw [List.length_map]; omega)
 rw [ho']
 simp only [Option.bind_some, e1, e2, cond_true]
 rfl
section
variable {α : Type} (f : α → List UInt8)
def vS (l : List α) (p : List UInt8) : Option α := l.find? fun x => decide (f x = p)
theorem jj (x : α) (l : List α) (p : List UInt8) : vS f (x :: l) p = if f x = p then some x else vS f l p := by
 unfold vS
 by_cases h : f x = p <;> simp [h]
theorem yN {l : List α} {p : List UInt8} : vS f l p = none ↔ p ∉ l.map f := by
 induction l with
 | nil => simp [vS]
 | cons x l ih =>
  rw [jj]
  by_cases h : f x = p
  ·simp [h]
  ·rw [if_neg h, ih]
   simp [Ne.symm h]
theorem Qh {l : List α} {p : List UInt8} {x : α} (h : vS f l p = some x) : x ∈ l ∧ f x = p := by
 have h1 := List.mem_of_find?_eq_some h
 have h2 := List.find?_some h
 exact ⟨h1, of_decide_eq_true h2⟩
theorem Vm {l : List α} (h : yO (l.map f)) : ∀ x ∈ l, vS f l (f x) = some x := by
 induction l with
 | nil => intro x hx; cases hx
 | cons y l ih =>
  intro x hx
  rw [jj]
  rcases List.mem_cons.1 hx with rfl | hx
  ·rw [if_pos rfl]
  ·have hlt : ltP (f y) (f x) = true := VJ h (f x) (List.mem_map_of_mem hx)
   rw [if_neg (QT hlt)]
   exact ih (VI h) x hx
theorem VC {l : List α} (h : yO (l.map f)) : (l.map f).filterMap (vS f l) = l := by
 rw [List.filterMap_map]
 have : ∀ m : List α, (∀ x ∈ m, x ∈ l) → m.filterMap (vS f l ∘ f) = m := by
  intro m
  induction m with
  | nil => intro _; rfl
  | cons x m ih =>
   intro hm
   rw [List.filterMap_cons]
   have h1 : (vS f l ∘ f) x = some x := Vm f h x (hm x (List.mem_cons_self ..))
   rw [h1]
   simp only
   rw [ih fun y hy => hm y (List.mem_cons_of_mem _ hy)]
 exact this l fun _ h => h
theorem jJ {l : List α} {p : List UInt8} : p ∈ l.map f ↔ vS f l p ≠ none := by
 constructor
 ·intro h e; exact (yN f).1 e h
 ·intro h
  by_cases h2 : p ∈ l.map f
  ·exact h2
  ·exact absurd ((yN f).2 h2) h
theorem XN {a b : List α} (ha : yO (a.map f)) (hb : yO (b.map f)) (h : ∀ p, vS f a p = vS f b p) : a = b := by
 have hm : a.map f = b.map f := yO.uniq ha hb fun p => by rw [jJ, jJ, h]
 rw [← VC f ha, ← VC f hb, hm]
 congr 1
 funext p
 exact h p
theorem pick_spec {ps : List (List UInt8)} (hp : yO ps) (g : List UInt8 → Option α) (hg : ∀ p x, g p = some x → f x = p) :
  yO ((ps.filterMap g).map f) ∧ ∀ p, vS f (ps.filterMap g) p = if p ∈ ps then g p else none := by
 induction ps with
 | nil => exact ⟨List.Pairwise.nil, fun p => by simp [vS]⟩
 | cons q ps ih =>
  obtain ⟨i1, i2⟩ := ih (VI hp)
  have hq := VJ hp
  have hnot : q ∉ ps := fun hm => QT (hq q hm) rfl
  cases hgq : g q with
  | none =>
   rw [List.filterMap_cons, hgq]
   refine ⟨i1, fun p => ?_⟩
   simp only
   rw [i2]
   by_cases e : p = q
   ·subst e; simp [hnot, hgq]
   ·simp [e]
  | some x =>
   rw [List.filterMap_cons, hgq]
   have hx := hg q x hgq
   refine ⟨?_, fun p => ?_⟩
   ·simp only [List.map_cons]
    refine List.pairwise_cons.2 ⟨fun z hz => ?_, i1⟩
    rw [hx]
    have : vS f (ps.filterMap g) z ≠ none := (jJ f).1 hz
    rw [i2] at this
    by_cases hm : z ∈ ps
    ·exact hq z hm
    ·rw [if_neg hm] at this; exact absurd rfl this
   ·simp only
    rw [jj, i2, hx]
    by_cases e : q = p
    ·subst e; simp [hgq]
    ·have e' : ¬ p = q := fun h => e h.symm
     simp [e, e']
theorem Qf [Inhabited α] (l : List α) (p : List UInt8) : (0 ≤ yF (fun x => decide (f x = p)) l ↔ vS f l p ≠ none) ∧ ∀ x, vS f l p = some x → gt l (yF (fun x => decide (f x = p)) l) = x := by
 induction l with
 | nil => simp [yF, vS]
 | cons y l ih =>
  rw [jj]
  by_cases h : f y = p
  ·simp only [yF, h, decide_true, if_true]
   exact ⟨by simp, fun x hx => by rw [← Option.some.inj hx]; rfl⟩
  ·simp only [yF, h, decide_false, Bool.false_eq_true, if_false]
   have hge := GZ (fun x => decide (f x = p)) l
   by_cases hm : yF (fun x => decide (f x = p)) l = -1
   ·rw [if_pos hm]
    rw [hm] at ih
    refine ⟨ih.1, fun x hx => ?_⟩
    have : vS f l p = none := by
     by_cases e : vS f l p = none
     ·exact e
     ·have := ih.1.2 e; omega
    rw [this] at hx; cases hx
   ·rw [if_neg hm]
    obtain ⟨n, hn⟩ : ∃ n : Nat, yF (fun x => decide (f x = p)) l = n := ⟨(yF (fun x => decide (f x = p)) l).toNat, by omega⟩
    rw [hn] at ih ⊢
    refine ⟨⟨fun _ => ih.1.1 (by omega), fun _ => by omega⟩, fun x hx => ?_⟩
    have := ih.2 x hx
    have e : ((n : Int) + 1) = ((n + 1 : Nat) : Int) := by omega
    rw [e, vI, List.getD_cons_succ]
    exact this
end
section
variable {α : Type} (f : α → List UInt8) (hl hu : α → Option α) (hb : α → α → Option α)
def Qg : List α → List α → List α
 | [], b => b.filterMap hu
 | x :: a, [] => (x :: a).filterMap hl
 | x :: a, y :: b =>
  if ltP (f x) (f y) then (hl x).toList ++ Qg a (y :: b)
  else if ltP (f y) (f x) then (hu y).toList ++ Qg (x :: a) b
  else (hb x y).toList ++ Qg a b
termination_by a b => a.length + b.length
def X1 (a b : Option α) : Option α := match a, b with
 | none, none => none
 | some x, none => hl x
 | none, some y => hu y
 | some x, some y => hb x y
theorem VQ {x : Option α} {q : List UInt8} (hx : ∀ z, x = some z → f z = q) (l : List α) (hq : q ∉ l.map f) (p : List UInt8) : vS f (x.toList ++ l) p = if q = p then x else vS f l p := by
 cases x with
 | none =>
  by_cases e : q = p
  ·subst e; simp [(yN f).2 hq]
  ·simp [e]
 | some z =>
  have := hx z rfl
  show vS f (z :: l) p = _
  rw [jj, this]
theorem Yx {x : Option α} {q : List UInt8} (hx : ∀ z, x = some z → f z = q) {l : List α} (hl : yO (l.map f)) (hlt : ∀ p ∈ l.map f, ltP q p = true) : yO ((x.toList ++ l).map f) := by
 cases x with
 | none => exact hl
 | some z =>
  refine List.pairwise_cons.2 ⟨fun p hp => ?_, hl⟩
  rw [hx z rfl]; exact hlt p hp
theorem J4 (h1 : ∀ x z, hl x = some z → f z = f x) (h2 : ∀ y z, hu y = some z → f z = f y) (h3 : ∀ x y z, f x = f y → hb x y = some z → f z = f x) :
  ∀ (n : Nat) (a b : List α), a.length + b.length ≤ n → yO (a.map f) → yO (b.map f) → yO ((Qg f hl hu hb a b).map f) ∧ ∀ p, vS f (Qg f hl hu hb a b) p = X1 hl hu hb (vS f a p) (vS f b p) := by
 have one : ∀ (h : α → Option α) (hh : ∀ x z, h x = some z → f z = f x) (l : List α), yO (l.map f) → yO ((l.filterMap h).map f) ∧ ∀ p, vS f (l.filterMap h) p = (vS f l p).bind h := by
  intro h hh l
  induction l with
  | nil => intro _; exact ⟨List.Pairwise.nil, fun p => rfl⟩
  | cons x l ih =>
   intro hr
   obtain ⟨i1, i2⟩ := ih (VI hr)
   have hq := VJ hr
   have hsub : ∀ p ∈ (l.filterMap h).map f, ltP (f x) p = true := by
    intro p hp
    have : vS f (l.filterMap h) p ≠ none := (jJ f).1 hp
    rw [i2] at this
    by_cases hm : p ∈ l.map f
    ·exact hq p hm
    ·rw [(yN f).2 hm] at this; exact absurd rfl this
   have e : (x :: l).filterMap h = (h x).toList ++ l.filterMap h := by cases hx : h x <;> simp [hx]
   rw [e]
   refine ⟨Yx f (hh x) i1 hsub, fun p => ?_⟩
   rw [VQ f (hh x) _ (fun hm => QT (hsub _ hm) rfl), jj, i2]
   by_cases ep : f x = p <;> simp [ep]
 intro n
 induction n with
 | zero =>
  intro a b hn ha hb'
  have e1 : a = [] := List.eq_nil_of_length_eq_zero (by omega)
  have e2 : b = [] := List.eq_nil_of_length_eq_zero (by omega)
  subst e1; subst e2
  rw [Qg]
  exact ⟨List.Pairwise.nil, fun p => rfl⟩
 | succ n ih =>
  intro a b hn ha hb'
  cases a with
  | nil =>
   rw [Qg]
   obtain ⟨i1, i2⟩ := one hu h2 b hb'
   refine ⟨i1, fun p => ?_⟩
   rw [i2]
   show _ = X1 hl hu hb none _
   cases vS f b p <;> rfl
  | cons x a =>
   cases b with
   | nil =>
    rw [Qg]
    obtain ⟨i1, i2⟩ := one hl h1 (x :: a) ha
    refine ⟨i1, fun p => ?_⟩
    rw [i2]
    show _ = X1 hl hu hb _ none
    cases vS f (x :: a) p <;> rfl
   | cons y b =>
    simp only [List.length_cons] at hn
    have ha1 := VJ ha
    have hb1 := VJ hb'
    have ha2 : yO (a.map f) := VI ha
    have hb2 : yO (b.map f) := VI hb'
    have mem : ∀ (a b : List α) (p : List UInt8), X1 hl hu hb (vS f a p) (vS f b p) ≠ none → p ∈ a.map f ∨ p ∈ b.map f := by
     intro a b p h
     by_cases m1 : p ∈ a.map f
     ·exact .inl m1
     ·by_cases m2 : p ∈ b.map f
      ·exact .inr m2
      ·rw [(yN f).2 m1, (yN f).2 m2] at h; exact absurd rfl h
    rw [Qg]
    rcases qF (ltP (f x) (f y)) with hl1 | hl1
    ·obtain ⟨i1, i2⟩ := ih a (y :: b) (by simp only [List.length_cons]; omega) ha2 hb'
     have hby : ∀ p ∈ (y :: b).map f, ltP (f x) p = true := by
      intro p hp
      rcases List.mem_cons.1 hp with rfl | hp
      ·exact hl1
      ·exact jW hl1 (hb1 p hp)
     have hlt : ∀ p ∈ (Qg f hl hu hb a (y :: b)).map f, ltP (f x) p = true := by
      intro p hp
      have h := (jJ f).1 hp
      rw [i2] at h
      rcases mem _ _ _ h with m | m
      ·exact ha1 p m
      ·exact hby p m
     rw [if_pos hl1]
     refine ⟨Yx f (h1 x) i1 hlt, fun p => ?_⟩
     rw [VQ f (h1 x) _ (fun hm => QT (hlt _ hm) rfl), jj f x, i2]
     by_cases ep : f x = p
     ·rw [if_pos ep, if_pos ep]
      have : vS f (y :: b) p = none := (yN f).2 fun hm => QT (hby p hm) ep
      rw [this]; rfl
     ·rw [if_neg ep, if_neg ep]
    ·have hln : ¬ ltP (f x) (f y) = true := by rw [hl1]; simp
     rw [if_neg hln]
     rcases qF (ltP (f y) (f x)) with hr | hr
     ·obtain ⟨i1, i2⟩ := ih (x :: a) b (by simp only [List.length_cons]; omega) ha hb2
      have hay : ∀ p ∈ (x :: a).map f, ltP (f y) p = true := by
       intro p hp
       rcases List.mem_cons.1 hp with rfl | hp
       ·exact hr
       ·exact jW hr (ha1 p hp)
      have hlt : ∀ p ∈ (Qg f hl hu hb (x :: a) b).map f, ltP (f y) p = true := by
       intro p hp
       have h := (jJ f).1 hp
       rw [i2] at h
       rcases mem _ _ _ h with m | m
       ·exact hay p m
       ·exact hb1 p m
      rw [if_pos hr]
      refine ⟨Yx f (h2 y) i1 hlt, fun p => ?_⟩
      rw [VQ f (h2 y) _ (fun hm => QT (hlt _ hm) rfl), jj f y, i2]
      by_cases ep : f y = p
      ·rw [if_pos ep, if_pos ep]
       have : vS f (x :: a) p = none := (yN f).2 fun hm => QT (hay p hm) ep
       rw [this]; rfl
      ·rw [if_neg ep, if_neg ep]
     ·have hrn : ¬ ltP (f y) (f x) = true := by rw [hr]; simp
      have hxy : f x = f y := YH hl1 hr
      rw [if_neg hrn]
      obtain ⟨i1, i2⟩ := ih a b (by omega) ha2 hb2
      have hlt : ∀ p ∈ (Qg f hl hu hb a b).map f, ltP (f x) p = true := by
       intro p hp
       have h := (jJ f).1 hp
       rw [i2] at h
       rcases mem _ _ _ h with m | m
       ·exact ha1 p m
       ·rw [hxy]; exact hb1 p m
      have h3' := fun z => h3 x y z hxy
      refine ⟨Yx f h3' i1 hlt, fun p => ?_⟩
      rw [VQ f h3' _ (fun hm => QT (hlt _ hm) rfl), jj f x, jj f y, i2, ← hxy]
      by_cases ep : f x = p
      ·rw [if_pos ep, if_pos ep, if_pos ep]; rfl
      ·rw [if_neg ep, if_neg ep, if_neg ep]
end
def y5 (l u : Rec) : Rec := if u.kind = 3 ∧ yX l = true then ⟨u.kind, u.path, u.body, u.mode, true⟩ else u
def JV (lower upper : List Rec) : List Rec := Qg (·.path) (fun r => if jF upper r.path then none else some r) some (fun a b => some (y5 a b)) lower upper
def VB (lower upper : List Rec) (p : List UInt8) : Option Rec :=
 if 0 ≤ qz upper p then some (if 0 ≤ qz lower p then y5 (gt lower (qz lower p)) (gt upper (qz upper p)) else gt upper (qz upper p))
 else if jF upper p then none else some (gt lower (qz lower p))
theorem Jx (l u : Rec) : (y5 l u).path = u.path := by unfold y5; split <;> rfl
theorem Y6 {α β : Type} {g h : α → Option β} : ∀ {l : List α}, (∀ x ∈ l, g x = h x) → l.filterMap g = l.filterMap h := by
 intro l
 induction l with
 | nil => intro _; rfl
 | cons x l ih =>
  intro hx
  rw [List.filterMap_cons, List.filterMap_cons, hx x (List.mem_cons_self ..), ih fun y hy => hx y (List.mem_cons_of_mem _ hy)]
theorem two_pick {lower upper : List Rec} (hl : yO (lower.map (·.path))) (hu : yO (upper.map (·.path))) : (qT [lower, upper]).filterMap (VB lower upper) = JV lower upper := by
 have hm : ∀ z, z ∈ qT [lower, upper] ↔ z ∈ lower.map (·.path) ∨ z ∈ upper.map (·.path) := by
  intro z
  rw [qT, Yg]
  simp
 obtain ⟨m1, m2⟩ := J4 (·.path) (fun r => if jF upper r.path then none else some r) some (fun a b => some (y5 a b))
  (fun x z h => by
   by_cases hc : jF upper x.path = true
   ·simp [hc] at h
   ·simp [hc] at h; rw [h]) (fun y z h => by rw [Option.some.inj h]) (fun x y z he h => by
   have : y5 x y = z := Option.some.inj h
   rw [← this, Jx]; exact he.symm) _ lower upper (Nat.le_refl _) hl hu
 have look1 := fun p => Qf (fun r : Rec => r.path) lower p
 have look2 := fun p => Qf (fun r : Rec => r.path) upper p
 have key : ∀ p, p ∈ qT [lower, upper] → VB lower upper p = X1 (fun r => if jF upper r.path then none else some r) some (fun a b => some (y5 a b)) (vS (·.path) lower p) (vS (·.path) upper p) := by
  intro p hp
  unfold VB qz
  cases hlk : vS (fun r : Rec => r.path) lower p with
  | none =>
   have n1 : ¬ 0 ≤ yF (fun r : Rec => decide (r.path = p)) lower := fun h => (look1 p).1.1 h hlk
   cases huk : vS (fun r : Rec => r.path) upper p with
   | none =>
    rcases (hm p).1 hp with h | h
    ·exact absurd h ((yN _).1 hlk)
    ·exact absurd h ((yN _).1 huk)
   | some y =>
    have n2 : 0 ≤ yF (fun r : Rec => decide (r.path = p)) upper := (look2 p).1.2 (by rw [huk]; simp)
    rw [if_pos n2, if_neg n1, (look2 p).2 y huk]; rfl
  | some x =>
   have n1 : 0 ≤ yF (fun r : Rec => decide (r.path = p)) lower := (look1 p).1.2 (by rw [hlk]; simp)
   have hxp := (Qh _ hlk).2
   cases huk : vS (fun r : Rec => r.path) upper p with
   | none =>
    have n2 : ¬ 0 ≤ yF (fun r : Rec => decide (r.path = p)) upper := fun h => (look2 p).1.1 h huk
    rw [if_neg n2, (look1 p).2 x hlk]
    show _ = if jF upper x.path then none else some x
    rw [show x.path = p from hxp]
   | some y =>
    have n2 : 0 ≤ yF (fun r : Rec => decide (r.path = p)) upper := (look2 p).1.2 (by rw [huk]; simp)
    rw [if_pos n2, if_pos n1, (look1 p).2 x hlk, (look2 p).2 y huk]; rfl
 have hpath : ∀ p ∈ qT [lower, upper], ∀ z, VB lower upper p = some z → z.path = p := by
  intro p hp z hz
  rw [key p hp] at hz
  have h := m2 p
  have e : vS (fun r : Rec => r.path) (Qg (fun r : Rec => r.path) (fun r => if jF upper r.path then none else some r) some (fun a b => some (y5 a b)) lower upper) p = some z := by rw [← hz]; exact h
  exact (Qh _ e).2
 have hcongr : (qT [lower, upper]).filterMap (VB lower upper) = (qT [lower, upper]).filterMap (fun p => if p ∈ qT [lower, upper] then VB lower upper p else none) := by
  exact Y6 fun p hp => by rw [if_pos hp]
 rw [hcongr]
 obtain ⟨p1, p2⟩ := pick_spec (fun r : Rec => r.path) (ps := qT [lower, upper]) (YZ _) (fun p => if p ∈ qT [lower, upper] then VB lower upper p else none) (fun p x h => by
  by_cases hp : p ∈ qT [lower, upper]
  ·rw [if_pos hp] at h; exact hpath p hp x h
  ·rw [if_neg hp] at h; cases h)
 refine XN (fun r : Rec => r.path) p1 m1 fun p => ?_
 have p3 : vS (fun r : Rec => r.path) ((qT [lower, upper]).filterMap (fun p => if p ∈ qT [lower, upper] then VB lower upper p else none)) p = if p ∈ qT [lower, upper] then (if p ∈ qT [lower, upper] then VB lower upper p else none) else none := p2 p
 refine p3.trans (Eq.trans ?_ (m2 p).symm)
 by_cases hp : p ∈ qT [lower, upper]
 ·rw [if_pos hp, if_pos hp, key p hp]
 ·rw [if_neg hp]
  have a1 : vS (fun r : Rec => r.path) lower p = none := (yN _).2 fun h => hp ((hm p).2 (.inl h))
  have a2 : vS (fun r : Rec => r.path) upper p = none := (yN _).2 fun h => hp ((hm p).2 (.inr h))
  rw [a1, a2]; rfl
def yr (l : List Rec) : Bool := l.all (fun r => qK r.path) && decide (l.Pairwise fun a b => ltP a.path b.path = true)
theorem jd {l : List Rec} (h : yr l = true) : ∀ x ∈ l, qK x.path = true := by
 simp only [yr, Bool.and_eq_true] at h
 exact fun x hx => List.all_eq_true.1 h.1 x hx
theorem Qu {l : List Rec} (h : yr l = true) : yO (l.map (·.path)) := by
 simp only [yr, Bool.and_eq_true] at h
 exact List.pairwise_map.2 (of_decide_eq_true h.2)
theorem VT {l : List Rec} (h1 : ∀ x ∈ l, qK x.path = true) (h2 : yO (l.map (·.path))) : yr l = true := by
 simp only [yr, Bool.and_eq_true]
 exact ⟨List.all_eq_true.2 h1, decide_eq_true (List.pairwise_map.1 h2)⟩
theorem G7 {l : List Rec} {i : Nat} (h : yD l i = 0) (h0 : 0 < i) : ltP (l.getD (i - 1) default).path (l.getD i default).path = true := by
 unfold yD at h
 split at h
 ·omega
 ·split at h
  ·exact absurd h ‹_›
  ·split at h
   ·omega
   ·split at h
    ·omega
    ·rename_i h3
     rcases qF (vC (cut 47 (l.getD (i - 1) default).path) (cut 47 (l.getD i default).path)) with h4 | h4
     ·exact h4
     ·exact absurd ⟨h0, h4⟩ h3
theorem GD {l : List Rec} (h : (qA l).2 = 0) : yO (l.map (·.path)) :=
 GA _ fun i h0 hi => G7 (QD h i hi) h0
theorem Qq {l : List Rec} (h : (qA l).2 = 0) : yr l = true := VT (GH h) (GD h)
theorem Yy {α : Type} (f : α → List UInt8) (hl hu : α → Option α) (hb : α → α → Option α) (a : List α) : Qg f hl hu hb a [] = a.filterMap hl := by
 cases a with
 | nil => rw [Qg]; rfl
 | cons x a => rw [Qg]
theorem mrgF_len {α : Type} (f : α → List UInt8) (hl hu : α → Option α) (hb : α → α → Option α) : ∀ (n : Nat) (a b : List α), a.length + b.length ≤ n → (Qg f hl hu hb a b).length ≤ a.length + b.length := by
 intro n
 induction n with
 | zero =>
  intro a b hn
  have e1 : a = [] := List.eq_nil_of_length_eq_zero (by omega)
  have e2 : b = [] := List.eq_nil_of_length_eq_zero (by omega)
  subst e1; subst e2; rw [Qg]; simp
 | succ n ih =>
  intro a b hn
  cases a with
  | nil => rw [Qg]; simpa using List.length_filterMap_le _ _
  | cons x a =>
   cases b with
   | nil => rw [Qg]; simpa using List.length_filterMap_le hl (x :: a)
   | cons y b =>
    have ho : ∀ z : Option α, z.toList.length ≤ 1 := fun z => by cases z <;> simp
    simp only [List.length_cons] at hn
    rw [Qg]
    split
    ·have := ih a (y :: b) (by simp only [List.length_cons]; omega)
     have h1 := ho (hl x)
     simp only [List.length_append, List.length_cons] at this ⊢; omega
    ·split
     ·have := ih (x :: a) b (by simp only [List.length_cons]; omega)
      have h1 := ho (hu y)
      simp only [List.length_append, List.length_cons] at this ⊢; omega
     ·have := ih a b (by omega)
      have h1 := ho (hb x y)
      simp only [List.length_append, List.length_cons] at this ⊢; omega
theorem JI (a b : List Rec) : (JV a b).length ≤ a.length + b.length := mrgF_len _ _ _ _ _ a b (Nat.le_refl _)
theorem twoR_spec {a b : List Rec} (ha : yO (a.map (·.path))) (hb : yO (b.map (·.path))) :
  yO ((JV a b).map (·.path)) ∧ ∀ p, vS (·.path) (JV a b) p = X1 (fun r : Rec => if jF b r.path then none else some r) some (fun x y => some (y5 x y)) (vS (·.path) a p) (vS (·.path) b p) :=
 J4 (·.path) (fun r => if jF b r.path then none else some r) some (fun x y => some (y5 x y))
  (fun x z h => by
   by_cases hc : jF b x.path = true
   ·simp [hc] at h
   ·simp [hc] at h; rw [h]) (fun y z h => by rw [Option.some.inj h]) (fun x y z he h => by
   have : y5 x y = z := Option.some.inj h
   rw [← this, Jx]; exact he.symm) _ a b (Nat.le_refl _) ha hb
theorem Yc {a b : List Rec} (ha : yr a = true) (hb : yr b = true) : yr (JV a b) = true := by
 obtain ⟨h1, h2⟩ := twoR_spec (Qu ha) (Qu hb)
 refine VT (fun x hx => ?_) h1
 have hx2 : vS (fun r : Rec => r.path) (JV a b) x.path ≠ none := (jJ _).1 (List.mem_map_of_mem hx)
 have hx3 := h2 x.path
 rw [hx3] at hx2
 cases hla : vS (fun r : Rec => r.path) a x.path with
 | some y => obtain ⟨m, e⟩ := Qh _ hla; rw [← e]; exact jd ha y m
 | none =>
  cases hlb : vS (fun r : Rec => r.path) b x.path with
  | some y => obtain ⟨m, e⟩ := Qh _ hlb; rw [← e]; exact jd hb y m
  | none => rw [hla, hlb] at hx2; exact absurd rfl hx2
def jw (a b : List Rec) : List Rec := jV (JV a b)
theorem Y3 (a b : List Rec) : (jw a b).length ≤ a.length + b.length := Nat.le_trans (XO _) (JI a b)
def VY (l : List Rec) : List Rec := if 16 < l.length then [] else l
def Vb (l : List Rec) : Int := if 16 < l.length then 7 else 0
def jz.sh (a0 : Rec) (a1 : Rec) : Option (Rec) :=
 bif ((decide (a1.kind = 3)) && (yX a0)) then (some (⟨a1.kind, a1.path, a1.body, a1.mode, true⟩ : Rec)) else (some a1)
theorem jz.eq (a0 a1 : Rec) : jz.sh a0 a1 = some (y5 a0 a1) := by
 unfold jz.sh y5
 by_cases h1 : a1.kind = 3 <;> cases h2 : yX a0 <;> simp [h1, h2]
def qI.b1 (a0 : List Rec) (a1 : List Rec) : List Rec × Int × Int → Option (Step (List Rec) (List Rec × Int × Int) (List Rec)) :=
 fun q => match q with
 | (x5_7, x6_9, x7_10) => bif ((decide (x6_9 < (a0.length : Int))) || (decide (x7_10 < (a1.length : Int)))) then (bif (!((!(decide (x7_10 = (a1.length : Int)))) && (decide (x6_9 < (a0.length : Int)))) || (inR x6_9 a0.length)) then (bif (!((!(decide (x7_10 = (a1.length : Int)))) && (decide (x6_9 < (a0.length : Int)))) || (inR x7_10 a1.length)) then (bif (!((!(decide (x7_10 = (a1.length : Int)))) && (decide (x6_9 < (a0.length : Int)))) || (decide (((gt a0 x6_9).path).length ≤ 1048576))) then (bif (!((!(decide (x7_10 = (a1.length : Int)))) && (decide (x6_9 < (a0.length : Int)))) || (decide (((gt a1 x7_10).path).length ≤ 1048576))) then (bif ((decide (x7_10 = (a1.length : Int))) || ((decide (x6_9 < (a0.length : Int))) && (vC (cut 47 ((gt a0 x6_9).path)) (cut 47 ((gt a1 x7_10).path))))) then (bif inR x6_9 a0.length then (bif decide (a1.length ≤ 1048576) then (bif decide (((gt a0 x6_9).path).length ≤ 1048576) then (bif (!(jF a1 ((gt a0 x6_9).path))) then (bif inR x6_9 a0.length then (bif decide ((x5_7.length + ([gt a0 x6_9] : List Rec).length) * 56 ≤ 140737488355328) then (some (.nxt (x5_7 ++ ([gt a0 x6_9] : List Rec), IntKind.wrap .i64 (x6_9 + 1), x7_10))) else none) else none) else (some (.nxt (x5_7, IntKind.wrap .i64 (x6_9 + 1), x7_10)))) else none) else none) else none) else (bif (!(!(decide (x6_9 = (a0.length : Int)))) || (inR x7_10 a1.length)) then (bif (!(!(decide (x6_9 = (a0.length : Int)))) || (inR x6_9 a0.length)) then (bif (!(!(decide (x6_9 = (a0.length : Int)))) || (decide (((gt a1 x7_10).path).length ≤ 1048576))) then (bif (!(!(decide (x6_9 = (a0.length : Int)))) || (decide (((gt a0 x6_9).path).length ≤ 1048576))) then (bif ((decide (x6_9 = (a0.length : Int))) || (vC (cut 47 ((gt a1 x7_10).path)) (cut 47 ((gt a0 x6_9).path)))) then (bif inR x7_10 a1.length then (bif decide ((x5_7.length + ([gt a1 x7_10] : List Rec).length) * 56 ≤ 140737488355328) then (some (.nxt (x5_7 ++ ([gt a1 x7_10] : List Rec), x6_9, IntKind.wrap .i64 (x7_10 + 1)))) else none) else none) else (bif inR x6_9 a0.length then (bif inR x7_10 a1.length then (bif decide ((x5_7.length + ([(y5 (gt a0 x6_9) (gt a1 x7_10))] : List Rec).length) * 56 ≤ 140737488355328) then (some (.nxt (x5_7 ++ ([(y5 (gt a0 x6_9) (gt a1 x7_10))] : List Rec), IntKind.wrap .i64 (x6_9 + 1), IntKind.wrap .i64 (x7_10 + 1)))) else none) else none) else none)) else none) else none) else none) else none)) else none) else none) else none) else none) else (some (.brk x5_7))
def qI.sh (k : Nat) (a0 : List Rec) (a1 : List Rec) : Option (List Rec) :=
  (qp (qI.b1 a0 a1) k (([] : List Rec), 0, 0)).bind fun z => match z with | .inl t => some t | .inr x5_14 => bif decide (x5_14.length ≤ 1048576) then (bif decide (∀ x ∈ x5_14, qK x.path = true) then (some (jV x5_14)) else none) else none
theorem qI.eq (a0 a1 : List Rec) (h0 : a0.length ≤ 500000) (h1 : a1.length ≤ 500000) (h2 : yr a0 = true) (h3 : yr a1 = true) : ∃ k, qI.sh k a0 a1 = some (jw a0 a1) := by
 refine ⟨a0.length + a1.length + 1, ?_⟩
 unfold qI.sh jw
 have hp0 := fun x hx => jN (jd h2 x hx)
 have hp1 := fun x hx => jN (jd h3 x hx)
 obtain ⟨M, hM⟩ : ∃ M, M = Qg (fun r : Rec => r.path) (fun r => if jF a1 r.path then none else some r) some (fun a b => some (y5 a b)) := ⟨_, rfl⟩
 have key : ∀ (n : Nat) (i k K : Nat) (out : List Rec), (a0.length - i) + (a1.length - k) = n → n < K → i ≤ a0.length → k ≤ a1.length → out.length ≤ i + k → qp (qI.b1 a0 a1) K (out, (i : Int), (k : Int)) = some (.inr (out ++ M (a0.drop i) (a1.drop k))) := by
  intro n
  induction n using Nat.strongRecOn with
  | _ n ih =>
   intro i k K out hn hK hi hk ho
   obtain ⟨K, rfl⟩ : ∃ j, K = j + 1 := ⟨K - 1, by omega⟩
   have e1 : ∀ z : Rec, decide ((out.length + ([z] : List Rec).length) * 56 ≤ 140737488355328) = true := fun z => decide_eq_true (by simp; omega)
   have b1 : decide (a1.length ≤ 1048576) = true := decide_eq_true (by omega)
   rw [qp]
   by_cases hia : i < a0.length
   ·have d1 : decide ((i : Int) < (a0.length : Int)) = true := decide_eq_true (by omega)
    have d4 : decide ((i : Int) = (a0.length : Int)) = false := decide_eq_false (by omega)
    have i1 := qR hia
    have p1 : decide ((gt a0 (i : Int)).path.length ≤ 1048576) = true := decide_eq_true (by rw [vI, ya hia]; exact hp0 _ (List.getElem_mem hia))
    have w1 : IntKind.wrap .i64 ((i : Int) + 1) = ((i + 1 : Nat) : Int) := by rw [vd hia (by omega)]; omega
    by_cases hkb : k < a1.length
    ·have d2 : decide ((k : Int) < (a1.length : Int)) = true := decide_eq_true (by omega)
     have d3 : decide ((k : Int) = (a1.length : Int)) = false := decide_eq_false (by omega)
     have i2 := qR hkb
     have p2 : decide ((gt a1 (k : Int)).path.length ≤ 1048576) = true := decide_eq_true (by rw [vI, ya hkb]; exact hp1 _ (List.getElem_mem hkb))
     have w2 : IntKind.wrap .i64 ((k : Int) + 1) = ((k + 1 : Nat) : Int) := by rw [vd hkb (by omega)]; omega
     simp only [qI.b1, d1, d2, d3, d4, i1, i2, p1, p2, w1, w2, e1, b1, Bool.not_true, Bool.not_false, Bool.true_and, Bool.and_true, Bool.or_true, Bool.true_or, Bool.false_or, cond_true, Bool.or_false]
     rw [Qp hia, Qp hkb, hM, Qg, ← hM]
     rcases qF (vC (cut 47 (gt a0 (i : Int)).path) (cut 47 (gt a1 (k : Int)).path)) with hl | hl
     ·have hl' : ltP (gt a0 (i : Int)).path (gt a1 (k : Int)).path = true := hl
      rw [if_pos hl', ← Qp hkb]
      simp only [hl, cond_true]
      rcases qF (jF a1 (gt a0 (i : Int)).path) with hc | hc
      ·have hI := ih ((a0.length - (i + 1)) + (a1.length - k)) (by omega) (i + 1) k K out rfl (by omega) (by omega) hk (by omega)
       simp only [hc, Bool.not_true, cond_false, if_true, Option.toList_none, List.nil_append]
       exact hI
      ·have hI := ih ((a0.length - (i + 1)) + (a1.length - k)) (by omega) (i + 1) k K (out ++ [gt a0 (i : Int)]) rfl (by omega) (by omega) hk (by simp; omega)
       simp only [hc, Bool.not_false, cond_true, Bool.false_eq_true, if_false, Option.toList_some]
       refine hI.trans ?_
       simp
     ·have hl' : ¬ ltP (gt a0 (i : Int)).path (gt a1 (k : Int)).path = true := by show ¬ vC _ _ = true; rw [hl]; simp
      rw [if_neg hl']
      simp only [hl, cond_false]
      rcases qF (vC (cut 47 (gt a1 (k : Int)).path) (cut 47 (gt a0 (i : Int)).path)) with hr | hr
      ·have hr' : ltP (gt a1 (k : Int)).path (gt a0 (i : Int)).path = true := hr
       have hI := ih ((a0.length - i) + (a1.length - (k + 1))) (by omega) i (k + 1) K (out ++ [gt a1 (k : Int)]) rfl (by omega) hi (by omega) (by simp; omega)
       rw [if_pos hr', ← Qp hia]
       simp only [hr, cond_true]
       refine hI.trans ?_
       simp
      ·have hr' : ¬ ltP (gt a1 (k : Int)).path (gt a0 (i : Int)).path = true := by show ¬ vC _ _ = true; rw [hr]; simp
       rw [if_neg hr']
       simp only [hr, cond_false]
       have hI := ih ((a0.length - (i + 1)) + (a1.length - (k + 1))) (by omega) (i + 1) (k + 1) K (out ++ [y5 (gt a0 (i : Int)) (gt a1 (k : Int))]) rfl (by omega) (by omega) (by omega) (by simp; omega)
       refine hI.trans ?_
       simp
    ·have hke : k = a1.length := by omega
     have d2 : decide ((k : Int) < (a1.length : Int)) = false := decide_eq_false (by omega)
     have d3 : decide ((k : Int) = (a1.length : Int)) = true := decide_eq_true (by omega)
     have hd : a1.drop k = [] := List.drop_eq_nil_of_le (by omega)
     simp only [qI.b1, d1, d2, d3, d4, i1, p1, w1, e1, b1, Bool.not_true, Bool.not_false, Bool.true_and, Bool.false_and, Bool.and_true, Bool.or_true, Bool.true_or, Bool.false_or, cond_true, Bool.or_false]
     rcases qF (jF a1 (gt a0 (i : Int)).path) with hc | hc
     ·have hI := ih ((a0.length - (i + 1)) + (a1.length - k)) (by omega) (i + 1) k K out rfl (by omega) (by omega) hk (by omega)
      simp only [hc, Bool.not_true, cond_false]
      refine hI.trans ?_
      rw [hd, hM, Yy, Yy, Qp hia]
      simp [hc]
     ·have hI := ih ((a0.length - (i + 1)) + (a1.length - k)) (by omega) (i + 1) k K (out ++ [gt a0 (i : Int)]) rfl (by omega) (by omega) hk (by simp; omega)
      simp only [hc, Bool.not_false, cond_true]
      refine hI.trans ?_
      rw [hd, hM, Yy, Yy, Qp hia]
      simp [hc]
   ·have hie : i = a0.length := by omega
    have d1 : decide ((i : Int) < (a0.length : Int)) = false := decide_eq_false (by omega)
    have d4 : decide ((i : Int) = (a0.length : Int)) = true := decide_eq_true (by omega)
    have hd0 : a0.drop i = [] := List.drop_eq_nil_of_le (by omega)
    by_cases hkb : k < a1.length
    ·have d2 : decide ((k : Int) < (a1.length : Int)) = true := decide_eq_true (by omega)
     have d3 : decide ((k : Int) = (a1.length : Int)) = false := decide_eq_false (by omega)
     have i2 := qR hkb
     have w2 : IntKind.wrap .i64 ((k : Int) + 1) = ((k + 1 : Nat) : Int) := by rw [vd hkb (by omega)]; omega
     have hI := ih ((a0.length - i) + (a1.length - (k + 1))) (by omega) i (k + 1) K (out ++ [gt a1 (k : Int)]) rfl (by omega) hi (by omega) (by simp; omega)
     simp only [qI.b1, d1, d2, d3, d4, i2, w2, e1, b1, Bool.not_true, Bool.not_false, Bool.true_and, Bool.false_and, Bool.and_false, Bool.and_true, Bool.or_true, Bool.true_or, Bool.false_or, cond_true, cond_false, Bool.or_false]
     refine hI.trans ?_
     rw [hd0, hM, Qg, Qg, Qp hkb]
     simp
    ·have d2 : decide ((k : Int) < (a1.length : Int)) = false := decide_eq_false (by omega)
     have hd1 : a1.drop k = [] := List.drop_eq_nil_of_le (by omega)
     simp only [qI.b1, d1, d2, Bool.or_false, cond_false]
     rw [hd0, hd1, hM, Qg]
     simp
 have hk := key (a0.length + a1.length) 0 0 (a0.length + a1.length + 1) [] (by simp) (by omega) (by omega) (by omega) (by simp)
 have hk2 : qp (qI.b1 a0 a1) (a0.length + a1.length + 1) ([], 0, 0) = some (.inr (JV a0 a1)) := by
  refine hk.trans ?_
  rw [List.drop_zero, List.drop_zero, List.nil_append, hM]; rfl
 have hl := JI a0 a1
 have b2 : (JV a0 a1).length ≤ 1048576 := by omega
 rw [hk2]
 simp only [Option.bind_some, decide_eq_true b2, decide_eq_true (jd (Yc h2 h3)), cond_true]
theorem fit_dec (n : Nat) : decide ((16 : Int) < (n : Int)) = decide (16 < n) := by rw [decide_eq_decide]; omega
def qD.b1 (a0 : List Rec) (a1 : List Rec) : List Rec × Int → Option (Step (List Rec) (List Rec × Int) (List Rec)) :=
 fun q => match q with
 | (x5_20, x17_22) => bif (decide (x17_22 < ((qT ([a0, a1] : List (List Rec))).length : Int))) then (bif inR x17_22 (qT ([a0, a1] : List (List Rec))).length then (bif decide (a0.length ≤ 1048576) then (bif decide (a1.length ≤ 1048576) then (bif (decide (0 ≤ (qz a1 (gt (qT ([a0, a1] : List (List Rec))) x17_22)))) then (bif inR (qz a1 (gt (qT ([a0, a1] : List (List Rec))) x17_22)) a1.length then (((bif ((decide (0 ≤ (qz a0 (gt (qT ([a0, a1] : List (List Rec))) x17_22)))) && (decide (((gt a1 (qz a1 (gt (qT ([a0, a1] : List (List Rec))) x17_22))).kind) = 3))) then (bif inR (qz a0 (gt (qT ([a0, a1] : List (List Rec))) x17_22)) a0.length then (some (yX (gt a0 (qz a0 (gt (qT ([a0, a1] : List (List Rec))) x17_22))))) else none) else some false)).bind fun z73 => bif z73 then (bif decide ((x5_20.length + ([(⟨(gt a1 (qz a1 (gt (qT ([a0, a1] : List (List Rec))) x17_22))).kind, (gt a1 (qz a1 (gt (qT ([a0, a1] : List (List Rec))) x17_22))).path, (gt a1 (qz a1 (gt (qT ([a0, a1] : List (List Rec))) x17_22))).body, (gt a1 (qz a1 (gt (qT ([a0, a1] : List (List Rec))) x17_22))).mode, true⟩ : Rec)] : List Rec).length) * 56 ≤ 140737488355328) then (some (.nxt (x5_20 ++ ([(⟨(gt a1 (qz a1 (gt (qT ([a0, a1] : List (List Rec))) x17_22))).kind, (gt a1 (qz a1 (gt (qT ([a0, a1] : List (List Rec))) x17_22))).path, (gt a1 (qz a1 (gt (qT ([a0, a1] : List (List Rec))) x17_22))).body, (gt a1 (qz a1 (gt (qT ([a0, a1] : List (List Rec))) x17_22))).mode, true⟩ : Rec)] : List Rec), IntKind.wrap .i64 (x17_22 + 1)))) else none) else (bif decide ((x5_20.length + ([(gt a1 (qz a1 (gt (qT ([a0, a1] : List (List Rec))) x17_22)))] : List Rec).length) * 56 ≤ 140737488355328) then (some (.nxt (x5_20 ++ ([(gt a1 (qz a1 (gt (qT ([a0, a1] : List (List Rec))) x17_22)))] : List Rec), IntKind.wrap .i64 (x17_22 + 1)))) else none)) else none) else (bif decide (a1.length ≤ 1048576) then (bif decide ((gt (qT ([a0, a1] : List (List Rec))) x17_22).length ≤ 1048576) then (bif (!(jF a1 (gt (qT ([a0, a1] : List (List Rec))) x17_22))) then (bif inR (qz a0 (gt (qT ([a0, a1] : List (List Rec))) x17_22)) a0.length then (bif decide ((x5_20.length + ([gt a0 (qz a0 (gt (qT ([a0, a1] : List (List Rec))) x17_22))] : List Rec).length) * 56 ≤ 140737488355328) then (some (.nxt (x5_20 ++ ([gt a0 (qz a0 (gt (qT ([a0, a1] : List (List Rec))) x17_22))] : List Rec), IntKind.wrap .i64 (x17_22 + 1)))) else none) else none) else (some (.nxt (x5_20, IntKind.wrap .i64 (x17_22 + 1))))) else none) else none)) else none) else none) else none) else (some (.brk x5_20))
def qD.sh (k : Nat) (a0 : List Rec) (a1 : List Rec) : Option (List Rec) :=
  bif decide (([a0, a1] : List (List Rec)).length ≤ 5) then (bif decide (∀ l ∈ ([a0, a1] : List (List Rec)), l.length ≤ 1048576) then (bif decide (∀ l ∈ ([a0, a1] : List (List Rec)), ∀ x ∈ l, x.path.length ≤ 1048576) then ((qp (qD.b1 a0 a1) k (([] : List Rec), 0)).bind fun z => match z with | .inl t => some t | .inr x5_26 => bif decide (x5_26.length ≤ 1048576) then (bif decide (∀ x ∈ x5_26, qK x.path = true) then (some (jV x5_26)) else none) else none) else none) else none) else none
theorem qD.eq (a0 a1 : List Rec) (h0 : a0.length ≤ 500000) (h1 : a1.length ≤ 500000) (h2 : yr a0 = true) (h3 : yr a1 = true) : ∃ k, qD.sh k a0 a1 = some (jw a0 a1) := by
 refine ⟨(qT [a0, a1]).length + 1, ?_⟩
 unfold qD.sh jw
 have hp0 := fun x hx => jN (jd h2 x hx)
 have hp1 := fun x hx => jN (jd h3 x hx)
 have g1 : ([a0, a1] : List (List Rec)).length ≤ 5 := by simp
 have g2 : ∀ l ∈ ([a0, a1] : List (List Rec)), l.length ≤ 1048576 := by
  intro l hl
  simp only [List.mem_cons, List.not_mem_nil, or_false] at hl
  rcases hl with rfl | rfl <;> omega
 have g3 : ∀ l ∈ ([a0, a1] : List (List Rec)), ∀ x ∈ l, x.path.length ≤ 1048576 := by
  intro l hl
  simp only [List.mem_cons, List.not_mem_nil, or_false] at hl
  rcases hl with rfl | rfl
  ·exact hp0
  ·exact hp1
 have hpl : (qT [a0, a1]).length ≤ 1000000 := by
  refine Nat.le_trans (Xu _) ?_
  simp; omega
 have hmem : ∀ p ∈ qT [a0, a1], p.length ≤ 1048576 ∧ (p ∈ a0.map (·.path) ∨ p ∈ a1.map (·.path)) := by
  intro p hp
  rw [qT, Yg] at hp
  simp only [List.flatten_cons, List.flatten_nil, List.append_nil, List.map_append, List.mem_append] at hp
  refine ⟨?_, hp⟩
  rcases hp with hp | hp <;> obtain ⟨x, hx, rfl⟩ := List.mem_map.1 hp
  ·exact hp0 x hx
  ·exact hp1 x hx
 rw [Q4 (qT [a0, a1]) (VB a0 a1) (qD.b1 a0 a1) (fun i hi acc ha => by
  have b0 : decide (a0.length ≤ 1048576) = true := decide_eq_true (by omega)
  have b1 : decide (a1.length ≤ 1048576) = true := decide_eq_true (by omega)
  have e1 : ∀ z : Rec, decide ((acc.length + ([z] : List Rec).length) * 56 ≤ 140737488355328) = true := fun z => decide_eq_true (by simp; omega)
  obtain ⟨m1, m2⟩ := hmem _ (List.getElem_mem hi)
  simp only [qD.b1, yn, hi, decide_true, cond_true, qR hi, vI, ya hi, b0, b1, e1, vd hi (by omega), decide_eq_true m1]
  obtain ⟨p, hp⟩ : ∃ p, (qT [a0, a1])[i] = p := ⟨_, rfl⟩
  rw [hp] at m1 m2 ⊢
  unfold VB
  by_cases hu : 0 ≤ qz a1 p
  ·simp only [hu, decide_true, cond_true, QJ hu, if_true]
   by_cases hl : 0 ≤ qz a0 p
   ·simp only [hl, decide_true, Bool.true_and, QJ hl, cond_true, if_true, y5]
    by_cases hk : (gt a1 (qz a1 p)).kind = 3
    ·rcases qF (yX (gt a0 (qz a0 p))) with hs | hs <;> simp [hk, hs]
    ·simp [hk]
   ·simp [hl]
  ·simp only [hu, decide_false, cond_false, if_false]
   rcases qF (jF a1 p) with hc | hc
   ·simp [hc]
   ·have hl : 0 ≤ qz a0 p := by
     have h4 := (Qf (fun r : Rec => r.path) a0 p).1
     refine h4.2 ((jJ _).1 (m2.resolve_right fun h5 => hu ?_))
     exact ((Qf (fun r : Rec => r.path) a1 p).1).2 ((jJ _).1 h5)
    simp [hc, QJ hl]) (fun acc => by simp [qD.b1])]
 rw [two_pick (Qu h2) (Qu h3)]
 have hl := JI a0 a1
 have b2 : (JV a0 a1).length ≤ 1048576 := by omega
 simp only [decide_eq_true g1, decide_eq_true g2, decide_eq_true g3, Option.bind_some, decide_eq_true b2, decide_eq_true (jd (Yc h2 h3)), cond_true]
def JB (v : Value) (l : List Rec) : Value := if 16 < l.length then .slice none 0 0 else v
theorem Ow.fit {e : TypeId} {B : Nat} {w : World} {v : Value} {xs : List Rec} (h : Ow e 5 qb B w v xs) : Ow e 5 qb B w (JB v xs) (VY xs) := by
 unfold JB VY
 split
 ·exact Ow.zero
 ·exact h
end Go.UL
