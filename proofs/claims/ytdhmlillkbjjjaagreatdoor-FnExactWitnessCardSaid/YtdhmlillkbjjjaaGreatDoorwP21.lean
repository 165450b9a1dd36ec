import Derived.Test.YtdhmlillkbjjjaaGreatDoorwP15
set_option linter.unusedVariables false
set_option linter.unusedSimpArgs false
namespace Go.UL
open Go.RowKit
def Qq (l : List Nd) (p : List UInt8) (self : Bool) : List Nd := l.filter fun x => !((decide (p = []) && !decide (x.path = [])) || yl x.path p) && (!self || !decide (x.path = p))
theorem JN (l : List Nd) (p : List UInt8) (b : Bool) : (Qq l p b).length ≤ l.length := List.length_filter_le _ _
theorem YY {r : Rec} (h : qB r = 0) (ho : r.opq = true) : r.kind = 3 := by
 unfold qB at h
 by_cases hk : r.kind = 3
 ·exact hk
 ·simp only [ho, hk, decide_false, Bool.not_false, Bool.true_and, Bool.or_true, if_true] at h
  repeat' split at h
  all_goals omega
theorem bl_trans : ∀ a b c : List UInt8, Op.bytesLess a b = true → Op.bytesLess b c = true → Op.bytesLess a c = true := by
 intro a
 induction a with
 | nil => intro b c h1 h2; cases b with
  | nil => simp [Op.bytesLess] at h1
  | cons y b => cases c with
   | nil => simp [Op.bytesLess] at h2
   | cons z c => rfl
 | cons x a ih =>
  intro b c h1 h2
  cases b with
  | nil => simp [Op.bytesLess] at h1
  | cons y b => cases c with
   | nil => simp [Op.bytesLess] at h2
   | cons z c =>
    simp only [Op.bytesLess, Bool.or_eq_true, Bool.and_eq_true, decide_eq_true_eq, beq_iff_eq, UInt8.lt_iff_toNat_lt] at h1 h2 ⊢
    rcases h1 with h1 | ⟨rfl, h1⟩
    ·rcases h2 with h2 | ⟨rfl, h2⟩
     ·exact .inl (by omega)
     ·exact .inl h1
    ·rcases h2 with h2 | ⟨rfl, h2⟩
     ·exact .inl h2
     ·exact .inr ⟨rfl, ih b c h1 h2⟩
theorem bl_tri : ∀ a b : List UInt8, Op.bytesLess a b = false → Op.bytesLess b a = false → a = b := by
 intro a
 induction a with
 | nil => intro b h1 h2; cases b with
  | nil => rfl
  | cons y b => simp [Op.bytesLess] at h1
 | cons x a ih =>
  intro b h1 h2
  cases b with
  | nil => simp [Op.bytesLess] at h2
  | cons y b =>
   simp only [Op.bytesLess, Bool.or_eq_false_iff, Bool.and_eq_false_iff, decide_eq_false_iff_not, beq_eq_false_iff_ne, UInt8.lt_iff_toNat_lt] at h1 h2
   have hxy : x = y := UInt8.toNat_inj.1 (by omega)
   subst hxy
   rcases h1.2 with h | h
   ·exact absurd rfl h
   ·rcases h2.2 with h' | h'
    ·exact absurd rfl h'
    ·rw [ih b h h']
theorem lt8_trans {a b c : List UInt8} (h1 : lt8 a b = true) (h2 : lt8 b c = true) : lt8 a c = true := by
 simp only [lt8] at *
 exact bl_trans _ _ _ h1 h2
theorem lt8_tri {a b : List UInt8} (h1 : lt8 a b = false) (h2 : lt8 b a = false) : a = b := by
 simp only [lt8] at *
 exact bl_tri _ _ h1 h2
theorem Xj : ∀ a, vo a a = false := by
 intro a
 induction a with
 | nil => rfl
 | cons x a ih => simp [vo, ih]
theorem lessL_trans : ∀ a b c, vo a b = true → vo b c = true → vo a c = true := by
 intro a
 induction a with
 | nil =>
  intro b c h1 h2
  cases b with
  | nil => simp [vo] at h1
  | cons y b => cases c with
   | nil => simp [vo] at h2
   | cons z c => rfl
 | cons x a ih =>
  intro b c h1 h2
  cases b with
  | nil => simp [vo] at h1
  | cons y b => cases c with
   | nil => simp [vo] at h2
   | cons z c =>
    simp only [vo] at h1 h2 ⊢
    by_cases hxy : x = y
    ·subst hxy
     simp only [if_true] at h1
     by_cases hxz : x = z
     ·subst hxz
      simp only [if_true] at h2 ⊢
      exact ih b c h1 h2
     ·simp only [hxz, if_false] at h2 ⊢; exact h2
    ·simp only [hxy, if_false] at h1
     by_cases hyz : y = z
     ·subst hyz
      simp only [hxy, if_false]; exact h1
     ·simp only [hyz, if_false] at h2
      have h3 := lt8_trans h1 h2
      by_cases hxz : x = z
      ·subst hxz; rw [VN] at h3; cases h3
      ·simp only [hxz, if_false]; exact h3
theorem lessL_tri : ∀ a b, vo a b = false → vo b a = false → a = b := by
 intro a
 induction a with
 | nil =>
  intro b h1 h2
  cases b with
  | nil => rfl
  | cons y b => simp [vo] at h1
 | cons x a ih =>
  intro b h1 h2
  cases b with
  | nil => simp [vo] at h2
  | cons y b =>
   simp only [vo] at h1 h2
   by_cases hxy : x = y
   ·subst hxy
    simp only [if_true] at h1 h2
    rw [ih b h1 h2]
   ·have hyx : ¬ y = x := fun e => hxy e.symm
    simp only [hxy, hyx, if_false] at h1 h2
    exact absurd (lt8_tri h1 h2) hxy
def ltP (a b : List UInt8) : Bool := vo (cut 47 a) (cut 47 b)
theorem ju (a : List UInt8) : ltP a a = false := Xj _
theorem jz {a b c : List UInt8} (h1 : ltP a b = true) (h2 : ltP b c = true) : ltP a c = true := lessL_trans _ _ _ h1 h2
theorem VO {a b : List UInt8} (h1 : ltP a b = false) (h2 : ltP b a = false) : a = b := cut_inj (lessL_tri _ _ h1 h2)
theorem Qe {a b : List UInt8} (h : ltP a b = true) : ltP b a = false := by
 rcases qw (ltP b a) with h2 | h2
 ·have := jz h h2; rw [ju] at this; cases this
 ·exact h2
theorem Qr {a b : List UInt8} (h : ltP a b = true) : a ≠ b := fun e => by subst e; rw [ju] at h; cases h
def vV (l : List (List UInt8)) : Prop := l.Pairwise fun a b => ltP a b = true
theorem vV.uniq : ∀ {a b : List (List UInt8)}, vV a → vV b → (∀ x, x ∈ a ↔ x ∈ b) → a = b := by
 intro a
 induction a with
 | nil =>
  intro b _ _ h
  cases b with
  | nil => rfl
  | cons y b => exact absurd ((h y).2 (List.mem_cons_self ..)) (by simp)
 | cons x a ih =>
  intro b ha hb h
  cases b with
  | nil => exact absurd ((h x).1 (List.mem_cons_self ..)) (by simp)
  | cons y b =>
   have ha' := List.pairwise_cons.1 ha
   have hb' := List.pairwise_cons.1 hb
   have hxy : x = y := by
    rcases List.mem_cons.1 ((h x).1 (List.mem_cons_self ..)) with e | hx
    ·exact e
    ·rcases List.mem_cons.1 ((h y).2 (List.mem_cons_self ..)) with e | hy
     ·exact e.symm
     ·have h1 := hb'.1 x hx
      have h2 := ha'.1 y hy
      rw [Qe h1] at h2; cases h2
   subst hxy
   congr 1
   refine ih ha'.2 hb'.2 fun z => ?_
   constructor
   ·intro hz
    rcases List.mem_cons.1 ((h z).1 (List.mem_cons_of_mem _ hz)) with e | hz'
    ·subst e; exact absurd rfl (Qr (ha'.1 z hz))
    ·exact hz'
   ·intro hz
    rcases List.mem_cons.1 ((h z).2 (List.mem_cons_of_mem _ hz)) with e | hz'
    ·subst e; exact absurd rfl (Qr (hb'.1 z hz))
    ·exact hz'
theorem Y1 {α : Type} [Inhabited α] (f : α → List UInt8) {l : List α} (h : ∀ i, 0 < i → i < l.length → ltP (f (l.getD (i - 1) default)) (f (l.getD i default)) = true) : vV (l.map f) := by
 unfold vV
 rw [List.pairwise_map, List.pairwise_iff_getElem]
 intro i j hi hj hij
 obtain ⟨d, rfl⟩ : ∃ d, j = i + 1 + d := ⟨j - i - 1, by omega⟩
 induction d with
 | zero =>
  have := h (i + 1) (by omega) hj
  rw [ym hj, show i + 1 - 1 = i by omega, ym hi] at this
  exact this
 | succ d ih =>
  have h1 := ih (by omega) (by omega)
  have h2 := h (i + 1 + (d + 1)) (by omega) hj
  rw [ym hj, show i + 1 + (d + 1) - 1 = i + 1 + d by omega, ym (by omega)] at h2
  exact jz h1 h2
theorem Vr {x : List UInt8} {l : List (List UInt8)} (h : vV (x :: l)) : ∀ z ∈ l, ltP x z = true := (List.pairwise_cons.1 h).1
theorem VR {x : List UInt8} {l : List (List UInt8)} (h : vV (x :: l)) : vV l := (List.pairwise_cons.1 h).2
def JT (l : List (List UInt8)) (p : List UInt8) : List (List UInt8) := l.filter (fun x => ltP x p) ++ p :: l.filter (fun x => ltP p x)
theorem insP_rise {l : List (List UInt8)} (h : vV l) (p : List UInt8) : vV (JT l p) := by
 unfold JT vV
 rw [List.pairwise_append, List.pairwise_cons]
 refine ⟨List.Pairwise.filter _ h, ⟨fun z hz => (List.mem_filter.1 hz).2, List.Pairwise.filter _ h⟩, ?_⟩
 intro u hu v hv
 have h1 := (List.mem_filter.1 hu).2
 rcases List.mem_cons.1 hv with rfl | hv
 ·exact h1
 ·exact jz h1 (List.mem_filter.1 hv).2
theorem insP_mem (l : List (List UInt8)) (p z : List UInt8) : z ∈ JT l p ↔ z = p ∨ z ∈ l := by
 unfold JT
 rw [List.mem_append, List.mem_cons, List.mem_filter, List.mem_filter]
 constructor
 ·rintro (h | h | h)
  ·exact .inr h.1
  ·exact .inl h
  ·exact .inr h.1
 ·rintro (h | h)
  ·exact .inr (.inl h)
  ·rcases qw (ltP z p) with h1 | h1
   ·exact .inl ⟨h, h1⟩
   ·rcases qw (ltP p z) with h2 | h2
    ·exact .inr (.inr ⟨h, h2⟩)
    ·exact .inr (.inl (VO h1 h2))
def VQ (l : List (List UInt8)) : List (List UInt8) := l.foldl JT []
theorem GD : ∀ (l acc : List (List UInt8)), vV acc → vV (l.foldl JT acc) ∧ ∀ z, z ∈ l.foldl JT acc ↔ z ∈ l ∨ z ∈ acc := by
 intro l
 induction l with
 | nil => intro acc h; exact ⟨h, fun z => by simp⟩
 | cons x l ih =>
  intro acc h
  obtain ⟨h1, h2⟩ := ih (JT acc x) (insP_rise h x)
  refine ⟨h1, fun z => ?_⟩
  rw [List.foldl_cons, h2, insP_mem, List.mem_cons]
  constructor
  ·rintro (h | h | h)
   ·exact .inl (.inr h)
   ·exact .inl (.inl h)
   ·exact .inr h
  ·rintro ((h | h) | h)
   ·exact .inr (.inl h)
   ·exact .inl h
   ·exact .inr (.inr h)
theorem Vq (l : List (List UInt8)) : vV (VQ l) := (GD l [] List.Pairwise.nil).1
theorem Gn (l : List (List UInt8)) (z : List UInt8) : z ∈ VQ l ↔ z ∈ l := by
 rw [VQ, (GD l [] List.Pairwise.nil).2]; simp
theorem insP_len (l : List (List UInt8)) (p : List UInt8) : (JT l p).length ≤ l.length + 1 := by
 unfold JT
 have : (l.filter fun x => ltP x p).length + (l.filter fun x => ltP p x).length ≤ l.length := by
  induction l with
  | nil => simp
  | cons x l ih =>
   rcases qw (ltP x p) with h1 | h1
   ·have h2 := Qe h1
    simp [h1, h2]; omega
   ·rcases qw (ltP p x) with h2 | h2 <;> simp [h1, h2] <;> omega
 simp only [List.length_append, List.length_cons]; omega
theorem riseOf_len (l : List (List UInt8)) : (VQ l).length ≤ l.length := by
 have : ∀ (l acc : List (List UInt8)), (l.foldl JT acc).length ≤ l.length + acc.length := by
  intro l
  induction l with
  | nil => intro acc; simp
  | cons x l ih =>
   intro acc
   have h1 := ih (JT acc x)
   have h2 := insP_len acc x
   simp only [List.foldl_cons, List.length_cons]; omega
 have := this l []
 simpa [VQ] using this
def vC (ls : List (List Rec)) : List (List UInt8) := VQ (ls.flatten.map (·.path))
theorem drop_gt {α : Type} [Inhabited α] {l : List α} {i : Nat} (h : i < l.length) : l.drop i = gt l (i : Int) :: l.drop (i + 1) := by
 rw [List.drop_eq_getElem_cons h, yh, ym h]
def qZ.b2 (a0 : List (List Rec)) (x11_9 : Int) : List (List UInt8) × Int → Option (Step (Step (List (List UInt8)) (List (List UInt8) × Int) (List (List UInt8))) (List (List UInt8) × Int) (List (List UInt8))) :=
 fun q => match q with
 | (x3_36, x17_38) => bif (decide (x17_38 < ((gt a0 x11_9).length : Int))) then (bif inR x17_38 (gt a0 x11_9).length then (bif decide ((x3_36.length + ([(gt (gt a0 x11_9) x17_38).path] : List (List UInt8)).length) * 16 ≤ 140737488355328) then (some (.nxt (x3_36 ++ ([(gt (gt a0 x11_9) x17_38).path] : List (List UInt8)), IntKind.wrap .i64 (x17_38 + 1)))) else none) else none) else (some (.brk x3_36))
def qZ.b1 (k : Nat) (a0 : List (List Rec)) : List (List UInt8) × Int → Option (Step (List (List UInt8)) (List (List UInt8) × Int) (List (List UInt8))) :=
  fun q => match q with
  | (x3_7, x11_9) => bif (decide (x11_9 < (a0.length : Int))) then (bif inR x11_9 a0.length then ((qr (qZ.b2 a0 x11_9) k (x3_7, 0)).bind fun z => match z with | .inl t => some t | .inr x3_42 => some (.nxt (x3_42, IntKind.wrap .i64 (x11_9 + 1)))) else none) else (some (.brk x3_7))
def qZ.sh (k : Nat) (a0 : List (List Rec)) : Option (List (List UInt8)) :=
  (qr (qZ.b1 k a0) k (([] : List (List UInt8)), 0)).bind fun z => match z with | .inl t => some t | .inr x3_13 => bif decide (∀ x ∈ x3_13, x.length ≤ 1048576) then (bif decide (x3_13.length ≤ 4611686018427387903) then (some (VQ x3_13)) else none) else none
theorem qZ.in {a0 : List (List Rec)} {x : Nat} (hg : (gt a0 (x : Int)).length ≤ 1048576) : ∀ (m i K : Nat) (acc : List (List UInt8)), i + m = (gt a0 (x : Int)).length → m < K → acc.length + m ≤ 8000000 → qr (qZ.b2 a0 (x : Int)) K (acc, (i : Int)) = some (.inr (acc ++ ((gt a0 (x : Int)).drop i).map (·.path))) := by
 intro m
 induction m with
 | zero =>
  intro i K acc hi hK _
  obtain ⟨K, rfl⟩ : ∃ j, K = j + 1 := ⟨K - 1, by omega⟩
  have d1 : decide ((i : Int) < ((gt a0 (x : Int)).length : Int)) = false := decide_eq_false (by omega)
  have hd : (gt a0 (x : Int)).drop i = [] := List.drop_eq_nil_of_le (by omega)
  rw [qr, hd]
  simp only [qZ.b2, d1, cond_false, List.map_nil, List.append_nil]; rfl
 | succ m ih =>
  intro i K acc hi hK hb
  obtain ⟨K, rfl⟩ : ∃ j, K = j + 1 := ⟨K - 1, by omega⟩
  have hlt : i < (gt a0 (x : Int)).length := by omega
  have d1 : decide ((i : Int) < ((gt a0 (x : Int)).length : Int)) = true := decide_eq_true (by omega)
  have e1 : ∀ z : List UInt8, decide ((acc.length + ([z] : List (List UInt8)).length) * 16 ≤ 140737488355328) = true := fun z => decide_eq_true (by simp; omega)
  have w1 : IntKind.wrap .i64 ((i : Int) + 1) = ((i + 1 : Nat) : Int) := by rw [wrap_small (by omega) (by omega)]; omega
  have hI := ih (i + 1) K (acc ++ [(gt (gt a0 (x : Int)) (i : Int)).path]) (by omega) (by omega) (by simp; omega)
  rw [qr, drop_gt hlt]
  simp only [qZ.b2, d1, cond_true, qX hlt, e1, w1]
  refine hI.trans ?_
  simp
theorem qZ.out {a0 : List (List Rec)} (h0 : a0.length ≤ 5) (h1 : ∀ l ∈ a0, l.length ≤ 1048576) : ∀ (m i K : Nat) (acc : List (List UInt8)), i + m = a0.length → m < K → acc.length ≤ i * 1048576 → qr (qZ.b1 1048577 a0) K (acc, (i : Int)) = some (.inr (acc ++ ((a0.drop i).flatten).map (·.path))) := by
 intro m
 induction m with
 | zero =>
  intro i K acc hi hK _
  obtain ⟨K, rfl⟩ : ∃ j, K = j + 1 := ⟨K - 1, by omega⟩
  have d1 : decide ((i : Int) < (a0.length : Int)) = false := decide_eq_false (by omega)
  have hd : a0.drop i = [] := List.drop_eq_nil_of_le (by omega)
  rw [qr]
  simp only [qZ.b1, d1, cond_false, hd, List.flatten_nil, List.map_nil, List.append_nil]; rfl
 | succ m ih =>
  intro i K acc hi hK hb
  obtain ⟨K, rfl⟩ : ∃ j, K = j + 1 := ⟨K - 1, by omega⟩
  have hlt : i < a0.length := by omega
  have hli : (gt a0 (i : Int)).length ≤ 1048576 := by rw [yh, ym hlt]; exact h1 _ (List.getElem_mem hlt)
  have d1 : decide ((i : Int) < (a0.length : Int)) = true := decide_eq_true (by omega)
  have w1 : IntKind.wrap .i64 ((i : Int) + 1) = ((i + 1 : Nat) : Int) := by rw [wrap_small (by omega) (by omega)]; omega
  have hin := qZ.in hli (gt a0 (i : Int)).length 0 1048577 acc (by omega) (by omega) (by omega)
  rw [List.drop_zero] at hin
  have hin' : qr (qZ.b2 a0 (i : Int)) 1048577 (acc, 0) = some (.inr (acc ++ (gt a0 (i : Int)).map (·.path))) := hin
  have hI := ih (i + 1) K (acc ++ (gt a0 (i : Int)).map (·.path)) (by omega) (by omega) (by simp only [List.length_append, List.length_map]; omega)
  rw [qr]
  simp only [qZ.b1, d1, cond_true, qX hlt, hin', Option.bind_some, w1]
  refine hI.trans ?_
  rw [drop_gt hlt]
  simp
theorem qZ.eq (a0 : List (List Rec)) (h0 : a0.length ≤ 5) (h1 : ∀ l ∈ a0, l.length ≤ 1048576) (h2 : ∀ l ∈ a0, ∀ x ∈ l, x.path.length ≤ 1048576) : ∃ k, qZ.sh k a0 = some (vC a0) := by
 refine ⟨1048577, ?_⟩
 unfold qZ.sh
 have ho := qZ.out h0 h1 a0.length 0 1048577 [] (by omega) (by omega) (by simp)
 rw [List.drop_zero, List.nil_append] at ho
 have ho' : qr (qZ.b1 1048577 a0) 1048577 ([], 0) = some (.inr (a0.flatten.map (·.path))) := ho
 have e1 : decide (∀ x ∈ a0.flatten.map (·.path), x.length ≤ 1048576) = true := decide_eq_true fun x hx => by
  obtain ⟨r, hr, rfl⟩ := List.mem_map.1 hx
  obtain ⟨l, hl, hrl⟩ := List.mem_flatten.1 hr
  exact h2 l hl r hrl
 have hlen : ∀ (ls : List (List Rec)), (∀ l ∈ ls, l.length ≤ 1048576) → ls.flatten.length ≤ ls.length * 1048576 := by
  intro ls
  induction ls with
  | nil => intro _; simp
  | cons l ls ih =>
   intro h
   have a1 := h l (List.mem_cons_self ..)
   have a2 := ih fun x hx => h x (List.mem_cons_of_mem _ hx)
   simp only [List.flatten_cons, List.length_append, List.length_cons]; omega
 have e2 : decide ((a0.flatten.map (·.path)).length ≤ 4611686018427387903) = true := decide_eq_true (by have := hlen a0 h1; rw [List.length_map]; omega)
 rw [ho']
 simp only [Option.bind_some, e1, e2, cond_true]
 rfl
section
variable {α : Type} (f : α → List UInt8)
def yr (l : List α) (p : List UInt8) : Option α := l.find? fun x => decide (f x = p)
theorem yV (x : α) (l : List α) (p : List UInt8) : yr f (x :: l) p = if f x = p then some x else yr f l p := by
 unfold yr
 by_cases h : f x = p <;> simp [h]
theorem jB {l : List α} {p : List UInt8} : yr f l p = none ↔ p ∉ l.map f := by
 induction l with
 | nil => simp [yr]
 | cons x l ih =>
  rw [yV]
  by_cases h : f x = p
  ·simp [h]
  ·rw [if_neg h, ih]
   simp [Ne.symm h]
theorem Gw {l : List α} {p : List UInt8} {x : α} (h : yr f l p = some x) : x ∈ l ∧ f x = p := by
 have h1 := List.mem_of_find?_eq_some h
 have h2 := List.find?_some h
 exact ⟨h1, of_decide_eq_true h2⟩
theorem VG {l : List α} (h : vV (l.map f)) : ∀ x ∈ l, yr f l (f x) = some x := by
 induction l with
 | nil => intro x hx; cases hx
 | cons y l ih =>
  intro x hx
  rw [yV]
  rcases List.mem_cons.1 hx with rfl | hx
  ·rw [if_pos rfl]
  ·have hlt : ltP (f y) (f x) = true := Vr h (f x) (List.mem_map_of_mem hx)
   rw [if_neg (Qr hlt)]
   exact ih (VR h) x hx
theorem Yg {l : List α} (h : vV (l.map f)) : (l.map f).filterMap (yr f l) = l := by
 rw [List.filterMap_map]
 have : ∀ m : List α, (∀ x ∈ m, x ∈ l) → m.filterMap (yr f l ∘ f) = m := by
  intro m
  induction m with
  | nil => intro _; rfl
  | cons x m ih =>
   intro hm
   rw [List.filterMap_cons]
   have h1 : (yr f l ∘ f) x = some x := VG f h x (hm x (List.mem_cons_self ..))
   rw [h1]
   simp only
   rw [ih fun y hy => hm y (List.mem_cons_of_mem _ hy)]
 exact this l fun _ h => h
theorem QJ {l : List α} {p : List UInt8} : p ∈ l.map f ↔ yr f l p ≠ none := by
 constructor
 ·intro h e; exact (jB f).1 e h
 ·intro h
  by_cases h2 : p ∈ l.map f
  ·exact h2
  ·exact absurd ((jB f).2 h2) h
theorem YS {a b : List α} (ha : vV (a.map f)) (hb : vV (b.map f)) (h : ∀ p, yr f a p = yr f b p) : a = b := by
 have hm : a.map f = b.map f := vV.uniq ha hb fun p => by rw [QJ, QJ, h]
 rw [← Yg f ha, ← Yg f hb, hm]
 congr 1
 funext p
 exact h p
theorem Gg [Inhabited α] (l : List α) (p : List UInt8) : (0 ≤ jd (fun x => decide (f x = p)) l ↔ yr f l p ≠ none) ∧ ∀ x, yr f l p = some x → gt l (jd (fun x => decide (f x = p)) l) = x := by
 induction l with
 | nil => simp [jd, yr]
 | cons y l ih =>
  rw [yV]
  by_cases h : f y = p
  ·simp only [jd, h, decide_true, if_true]
   exact ⟨by simp, fun x hx => by rw [← Option.some.inj hx]; rfl⟩
  ·simp only [jd, h, decide_false, Bool.false_eq_true, if_false]
   have hge := findI_ge (fun x => decide (f x = p)) l
   by_cases hm : jd (fun x => decide (f x = p)) l = -1
   ·rw [if_pos hm]
    rw [hm] at ih
    refine ⟨ih.1, fun x hx => ?_⟩
    have : yr f l p = none := by
     by_cases e : yr f l p = none
     ·exact e
     ·have := ih.1.2 e; omega
    rw [this] at hx; cases hx
   ·rw [if_neg hm]
    obtain ⟨n, hn⟩ : ∃ n : Nat, jd (fun x => decide (f x = p)) l = n := ⟨(jd (fun x => decide (f x = p)) l).toNat, by omega⟩
    rw [hn] at ih ⊢
    refine ⟨⟨fun _ => ih.1.1 (by omega), fun _ => by omega⟩, fun x hx => ?_⟩
    have := ih.2 x hx
    have e : ((n : Int) + 1) = ((n + 1 : Nat) : Int) := by omega
    rw [e, yh, List.getD_cons_succ]
    exact this
end
section
variable {α : Type} (f : α → List UInt8) (hl hu : α → Option α) (hb : α → α → Option α)
def YP : List α → List α → List α
 | [], b => b.filterMap hu
 | x :: a, [] => (x :: a).filterMap hl
 | x :: a, y :: b =>
  if ltP (f x) (f y) then (hl x).toList ++ YP a (y :: b)
  else if ltP (f y) (f x) then (hu y).toList ++ YP (x :: a) b
  else (hb x y).toList ++ YP a b
termination_by a b => a.length + b.length
def mrgO (a b : Option α) : Option α := match a, b with
 | none, none => none
 | some x, none => hl x
 | none, some y => hu y
 | some x, some y => hb x y
theorem Yq {x : Option α} {q : List UInt8} (hx : ∀ z, x = some z → f z = q) (l : List α) (hq : q ∉ l.map f) (p : List UInt8) : yr f (x.toList ++ l) p = if q = p then x else yr f l p := by
 cases x with
 | none =>
  by_cases e : q = p
  ·subst e; simp [(jB f).2 hq]
  ·simp [e]
 | some z =>
  have := hx z rfl
  show yr f (z :: l) p = _
  rw [yV, this]
theorem Jf {x : Option α} {q : List UInt8} (hx : ∀ z, x = some z → f z = q) {l : List α} (hl : vV (l.map f)) (hlt : ∀ p ∈ l.map f, ltP q p = true) : vV ((x.toList ++ l).map f) := by
 cases x with
 | none => exact hl
 | some z =>
  refine List.pairwise_cons.2 ⟨fun p hp => ?_, hl⟩
  rw [hx z rfl]; exact hlt p hp
theorem mrgF_spec (h1 : ∀ x z, hl x = some z → f z = f x) (h2 : ∀ y z, hu y = some z → f z = f y) (h3 : ∀ x y z, f x = f y → hb x y = some z → f z = f x) :
  ∀ (n : Nat) (a b : List α), a.length + b.length ≤ n → vV (a.map f) → vV (b.map f) → vV ((YP f hl hu hb a b).map f) ∧ ∀ p, yr f (YP f hl hu hb a b) p = mrgO hl hu hb (yr f a p) (yr f b p) := by
 have one : ∀ (h : α → Option α) (hh : ∀ x z, h x = some z → f z = f x) (l : List α), vV (l.map f) → vV ((l.filterMap h).map f) ∧ ∀ p, yr f (l.filterMap h) p = (yr f l p).bind h := by
  intro h hh l
  induction l with
  | nil => intro _; exact ⟨List.Pairwise.nil, fun p => rfl⟩
  | cons x l ih =>
   intro hr
   obtain ⟨i1, i2⟩ := ih (VR hr)
   have hq := Vr hr
   have hsub : ∀ p ∈ (l.filterMap h).map f, ltP (f x) p = true := by
    intro p hp
    have : yr f (l.filterMap h) p ≠ none := (QJ f).1 hp
    rw [i2] at this
    by_cases hm : p ∈ l.map f
    ·exact hq p hm
    ·rw [(jB f).2 hm] at this; exact absurd rfl this
   have e : (x :: l).filterMap h = (h x).toList ++ l.filterMap h := by cases hx : h x <;> simp [hx]
   rw [e]
   refine ⟨Jf f (hh x) i1 hsub, fun p => ?_⟩
   rw [Yq f (hh x) _ (fun hm => Qr (hsub _ hm) rfl), yV, i2]
   by_cases ep : f x = p <;> simp [ep]
 intro n
 induction n with
 | zero =>
  intro a b hn ha hb'
  have e1 : a = [] := List.eq_nil_of_length_eq_zero (by omega)
  have e2 : b = [] := List.eq_nil_of_length_eq_zero (by omega)
  subst e1; subst e2
  rw [YP]
  exact ⟨List.Pairwise.nil, fun p => rfl⟩
 | succ n ih =>
  intro a b hn ha hb'
  cases a with
  | nil =>
   rw [YP]
   obtain ⟨i1, i2⟩ := one hu h2 b hb'
   refine ⟨i1, fun p => ?_⟩
   rw [i2]
   show _ = mrgO hl hu hb none _
   cases yr f b p <;> rfl
  | cons x a =>
   cases b with
   | nil =>
    rw [YP]
    obtain ⟨i1, i2⟩ := one hl h1 (x :: a) ha
    refine ⟨i1, fun p => ?_⟩
    rw [i2]
    show _ = mrgO hl hu hb _ none
    cases yr f (x :: a) p <;> rfl
   | cons y b =>
    simp only [List.length_cons] at hn
    have ha1 := Vr ha
    have hb1 := Vr hb'
    have ha2 : vV (a.map f) := VR ha
    have hb2 : vV (b.map f) := VR hb'
    have mem : ∀ (a b : List α) (p : List UInt8), mrgO hl hu hb (yr f a p) (yr f b p) ≠ none → p ∈ a.map f ∨ p ∈ b.map f := by
     intro a b p h
     by_cases m1 : p ∈ a.map f
     ·exact .inl m1
     ·by_cases m2 : p ∈ b.map f
      ·exact .inr m2
      ·rw [(jB f).2 m1, (jB f).2 m2] at h; exact absurd rfl h
    rw [YP]
    rcases qw (ltP (f x) (f y)) with hl1 | hl1
    ·obtain ⟨i1, i2⟩ := ih a (y :: b) (by simp only [List.length_cons]; omega) ha2 hb'
     have hby : ∀ p ∈ (y :: b).map f, ltP (f x) p = true := by
      intro p hp
      rcases List.mem_cons.1 hp with rfl | hp
      ·exact hl1
      ·exact jz hl1 (hb1 p hp)
     have hlt : ∀ p ∈ (YP f hl hu hb a (y :: b)).map f, ltP (f x) p = true := by
      intro p hp
      have h := (QJ f).1 hp
      rw [i2] at h
      rcases mem _ _ _ h with m | m
      ·exact ha1 p m
      ·exact hby p m
     rw [if_pos hl1]
     refine ⟨Jf f (h1 x) i1 hlt, fun p => ?_⟩
     rw [Yq f (h1 x) _ (fun hm => Qr (hlt _ hm) rfl), yV f x, i2]
     by_cases ep : f x = p
     ·rw [if_pos ep, if_pos ep]
      have : yr f (y :: b) p = none := (jB f).2 fun hm => Qr (hby p hm) ep
      rw [this]; rfl
     ·rw [if_neg ep, if_neg ep]
    ·have hln : ¬ ltP (f x) (f y) = true := by rw [hl1]; simp
     rw [if_neg hln]
     rcases qw (ltP (f y) (f x)) with hr | hr
     ·obtain ⟨i1, i2⟩ := ih (x :: a) b (by simp only [List.length_cons]; omega) ha hb2
      have hay : ∀ p ∈ (x :: a).map f, ltP (f y) p = true := by
       intro p hp
       rcases List.mem_cons.1 hp with rfl | hp
       ·exact hr
       ·exact jz hr (ha1 p hp)
      have hlt : ∀ p ∈ (YP f hl hu hb (x :: a) b).map f, ltP (f y) p = true := by
       intro p hp
       have h := (QJ f).1 hp
       rw [i2] at h
       rcases mem _ _ _ h with m | m
       ·exact hay p m
       ·exact hb1 p m
      rw [if_pos hr]
      refine ⟨Jf f (h2 y) i1 hlt, fun p => ?_⟩
      rw [Yq f (h2 y) _ (fun hm => Qr (hlt _ hm) rfl), yV f y, i2]
      by_cases ep : f y = p
      ·rw [if_pos ep, if_pos ep]
       have : yr f (x :: a) p = none := (jB f).2 fun hm => Qr (hay p hm) ep
       rw [this]; rfl
      ·rw [if_neg ep, if_neg ep]
     ·have hrn : ¬ ltP (f y) (f x) = true := by rw [hr]; simp
      have hxy : f x = f y := VO hl1 hr
      rw [if_neg hrn]
      obtain ⟨i1, i2⟩ := ih a b (by omega) ha2 hb2
      have hlt : ∀ p ∈ (YP f hl hu hb a b).map f, ltP (f x) p = true := by
       intro p hp
       have h := (QJ f).1 hp
       rw [i2] at h
       rcases mem _ _ _ h with m | m
       ·exact ha1 p m
       ·rw [hxy]; exact hb1 p m
      have h3' := fun z => h3 x y z hxy
      refine ⟨Jf f h3' i1 hlt, fun p => ?_⟩
      rw [Yq f h3' _ (fun hm => Qr (hlt _ hm) rfl), yV f x, yV f y, i2, ← hxy]
      by_cases ep : f x = p
      ·rw [if_pos ep, if_pos ep, if_pos ep]; rfl
      ·rw [if_neg ep, if_neg ep, if_neg ep]
end
end Go.UL
