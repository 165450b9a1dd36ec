import Derived.Test.YtdhmlillkbjjjaaGreatDoorqP30
set_option linter.unusedVariables false
set_option linter.unusedSimpArgs false
namespace Go.UL
open Go.RowKit
def j5 (l : List Rec) (p : List UInt8) : Option (Option Nd) := match vD l p with
 | some r => some (Yv r)
 | none => if yc l p then some none else none
theorem seen_view (l : List Rec) (t : List Nd) (p : List UInt8) : seenL l t p = (j5 l p).getD (yb t p) := by
 unfold seenL j5
 cases vD l p with
 | some r => rfl
 | none => cases yc l p <;> rfl
theorem ancs_cons {p : List UInt8} (h : qe p ≠ []) : jo p = qe p :: jo (qe p) := by rw [Qj, if_neg h]
theorem JC {p x y : List UInt8} (hp : qE p = true) (hx : x ∈ jo p) (hy : y ∈ jo x) : y ∈ jo p := V6 hp (VK (Qa hx) (Qa hy))
theorem ancs_ok {p x : List UInt8} (hp : qE p = true) (hx : x ∈ jo p) : qE x = true := JX hp (Qa hx)
theorem ancs_depth {p x : List UInt8} (hp : qE p = true) (hx : x ∈ jo p) : (cut 47 x).length < 4 := by
 have h1 := Qn (Qa hx)
 have h2 := J6 hp
 omega
theorem Sheet.path {l : List Rec} (hs : Sheet l) {p : List UInt8} {r : Rec} (h : vD l p = some r) : qE p = true := by
 obtain ⟨h1, h2⟩ := js h
 rw [← h2]; exact yr (hs.ok r h1)
theorem Sheet.fault {l : List Rec} (hs : Sheet l) {p : List UInt8} {r : Rec} (h : vD l p = some r) : qz r = 0 := hs.ok r (js h).1
theorem Sheet.anc {l : List Rec} (hs : Sheet l) {p x : List UInt8} {r : Rec} (h : vD l p = some r) (hx : x ∈ jo p) : ∃ m, vD l x = some m ∧ m.kind = 3 := by
 obtain ⟨h1, h2⟩ := js h
 obtain ⟨m, hm, e, hk⟩ := hs.above (n := r) h1 (p := x) (by rw [h2]; exact Qa hx)
 exact ⟨m, by rw [← e]; exact Yw hs.rise hm, hk⟩
theorem pigeon {α : Type} [DecidableEq α] : ∀ (l m : List α), l.Nodup → (∀ x ∈ l, x ∈ m) → l.length ≤ m.length := by
 intro l
 induction l with
 | nil => intro m _ _; simp
 | cons x l ih =>
  intro m hd hs
  have hx := hs x (by simp)
  have h1 := List.nodup_cons.1 hd
  have h2 := ih (m.erase x) h1.2 fun y hy => (List.mem_erase_of_ne (fun e => h1.1 (by rw [← e]; exact hy))).2 (hs y (by simp [hy]))
  rw [List.length_erase_of_mem hx] at h2
  have : 0 < m.length := List.length_pos_of_mem hx
  simp only [List.length_cons]; omega
def Yo (i : Nat) : List UInt8 := [122, UInt8.ofNat (97 + i / 16), UInt8.ofNat (97 + i % 16)]
theorem freeN_ok : ∀ i, i < 256 → jn (Yo i) = true := by
 have h : (List.range 256).all (fun i => jn (Yo i)) = true := by decide +kernel
 intro i hi
 exact (List.all_eq_true.1 h) i (List.mem_range.2 hi)
theorem freeN_noslash : ∀ i, i < 256 → cut 47 (Yo i) = [Yo i] := by
 have h : (List.range 256).all (fun i => decide (cut 47 (Yo i) = [Yo i])) = true := by decide +kernel
 intro i hi
 exact of_decide_eq_true ((List.all_eq_true.1 h) i (List.mem_range.2 hi))
theorem freeN_inj {i j : Nat} (hi : i < 256) (hj : j < 256) (h : Yo i = Yo j) : i = j := by
 unfold Yo at h
 injection h with _ h
 injection h with h1 h
 injection h with h2 _
 have e1 := congrArg UInt8.toNat h1
 have e2 := congrArg UInt8.toNat h2
 simp only [UInt8.toNat_ofNat'] at e1 e2
 omega
theorem joinL_le : ∀ (l : List (List UInt8)), (∀ x ∈ l, x.length ≤ 8) → (yO l).length ≤ 9 * l.length - 1 := by
 intro l
 induction l with
 | nil => intro _; simp [yO]
 | cons x l ih =>
  intro h
  have h1 := h x (by simp)
  have h2 := ih fun y hy => h y (by simp [hy])
  by_cases e : l = []
  ·subst e; simp [yO]; omega
  ·rw [Vq x e]
   have := List.length_pos_iff.2 e
   simp only [List.length_append, List.length_cons]; omega
theorem GZ {p : List UInt8} (h : qE p = true) : (cut 47 p).length ≤ 4 ∧ ∀ x ∈ cut 47 p, jn x = true := by
 simp only [qE, Bool.and_eq_true, decide_eq_true_eq, List.all_eq_true] at h
 exact ⟨h.2.1, h.2.2⟩
theorem child_ok {x part : List UInt8} (hx : qE x = true) (hd : (cut 47 x).length < 4) (hp : jn part = true) (hc : cut 47 part = [part]) : qE (x ++ 47 :: part) = true ∧ qe (x ++ 47 :: part) = x := by
 have hcut : cut 47 (x ++ 47 :: part) = cut 47 x ++ [part] := by rw [XI, hc]
 obtain ⟨h1, h2⟩ := GZ hx
 have h3 := joinL_le (cut 47 x) fun y hy => JE (h2 y hy)
 rw [Q4] at h3
 have h4 := JE hp
 have hok : qE (x ++ 47 :: part) = true := by
  simp only [qE, Bool.and_eq_true, decide_eq_true_eq, List.all_eq_true, hcut]
  refine ⟨by simp; omega, by simp; omega, fun y hy => ?_⟩
  rcases List.mem_append.1 hy with hy | hy
  ·exact h2 y hy
  ·rw [List.mem_singleton.1 hy]; exact hp
 refine ⟨hok, ?_⟩
 have hb : ve (x ++ 47 :: part) x = true := (QL _ _).2 ⟨[part], by simp, hcut⟩
 obtain ⟨g1, g2 | g2⟩ := GU hok hb
 ·exact g2
 ·have g3 := Qn g2
  rw [XE g1, hcut] at g3
  simp at g3
theorem fresh {a b : List Rec} (hlen : a.length + b.length < 256) {x : List UInt8} (hx : qE x = true) (hd : (cut 47 x).length < 4) :
  ∃ q, qE q = true ∧ qe q = x ∧ vD a q = none ∧ vD b q = none := by
 have key : ∃ i, i < 256 ∧ (x ++ 47 :: Yo i) ∉ a.map (·.path) ++ b.map (·.path) := by
  refine Classical.byContradiction fun hno => ?_
  have hall : ∀ i, i < 256 → (x ++ 47 :: Yo i) ∈ a.map (·.path) ++ b.map (·.path) := fun i hi => Classical.byContradiction fun h => hno ⟨i, hi, h⟩
  have hnd : ((List.range 256).map fun i => x ++ 47 :: Yo i).Nodup := by
   refine List.pairwise_map.2 (List.Pairwise.imp_of_mem (R := fun i j => i < j) (fun {i j} hi hj hlt e => ?_) List.pairwise_lt_range)
   have h1 := List.append_cancel_left e
   injection h1 with _ h1
   have := freeN_inj (List.mem_range.1 hi) (List.mem_range.1 hj) h1
   omega
  have hle := pigeon _ _ hnd fun y hy => by
   obtain ⟨i, hi, rfl⟩ := List.mem_map.1 hy
   exact hall i (List.mem_range.1 hi)
  simp at hle
  omega
 obtain ⟨i, hi, hni⟩ := key
 obtain ⟨h1, h2⟩ := child_ok hx hd (freeN_ok i hi) (freeN_noslash i hi)
 rw [List.mem_append, not_or] at hni
 refine ⟨_, h1, h2, ?_, ?_⟩
 ·cases h : vD a (x ++ 47 :: Yo i) with
  | none => rfl
  | some r => exact absurd (GJ.1 (by rw [h]; simp)) hni.1
 ·cases h : vD b (x ++ 47 :: Yo i) with
  | none => rfl
  | some r => exact absurd (GJ.1 (by rw [h]; simp)) hni.2
theorem look_fm {f : Rec → Option Rec} (hf : ∀ r x, f r = some x → x.path = r.path) {l : List Rec} (h : yi (l.map (·.path))) (p : List UInt8) : vD (l.filterMap f) p = (vD l p).bind f := by
 have h2 := (Gj (fun r : Rec => r.path) f some (fun _ _ => none) hf (fun y z e => by rw [Option.some.inj e]) (fun x y z _ e => by cases e) _ l [] (Nat.le_refl _) h List.Pairwise.nil).2 p
 rw [YX] at h2
 refine h2.trans ?_
 show Xk f some (fun _ _ => none) (vD l p) none = _
 cases vD l p <;> rfl
theorem V3 {l : List Rec} (hs : Sheet l) (p : List UInt8) : vD (jY l) p = (vD l p).bind (jZ l) := look_fm (fun _ _ => Yh) hs.rise p
theorem Xw {l : List Rec} {r : Rec} (h : jg l r.path = false) : jZ l r = some ⟨r.kind, r.path, r.body, r.mode, r.opq && decide ((cut 47 r.path).length < 4)⟩ := by unfold jZ; rw [if_neg (by rw [h]; simp)]
set_option linter.unusedSectionVars false
section
variable {a b : List Rec} (ha : Sheet a) (hb : Sheet b) (hlen : a.length + b.length < 256) (hv : ∀ p, qE p = true → j5 a p = j5 b p)
include ha hb hlen hv
end
theorem Y7 {l : List Rec} (hs : Sheet l) : ∀ (n : Nat) (p : List UInt8), (cut 47 p).length ≤ n → qE p = true → jg (jY l) p = jg l p := by
 intro n
 induction n with
 | zero =>
  intro p hn hp
  have h1 : ∀ x ∈ jo p, False := fun x hx => by have := Qn (Qa hx); omega
  rw [Bool.eq_iff_iff, Qv, Qv]
  exact ⟨fun ⟨x, hx, _⟩ => (h1 x hx).elim, fun ⟨x, hx, _⟩ => (h1 x hx).elim⟩
 | succ n ih =>
  intro p hn hp
  rw [Bool.eq_iff_iff, Qv, Qv]
  constructor
  ·rintro ⟨x, hx, r, hr, ho⟩
   rw [V3 hs] at hr
   cases h0 : vD l x with
   | none => rw [h0] at hr; cases hr
   | some r0 =>
    rw [h0] at hr
    have hr : jZ l r0 = some r := hr
    refine ⟨x, hx, r0, h0, ?_⟩
    unfold jZ at hr
    split at hr
    ·split at hr
     ·cases hr
     ·rw [← Option.some.inj hr] at ho; cases ho
    ·rw [← Option.some.inj hr] at ho
     simp only [Bool.and_eq_true] at ho
     exact ho.1
  ·rintro ⟨x, hx, r0, h0, ho⟩
   have hd := Qn (Qa hx)
   have hx4 := ancs_depth hp hx
   have hi := ih x (by omega) (ancs_ok hp hx)
   rcases ql (jg l x) with hu | hu
   ·rw [hu, Qv] at hi
    obtain ⟨y, hy, r, hr, hro⟩ := hi
    exact ⟨y, JC hp hx hy, r, hr, hro⟩
   ·have e0 := (js h0).2
    refine ⟨x, hx, _, by rw [V3 hs, h0]; exact Xw (by rw [e0]; exact hu), ?_⟩
    simp only [Bool.and_eq_true, decide_eq_true_eq]
    exact ⟨ho, by rw [e0]; exact hx4⟩
theorem JG {l : List Rec} {p : List UInt8} (h : jg l p = true) : yc l p = true := by
 obtain ⟨x, hx, r, hr, ho⟩ := (Qv l p).1 h
 exact (yh l p).2 ⟨x, hx, r, hr, by simp [vB, ho]⟩
theorem Ym {l : List Rec} {r x : Rec} (h : jZ l r = some x) : x.kind = r.kind ∧ x.path = r.path ∧ x.body = r.body ∧ x.mode = r.mode ∧ (x.opq = true → r.opq = true) := by
 unfold jZ at h
 split at h
 ·split at h
  ·cases h
  ·rw [← Option.some.inj h]; exact ⟨rfl, rfl, rfl, rfl, fun h => by cases h⟩
 ·rw [← Option.some.inj h]; exact ⟨rfl, rfl, rfl, rfl, fun h => by simp only [Bool.and_eq_true] at h; exact h.1⟩
theorem cuts_canon {l : List Rec} (hs : Sheet l) {p : List UInt8} (hp : qE p = true) : yc (jY l) p = yc l p := by
 rw [Bool.eq_iff_iff]
 constructor
 ·intro h
  obtain ⟨x, hx, r, hr, ho⟩ := (yh _ _).1 h
  rw [V3 hs] at hr
  cases h0 : vD l x with
  | none => rw [h0] at hr; cases hr
  | some r0 =>
   rw [h0] at hr
   have hr : jZ l r0 = some r := hr
   obtain ⟨k1, _, _, _, k5⟩ := Ym hr
   refine (yh _ _).2 ⟨x, hx, r0, h0, ?_⟩
   unfold vB at ho ⊢
   rw [k1] at ho
   rw [Bool.or_eq_true] at ho ⊢
   exact ho.imp id k5
 ·intro h
  obtain ⟨x, hx, r0, h0, ho⟩ := (yh _ _).1 h
  have e0 := (js h0).2
  rcases ql (jg l x) with hu | hu
  ·have hup : jg l p = true := by
    obtain ⟨y, hy, r, hr, hro⟩ := (Qv _ _).1 hu
    exact (Qv _ _).2 ⟨y, JC hp hx hy, r, hr, hro⟩
   exact JG (by rw [Y7 hs _ p (Nat.le_refl _) hp]; exact hup)
  ·by_cases hk : r0.kind = 3
   ·have hop : r0.opq = true := by simpa [vB, hk] using ho
    exact JG (by rw [Y7 hs _ p (Nat.le_refl _) hp]; exact (Qv _ _).2 ⟨x, hx, r0, h0, hop⟩)
   ·refine (yh _ _).2 ⟨x, hx, _, by rw [V3 hs, h0]; exact Xw (by rw [e0]; exact hu), ?_⟩
    simp [vB, hk]
theorem show_same {r x : Rec} (h1 : x.kind = r.kind) (h2 : x.path = r.path) (h3 : x.body = r.body) (h4 : x.mode = r.mode) : Yv x = Yv r := by
 unfold Yv Qy; rw [h1, h2, h3, h4]
theorem view_canon {l : List Rec} (hs : Sheet l) {p : List UInt8} (hp : qE p = true) : j5 (jY l) p = j5 l p := by
 have hc := cuts_canon hs hp
 have hu := Y7 hs _ p (Nat.le_refl _) hp
 have hl := V3 hs p
 unfold j5
 cases h0 : vD l p with
 | none =>
  rw [h0] at hl
  have hl : vD (jY l) p = none := hl
  rw [hl, hc]
 | some r =>
  rw [h0] at hl
  have hl : vD (jY l) p = jZ l r := hl
  have e0 := (js h0).2
  cases hr : jZ l r with
  | some x =>
   rw [hl, hr]
   obtain ⟨k1, k2, k3, k4, _⟩ := Ym hr
   exact congrArg some (show_same k1 k2 k3 k4)
  | none =>
   rw [hl, hr]
   unfold jZ at hr
   split at hr
   ·rename_i hun
    split at hr
    ·rename_i hk
     rw [e0] at hun
     have := JG (hu.trans hun)
     simp only [this, if_true]
     unfold Yv; rw [if_pos hk]
    ·cases hr
   ·cases hr
theorem canon_Sheet {l : List Rec} (hs : Sheet l) : Sheet (jY l) := by
 have hmem : ∀ x ∈ jY l, ∃ r ∈ l, jZ l r = some x := fun x hx => List.mem_filterMap.1 hx
 refine ⟨(Y8 (fun _ _ => Yh) hs.rise).1, fun x hx => ?_, fun x hx hp => ?_⟩
 ·obtain ⟨r, hr, e⟩ := hmem x hx
  obtain ⟨k1, k2, k3, k4, k5⟩ := Ym e
  have := Yp (hs.ok r hr) x.opq (fun h => recFault_opq (hs.ok r hr) (k5 h))
  rw [← k1, ← k2, ← k3, ← k4] at this
  exact this
 ·obtain ⟨r, hr, e⟩ := hmem x hx
  rw [Yh e] at hp ⊢
  obtain ⟨q, hq, e2, hk⟩ := hs.par r hr hp
  cases hc : jZ l q with
  | none =>
   exfalso
   unfold jZ at hc
   split at hc
   ·rw [if_neg (by omega)] at hc; cases hc
   ·cases hc
  | some y =>
   obtain ⟨k1, k2, _⟩ := Ym hc
   exact ⟨y, List.mem_filterMap.2 ⟨q, hq, hc⟩, by rw [k2, e2], by rw [k1, hk]⟩
theorem QD {a b : List Rec} (ha : Sheet a) (hb : Sheet b) (p : List UInt8) : vD (YH a b) p = match vD a p, vD b p with
  | none, none => none | some x, none => if yc b p then none else some x | none, some y => some y | some x, some y => some (y0 x y) := by
 have h := (Gi ha.rise hb.rise).2 p
 refine h.trans ?_
 cases h1 : vD a p with
 | none =>
  cases h2 : vD b p with
  | none => simp only [h1, h2, Xk]
  | some y => simp only [h1, h2, Xk]
 | some x =>
  have e := (js h1).2
  cases h2 : vD b p with
  | none => simp only [h1, h2, Xk, e]
  | some y => simp only [h1, h2, Xk]
theorem Jx (x y : Rec) : (y0 x y).kind = y.kind ∧ (y0 x y).path = y.path ∧ (y0 x y).body = y.body ∧ (y0 x y).mode = y.mode := by
 unfold y0; split <;> exact ⟨rfl, rfl, rfl, rfl⟩
theorem Jb (x y : Rec) : vB (y0 x y) = (vB y || vB x) := by
 unfold y0
 split
 ·rename_i h; simp [vB, h.1]
  rcases ql (y.opq) with h2 | h2 <;> simp [h2]
  have := h.2
  simpa [vB] using this
 ·rename_i h
  rcases ql (vB x) with h2 | h2
  ·have : y.kind ≠ 3 := fun h3 => h ⟨h3, h2⟩
   simp [vB, this]
  ·rw [h2, Bool.or_false]
theorem cut_anc {l : List Rec} {p x : List UInt8} (hp : qE p = true) (hx : x ∈ jo p) (h : yc l x = true) : yc l p = true := by
 obtain ⟨y, hy, r, hr, hs⟩ := (yh _ _).1 h
 exact (yh _ _).2 ⟨y, JC hp hx hy, r, hr, hs⟩
theorem cuts_two {a b : List Rec} (ha : Sheet a) (hb : Sheet b) {p : List UInt8} (hp : qE p = true) : yc (YH a b) p = (yc b p || yc a p) := by
 rw [Bool.eq_iff_iff, Bool.or_eq_true]
 constructor
 ·intro h
  obtain ⟨x, hx, r, hr, hs⟩ := (yh _ _).1 h
  rw [QD ha hb] at hr
  cases h1 : vD a x with
  | none =>
   cases h2 : vD b x with
   | none => rw [h1, h2] at hr; cases hr
   | some y => rw [h1, h2] at hr; rw [← Option.some.inj hr] at hs; exact .inl ((yh _ _).2 ⟨x, hx, y, h2, hs⟩)
  | some u =>
   cases h2 : vD b x with
   | none =>
    rw [h1, h2] at hr
    rcases ql (yc b x) with hc | hc
    ·exact .inl (cut_anc hp hx hc)
    ·simp only [hc, Bool.false_eq_true, if_false] at hr
     rw [← Option.some.inj hr] at hs
     exact .inr ((yh _ _).2 ⟨x, hx, u, h1, hs⟩)
   | some y =>
    rw [h1, h2] at hr
    rw [← Option.some.inj hr, Jb, Bool.or_eq_true] at hs
    exact hs.imp (fun h => (yh _ _).2 ⟨x, hx, y, h2, h⟩) (fun h => (yh _ _).2 ⟨x, hx, u, h1, h⟩)
 ·intro h
  rcases ql (yc b p) with hc | hc
  ·obtain ⟨x, hx, r, hr, hs⟩ := (yh _ _).1 hc
   cases h1 : vD a x with
   | none => exact (yh _ _).2 ⟨x, hx, r, by rw [QD ha hb, h1, hr], hs⟩
   | some u => exact (yh _ _).2 ⟨x, hx, y0 u r, by rw [QD ha hb, h1, hr], by rw [Jb, hs]; rfl⟩
  ·have h := h.resolve_left (by rw [hc]; simp)
   obtain ⟨x, hx, r, hr, hs⟩ := (yh _ _).1 h
   cases h2 : vD b x with
   | none =>
    have hcx : yc b x = false := by
     rcases ql (yc b x) with g | g
     ·rw [cut_anc hp hx g] at hc; cases hc
     ·exact g
    exact (yh _ _).2 ⟨x, hx, r, by rw [QD ha hb, hr, h2]; simp only [hcx, Bool.false_eq_true, if_false], hs⟩
   | some y => exact (yh _ _).2 ⟨x, hx, y0 r y, by rw [QD ha hb, hr, h2], by rw [Jb, hs]; simp⟩
theorem view_two {a b : List Rec} (ha : Sheet a) (hb : Sheet b) {p : List UInt8} (hp : qE p = true) : j5 (YH a b) p = (j5 b p).or (j5 a p) := by
 have hc := cuts_two ha hb hp
 have hl := QD ha hb p
 unfold j5
 cases h1 : vD a p with
 | none =>
  cases h2 : vD b p with
  | none =>
   rw [h1, h2] at hl
   rw [hl]
   simp only [hc]
   cases yc b p <;> cases yc a p <;> rfl
  | some y => rw [h1, h2] at hl; rw [hl]; rfl
 | some x =>
  cases h2 : vD b p with
  | none =>
   rw [h1, h2] at hl
   rw [hl]
   rcases ql (yc b p) with g | g
   ·simp only [g, if_true, hc, Bool.true_or]; rfl
   ·simp only [g, Bool.false_eq_true, if_false]; rfl
  | some y =>
   rw [h1, h2] at hl; rw [hl]
   obtain ⟨k1, k2, k3, k4⟩ := Jx x y
   exact congrArg some (show_same k1 k2 k3 k4)
theorem two_Sheet {a b : List Rec} (ha : Sheet a) (hb : Sheet b) : Sheet (YH a b) := by
 have hr := (Gi ha.rise hb.rise).1
 have hlk : ∀ r ∈ YH a b, vD (YH a b) r.path = some r := fun r h => Yw hr h
 have hdir : ∀ p, (∃ m, vD (YH a b) p = some m ∧ m.kind = 3) → ∃ q ∈ YH a b, q.path = p ∧ q.kind = 3 := fun p ⟨m, h1, h2⟩ => by
  obtain ⟨g1, g2⟩ := js h1
  exact ⟨m, g1, g2, h2⟩
 refine ⟨hr, fun r hm => ?_, fun r hm hp => hdir _ ?_⟩
 ·have h := hlk r hm
  rw [QD ha hb] at h
  cases h1 : vD a r.path with
  | none =>
   cases h2 : vD b r.path with
   | none => rw [h1, h2] at h; cases h
   | some y => rw [h1, h2] at h; rw [← Option.some.inj h]; exact hb.fault h2
  | some x =>
   cases h2 : vD b r.path with
   | none =>
    rw [h1, h2] at h
    rcases ql (yc b r.path) with g | g
    ·simp [g] at h
    ·simp only [g, Bool.false_eq_true, if_false] at h
     rw [← Option.some.inj h]; exact ha.fault h1
   | some y =>
    rw [h1, h2] at h
    rw [← Option.some.inj h]
    unfold y0
    split
    ·rename_i hh; exact Yp (hb.fault h2) true fun _ => hh.1
    ·exact hb.fault h2
 ·have h := hlk r hm
  have hx : qe r.path ∈ jo r.path := by rw [ancs_cons hp]; exact List.mem_cons_self
  rw [QD ha hb] at h
  have hfromb : ∀ y, vD b r.path = some y → ∃ m, vD (YH a b) (qe r.path) = some m ∧ m.kind = 3 := fun y h2 => by
   obtain ⟨m, g1, g2⟩ := hb.anc h2 hx
   cases h3 : vD a (qe r.path) with
   | none => exact ⟨m, by rw [QD ha hb, h3, g1], g2⟩
   | some z => exact ⟨y0 z m, by rw [QD ha hb, h3, g1], by rw [(Jx z m).1]; exact g2⟩
  cases h2 : vD b r.path with
  | some y => exact hfromb y h2
  | none =>
   cases h1 : vD a r.path with
   | none => rw [h1, h2] at h; cases h
   | some x =>
    rw [h1, h2] at h
    have hpok := ha.path h1
    rcases ql (yc b r.path) with g | g
    ·simp [g] at h
    ·obtain ⟨m, g1, g2⟩ := ha.anc h1 hx
     cases h3 : vD b (qe r.path) with
     | none =>
      have hcx : yc b (qe r.path) = false := by
       rcases ql (yc b (qe r.path)) with g9 | g9
       ·rw [cut_anc hpok hx g9] at g; cases g
       ·exact g9
      exact ⟨m, by rw [QD ha hb, g1, h3]; simp only [hcx, Bool.false_eq_true, if_false], g2⟩
     | some y =>
      have hk : y.kind = 3 := by
       refine Classical.byContradiction fun hk => ?_
       have : yc b r.path = true := (yh _ _).2 ⟨_, hx, y, h3, by simp [vB, hk]⟩
       rw [this] at g; cases g
      exact ⟨y0 m y, by rw [QD ha hb, g1, h3], by rw [(Jx m y).1]; exact hk⟩
theorem squash_Sheet {a b : List Rec} (ha : Sheet a) (hb : Sheet b) : Sheet (jF a b) := canon_Sheet (two_Sheet ha hb)
theorem view_squash {a b : List Rec} (ha : Sheet a) (hb : Sheet b) {p : List UInt8} (hp : qE p = true) : j5 (jF a b) p = (j5 b p).or (j5 a p) := (view_canon (two_Sheet ha hb) hp).trans (view_two ha hb hp)
def XX (L : List (List Rec)) (p : List UInt8) : Nat → Option (Option Nd)
 | 0 => none
 | n + 1 => (j5 (L.getD n default) p).or (XX L p n)
def YU (L : List (List Rec)) (p : List UInt8) : Option (Option Nd) := XX L p L.length
theorem viewN_app (L M : List (List Rec)) (p : List UInt8) : ∀ n, n ≤ L.length → XX (L ++ M) p n = XX L p n := by
 intro n
 induction n with
 | zero => intro _; rfl
 | succ n ih =>
  intro h
  have e : (L ++ M).getD n default = L.getD n default := by
   rw [List.getD_eq_getElem?_getD, List.getD_eq_getElem?_getD, List.getElem?_append_left (by omega)]
  rw [XX, XX, e, ih (by omega)]
theorem YL (L : List (List Rec)) (l : List Rec) (p : List UInt8) : YU (L ++ [l]) p = (j5 l p).or (YU L p) := by
 unfold YU
 have e : (L ++ [l]).getD L.length default = l := by simp [List.getD_eq_getElem?_getD]
 rw [List.length_append, List.length_singleton, XX, e, viewN_app L [l] p _ (Nat.le_refl _)]
theorem XS (p : List UInt8) : ∀ (n : Nat) (L : List (List Rec)), L.length = n → YU L p = L.foldl (fun v l => (j5 l p).or v) none := by
 intro n
 induction n with
 | zero => intro L h; have : L = [] := List.eq_nil_of_length_eq_zero h; subst this; rfl
 | succ n ih =>
  intro L h
  obtain ⟨M, l, rfl, hm⟩ := Gn n L h
  rw [YL, List.foldl_append, ih M hm]; rfl
theorem Sheet.nil : Sheet [] := ⟨List.Pairwise.nil, by simp, by simp⟩
theorem view_nil (p : List UInt8) : j5 [] p = none := by
 have : yc [] p = false := by
  rcases ql (yc [] p) with h | h
  ·obtain ⟨x, _, r, hl, _⟩ := (yh [] p).1 h; cases hl
  ·exact h
 unfold j5
 show (if yc [] p = true then some none else none) = none
 rw [this]; rfl
theorem GI (p : List UInt8) (hp : qE p = true) : ∀ (L : List (List Rec)) (acc : List Rec), (∀ l ∈ L, Sheet l) → Sheet acc → Sheet (L.foldl jF acc) ∧ j5 (L.foldl jF acc) p = L.foldl (fun v l => (j5 l p).or v) (j5 acc p) := by
 intro L
 induction L with
 | nil => intro acc _ h; exact ⟨h, rfl⟩
 | cons l L ih =>
  intro acc hL h
  have hl := hL l (by simp)
  obtain ⟨i1, i2⟩ := ih (jF acc l) (fun x hx => hL x (by simp [hx])) (squash_Sheet h hl)
  exact ⟨i1, by rw [List.foldl_cons, i2, view_squash h hl hp]; rfl⟩
theorem YV {L : List (List Rec)} (hL : ∀ l ∈ L, Sheet l) : Sheet (qD L) := (GI [97] (by decide +kernel) L [] hL Sheet.nil).1
theorem X3 {L : List (List Rec)} (hL : ∀ l ∈ L, Sheet l) {p : List UInt8} (hp : qE p = true) : j5 (qD L) p = YU L p := by
 rw [XS p _ L rfl]
 have := (GI p hp L [] hL Sheet.nil).2
 rw [view_nil] at this
 exact this
theorem stack_Sheet {L : List (List Rec)} (h : vi L = true) : ∀ l ∈ L, Sheet l := fun l hl => Ja ((jU h).2 l hl)
theorem look_apply {l : List Rec} {t : List Nd} (hs : Sheet l) (ht : Wood t) (p : List UInt8) : yb (vS l t) p = (j5 l p).getD (yb t p) := by
 rw [(Yj t ht _ l rfl hs).2.1, seen_view]
theorem look_applyAll (p : List UInt8) : ∀ (L : List (List Rec)) (t : List Nd), (∀ l ∈ L, Sheet l) → Wood t → ∀ (v : Option (Option Nd)) (y : Option Nd), yb t p = v.getD y → Wood (yx L t) ∧ yb (yx L t) p = (L.foldl (fun v l => (j5 l p).or v) v).getD y := by
 intro L
 induction L with
 | nil => intro t _ ht v y h; exact ⟨ht, h⟩
 | cons l L ih =>
  intro t hL ht v y h
  have hl := hL l (by simp)
  have hw := (Yj t ht _ l rfl hl).1
  have h2 : yb (vS l t) p = ((j5 l p).or v).getD y := by
   rw [look_apply hl ht, h]
   cases j5 l p <;> rfl
  exact ih (vS l t) (fun x hx => hL x (by simp [hx])) hw _ y h2
theorem YP {L : List (List Rec)} {t : List Nd} (hL : ∀ l ∈ L, Sheet l) (ht : Wood t) (p : List UInt8) : Wood (yx L t) ∧ yb (yx L t) p = (YU L p).getD (yb t p) := by
 rw [XS p _ L rfl]
 exact look_applyAll p L t hL ht none _ rfl
theorem getL_mem {L : List (List Rec)} {j : Nat} (h : j < L.length) : L.getD j default ∈ L := by rw [vr h]; exact List.getElem_mem h
theorem wood_eq {s t : List Nd} (hs : Wood s) (ht : Wood t) (h : ∀ p, qE p = true → yb s p = yb t p) : s = t := by
 refine Jy (fun n : Nd => n.path) hs.rise ht.rise fun p => ?_
 rcases ql (qE p) with hp | hp
 ·exact h p hp
 ·have hno : ∀ {t : List Nd}, Wood t → yb t p = none := fun {t} hw => by
   cases hl : yb t p with
   | none => rfl
   | some n =>
    obtain ⟨h1, h2⟩ := jl hl
    rw [← h2, VJ (hw.ok n h1)] at hp; cases hp
  exact (hno hs).trans (hno ht).symm
theorem Gm (K : List (List Rec)) (p : List UInt8) : ∀ (n : Nat) (M : List (List Rec)), M.length = n → YU (K ++ M) p = (YU M p).or (YU K p) := by
 intro n
 induction n with
 | zero =>
  intro M h
  have : M = [] := List.eq_nil_of_length_eq_zero h
  subst this
  rw [List.append_nil]; rfl
 | succ n ih =>
  intro M h
  obtain ⟨N, l, rfl, hn⟩ := Gn n M h
  rw [← List.append_assoc, YL, YL, ih N hn]
  cases j5 l p <;> rfl
theorem stack_part {L M : List (List Rec)} (h : vi L = true) (hs : ∀ l ∈ M, l ∈ L) (hl : M.length ≤ 5) : vi M = true := by
 obtain ⟨_, h2⟩ := jU h
 unfold vi
 rw [Bool.and_eq_true, List.all_eq_true]
 exact ⟨decide_eq_true hl, fun l hm => decide_eq_true (h2 l (hs l hm))⟩
theorem stack_lens {L : List (List Rec)} (h : vi L = true) : ∀ x ∈ L, x.length ≤ 16 := fun x hx => QH ((jU h).2 x hx)
def Yd (L : List (List Rec)) (i j : Nat) (x : List Rec) : List (List Rec) := L.take i ++ x :: L.drop j
theorem view_put {L : List (List Rec)} {i j : Nat} {x : List Rec} {p : List UInt8} (hij : i ≤ j) (hx : j5 x p = YU ((L.take j).drop i) p) : YU (Yd L i j x) p = YU L p := by
 have e1 : Yd L i j x = (L.take i ++ [x]) ++ L.drop j := by unfold Yd; simp
 have e2 : L = (L.take i ++ (L.take j).drop i) ++ L.drop j := by
  have h1 : L.take i = (L.take j).take i := by rw [List.take_take, Nat.min_eq_left hij]
  rw [h1, List.take_append_drop, List.take_append_drop]
 rw [e1, Gm _ p _ _ rfl, YL, hx]
 conv => rhs; rw [e2]
 rw [Gm _ p _ _ rfl, Gm _ p _ _ rfl]
theorem Xh {L : List (List Rec)} {i j : Nat} {x l : List Rec} (h : l ∈ Yd L i j x) : l ∈ L ∨ l = x := by
 unfold Yd at h
 rcases List.mem_append.1 h with h | h
 ·exact .inl (List.mem_of_mem_take h)
 ·rcases List.mem_cons.1 h with h | h
  ·exact .inr h
  ·exact .inl (List.mem_of_mem_drop h)
theorem XG {L : List (List Rec)} {i j : Nat} {t : List Nd} (h : vi L = true) (hij : i ≤ j) (ht : Wood t) :
  yx (Yd L i j (qD ((L.take j).drop i))) t = yx L t := by
 have hS := stack_Sheet h
 have hM : ∀ l ∈ (L.take j).drop i, Sheet l := fun l hl => hS l (List.mem_of_mem_take (List.mem_of_mem_drop hl))
 have hP : ∀ l ∈ Yd L i j (qD ((L.take j).drop i)), Sheet l := fun l hl => by
  rcases Xh hl with hl | rfl
  ·exact hS l hl
  ·exact YV hM
 refine wood_eq (YP hP ht [97]).1 (YP hS ht [97]).1 fun p hp => ?_
 rw [(YP hP ht p).2, (YP hS ht p).2, view_put hij (X3 hM hp)]
set_option linter.unusedSectionVars false
section
variable {x y : List Rec} (hx : Sheet x) (hy : Sheet y) (cx : jY x = x) (cy : jY y = y) {p : List UInt8} (hp : qE p = true) (hlt : ∀ q, ltP q p = true → vD x q = vD y q)
include hx hy cx cy hp hlt
end
def Ql (r x : Rec) : Bool := !decide (x.path = r.path) && (decide (r.kind = 3) || !ve x.path r.path)
def Vo (l : List Rec) (r : Rec) : List Rec := (l.filter fun x => Ql r x && ltP x.path r.path) ++ r :: l.filter fun x => Ql r x && ltP r.path x.path
def Vs (l : List Rec) (p : List UInt8) : Bool := decide (0 ≤ qB l p) && decide ((gt l (qB l p)).kind = 3)
def Vl : Nat → List Rec → Rec → List Rec
 | 0, l, r => Vo l r
 | n + 1, l, r => Vo (if qe r.path ≠ [] ∧ Vs l (qe r.path) = false then Vl n l ⟨3, qe r.path, [], 493, false⟩ else l) r
theorem hasDir_iff {l : List Rec} {p : List UInt8} : Vs l p = true ↔ ∃ q, vD l p = some q ∧ q.kind = 3 := by
 unfold Vs
 rw [Bool.and_eq_true, decide_eq_true_eq, decide_eq_true_eq]
 constructor
 ·rintro ⟨h1, h2⟩
  cases h : vD l p with
  | none => exact absurd h ((yX l p).1.1 h1)
  | some r => rw [(yX l p).2 r h] at h2; exact ⟨r, rfl, h2⟩
 ·rintro ⟨q, h1, h2⟩
  exact ⟨(yX l p).1.2 (by rw [h1]; simp), by rw [(yX l p).2 q h1]; exact h2⟩
theorem Qm {l : List Rec} {r x : Rec} : x ∈ Vo l r ↔ x = r ∨ (x ∈ l ∧ Ql r x = true) := by
 unfold Vo
 simp only [List.mem_append, List.mem_cons, List.mem_filter, Bool.and_eq_true]
 constructor
 ·rintro (⟨h1, h2, _⟩ | h | ⟨h1, h2, _⟩)
  ·exact .inr ⟨h1, h2⟩
  ·exact .inl h
  ·exact .inr ⟨h1, h2⟩
 ·rintro (h | ⟨h1, h2⟩)
  ·exact .inr (.inl h)
  ·rcases ql (ltP x.path r.path) with h3 | h3
   ·exact .inl ⟨h1, h2, h3⟩
   ·rcases ql (ltP r.path x.path) with h4 | h4
    ·exact .inr (.inr ⟨h1, h2, h4⟩)
    ·have := Yk h3 h4
     unfold Ql at h2
     rw [decide_eq_true this] at h2; simp at h2
theorem Xq {l : List Rec} {r : Rec} (h : yi (l.map (·.path))) : yi ((Vo l r).map (·.path)) := by
 have hf : ∀ q : Rec → Bool, yi ((l.filter q).map (·.path)) := fun q => Q5 (fun r : Rec => r.path) q h
 unfold Vo
 rw [List.map_append, List.map_cons]
 refine List.pairwise_append.2 ⟨hf _, List.pairwise_cons.2 ⟨fun p hp => ?_, hf _⟩, fun a ha b hb => ?_⟩
 ·obtain ⟨x, hx, rfl⟩ := List.mem_map.1 hp
  have := (List.mem_filter.1 hx).2
  rw [Bool.and_eq_true] at this
  exact this.2
 ·obtain ⟨x, hx, rfl⟩ := List.mem_map.1 ha
  have h1 := (List.mem_filter.1 hx).2
  rw [Bool.and_eq_true] at h1
  rcases List.mem_cons.1 hb with rfl | hb
  ·exact h1.2
  ·obtain ⟨y, hy, rfl⟩ := List.mem_map.1 hb
   have h2 := (List.mem_filter.1 hy).2
   rw [Bool.and_eq_true] at h2
   exact j0 h1.2 h2.2
theorem Jc {l : List Rec} {r : Rec} (hl : Sheet l) (hr : qz r = 0) (hp : qe r.path ≠ [] → ∃ q ∈ l, q.path = qe r.path ∧ q.kind = 3) : Sheet (Vo l r) := by
 have hrp := yr hr
 refine ⟨Xq hl.rise, fun x hx => ?_, fun x hx hpx => ?_⟩
 ·rcases Qm.1 hx with rfl | ⟨h1, _⟩
  ·exact hr
  ·exact hl.ok x h1
 ·rcases Qm.1 hx with rfl | ⟨h1, h2⟩
  ·obtain ⟨q, q1, q2, q3⟩ := hp hpx
   refine ⟨q, Qm.2 (.inr ⟨q1, ?_⟩), q2, q3⟩
   have hb := yV hpx
   unfold Ql
   rw [decide_eq_false (by rw [q2]; exact fun e => Xi hb e.symm), q2, GC hb]; simp
  ·obtain ⟨q, q1, q2, q3⟩ := hl.par x h1 hpx
   unfold Ql at h2
   rw [Bool.and_eq_true, Bool.or_eq_true, decide_eq_true_eq] at h2
   by_cases e : q.path = r.path
   ·rcases h2.2 with h3 | h3
    ·exact ⟨r, Qm.2 (.inl rfl), by rw [← e, q2], h3⟩
    ·have : ve x.path r.path = true := by rw [← e, q2]; exact yV hpx
     rw [this] at h3; cases h3
   ·refine ⟨q, Qm.2 (.inr ⟨q1, ?_⟩), q2, q3⟩
    unfold Ql
    rw [decide_eq_false e]
    rcases h2.2 with h3 | h3
    ·simp [h3]
    ·rcases ql (ve q.path r.path) with h4 | h4
     ·have := VK (yV hpx) (q2 ▸ h4)
      rw [this] at h3; cases h3
     ·simp [h4]
theorem J8 {p : List UInt8} (h : qe p ≠ []) : 1 < (cut 47 p).length := by
 have h1 := Qn (yV h)
 refine Classical.byContradiction fun h2 => h ?_
 have h3 : cut 47 (qe p) = [] := List.eq_nil_of_length_eq_zero (by omega)
 have := Q4 (qe p)
 rw [h3] at this
 exact this.symm
theorem dirR_ok {p : List UInt8} (h : qE p = true) : qz ⟨3, p, [], 493, false⟩ = 0 := (Vd _).2 ⟨rfl, h, rfl, rfl, rfl⟩
theorem putR_Sheet : ∀ (n : Nat) (l : List Rec) (r : Rec), Sheet l → qz r = 0 → (cut 47 r.path).length ≤ n + 1 → Sheet (Vl n l r) ∧ r ∈ Vl n l r := by
 intro n
 induction n with
 | zero =>
  intro l r hl hr hd
  exact ⟨Jc hl hr fun hp => by have := J8 hp; omega, Qm.2 (.inl rfl)⟩
 | succ n ih =>
  intro l r hl hr hd
  rw [Vl]
  by_cases hc : qe r.path ≠ [] ∧ Vs l (qe r.path) = false
  ·rw [if_pos hc]
   have hpp := Yq (yr hr) hc.1
   have hdd := Qn (yV hc.1)
   obtain ⟨i1, i2⟩ := ih l ⟨3, qe r.path, [], 493, false⟩ hl (dirR_ok hpp) (by show (cut 47 (qe r.path)).length ≤ n + 1; omega)
   exact ⟨Jc i1 hr fun _ => ⟨_, i2, rfl, rfl⟩, Qm.2 (.inl rfl)⟩
  ·rw [if_neg hc]
   refine ⟨Jc hl hr fun hp => ?_, Qm.2 (.inl rfl)⟩
   have hh : Vs l (qe r.path) = true := by
    rcases ql (Vs l (qe r.path)) with h | h
    ·exact h
    ·exact absurd ⟨hp, h⟩ hc
   obtain ⟨q, q1, q2⟩ := hasDir_iff.1 hh
   obtain ⟨g1, g2⟩ := js q1
   exact ⟨q, g1, g2, q2⟩
theorem Gq (l : List Rec) (r : Rec) : (Vo l r).length ≤ l.length + 1 := by
 have h : ∀ (q : Rec → Bool) (m : List Rec), (m.filter fun x => Ql r x && ltP x.path r.path).length + (m.filter fun x => Ql r x && ltP r.path x.path).length ≤ m.length := by
  intro _ m
  induction m with
  | nil => simp
  | cons x m ih =>
   rcases ql (ltP x.path r.path) with h1 | h1
   ·have h2 := Vw h1
    rcases ql (Ql r x) with h3 | h3 <;> simp [h1, h2, h3] <;> omega
   ·rcases ql (Ql r x) with h3 | h3 <;> rcases ql (ltP r.path x.path) with h4 | h4 <;> simp [h1, h3, h4] <;> omega
 have := h (fun _ => true) l
 unfold Vo
 simp only [List.length_append, List.length_cons]; omega
theorem putR_len : ∀ (n : Nat) (l : List Rec) (r : Rec), (Vl n l r).length ≤ l.length + n + 1 := by
 intro n
 induction n with
 | zero => intro l r; exact Gq l r
 | succ n ih =>
  intro l r
  rw [Vl]
  split
  ·have h1 := Gq (Vl n l ⟨3, qe r.path, [], 493, false⟩) r
   have h2 := ih l ⟨3, qe r.path, [], 493, false⟩
   omega
  ·have := Gq l r; omega
end Go.UL
