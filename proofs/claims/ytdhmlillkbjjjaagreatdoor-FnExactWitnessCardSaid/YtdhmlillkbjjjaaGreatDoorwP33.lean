import Derived.Test.YtdhmlillkbjjjaaGreatDoorwP27
set_option linter.unusedVariables false
set_option linter.unusedSimpArgs false
namespace Go.UL
open Go.RowKit
theorem Gs {xs : List (List Rec)} (h : Vi xs = true) : xs.length ≤ 5 ∧ ∀ l ∈ xs, (qo l).2 = 0 := by
 unfold Vi at h
 rw [Bool.and_eq_true, List.all_eq_true] at h
 exact ⟨of_decide_eq_true h.1, fun l hl => of_decide_eq_true (h.2 l hl)⟩
theorem Gf : Wood [] := wood_of rfl
theorem G0 {a : List (List Rec)} (h : Vi a = true) : (vC a).length ≤ 80 := by
 obtain ⟨h5, hL⟩ := Gs h
 refine Nat.le_trans (riseOf_len _) ?_
 rw [List.length_map]
 have : ∀ (ls : List (List Rec)), (∀ l ∈ ls, l.length ≤ 16) → ls.flatten.length ≤ ls.length * 16 := by
  intro ls
  induction ls with
  | nil => intro _; simp
  | cons l ls ih =>
   intro h
   have a1 := h l (by simp)
   have a2 := ih fun x hx => h x (by simp [hx])
   simp only [List.flatten_cons, List.length_append, List.length_cons]; omega
 have := this a fun l hl => jl (hL l hl)
 omega
theorem GX {a : List (List Rec)} {p : List UInt8} : p ∈ vC a ↔ ∃ l ∈ a, ∃ r ∈ l, r.path = p := by
 rw [vC, Gn]
 simp only [List.mem_map, List.mem_flatten]
 constructor
 ·rintro ⟨r, ⟨l, hl, hr⟩, e⟩; exact ⟨l, hl, r, hr, e⟩
 ·rintro ⟨l, hl, r, hr, e⟩; exact ⟨r, ⟨l, hl, hr⟩, e⟩
theorem paths_ok {a : List (List Rec)} (h : Vi a = true) : ∀ p ∈ vC a, qz p = true := by
 intro p hp
 obtain ⟨l, hl, r, hr, rfl⟩ := GX.1 hp
 exact Qp ((Gs h).2 l hl) r hr
theorem QM {l : List Rec} {r x : Rec} (h : yE l r = some x) : x.path = r.path := by
 unfold yE at h
 split at h
 ·split at h
  ·cases h
  ·rw [← Option.some.inj h]
 ·rw [← Option.some.inj h]
theorem Q7 {f : Rec → Option Rec} (hf : ∀ r x, f r = some x → x.path = r.path) : ∀ {l : List Rec}, vV (l.map (·.path)) → vV ((l.filterMap f).map (·.path)) ∧ ∀ q ∈ (l.filterMap f).map (·.path), q ∈ l.map (·.path) := by
 intro l
 induction l with
 | nil => intro _; exact ⟨List.Pairwise.nil, by simp⟩
 | cons r l ih =>
  intro h
  obtain ⟨i1, i2⟩ := ih (VR h)
  have hlt := Vr h
  cases hr : f r with
  | none => rw [List.filterMap_cons_none hr]; exact ⟨i1, fun q hq => List.mem_cons_of_mem _ (i2 q hq)⟩
  | some x =>
   rw [List.filterMap_cons_some hr, List.map_cons, hf r x hr]
   exact ⟨List.pairwise_cons.2 ⟨fun q hq => hlt q (i2 q hq), i1⟩, fun q hq => by
    rcases List.mem_cons.1 hq with rfl | hq
    ·exact List.mem_cons_self
    ·exact List.mem_cons_of_mem _ (i2 q hq)⟩
def jK (l : List Rec) (p : List UInt8) : Option (Option Nd) := match qG l p with
 | some r => some (jP r)
 | none => if Qf l p then some none else none
theorem seen_view (l : List Rec) (t : List Nd) (p : List UInt8) : GR l t p = (jK l p).getD (vr t p) := by
 unfold GR jK
 cases qG l p with
 | some r => rfl
 | none => cases Qf l p <;> rfl
theorem Qt {p : List UInt8} (h : qd p ≠ []) : vx p = qd p :: vx (qd p) := by rw [jp, if_neg h]
theorem Ys {p : List UInt8} (h : qd p = []) : vx p = [] := by rw [jp, if_pos h]
theorem YQ {p x y : List UInt8} (hp : qz p = true) (hx : x ∈ vx p) (hy : y ∈ vx x) : y ∈ vx p := Vc hp (QG (yH hx) (yH hy))
theorem Xq {p x : List UInt8} (hp : qz p = true) (hx : x ∈ vx p) : qz x = true := Xi hp (yH hx)
theorem Gz {p x : List UInt8} (hp : qz p = true) (hx : x ∈ vx p) : (cut 47 x).length < 4 := by
 have h1 := Qa (yH hx)
 have h2 := VJ hp
 omega
theorem Sheet.path {l : List Rec} (hs : Sheet l) {p : List UInt8} {r : Rec} (h : qG l p = some r) : qz p = true := by
 obtain ⟨h1, h2⟩ := vw h
 rw [← h2]; exact yw (hs.ok r h1)
theorem Sheet.fault {l : List Rec} (hs : Sheet l) {p : List UInt8} {r : Rec} (h : qG l p = some r) : qB r = 0 := hs.ok r (vw h).1
theorem Sheet.anc {l : List Rec} (hs : Sheet l) {p x : List UInt8} {r : Rec} (h : qG l p = some r) (hx : x ∈ vx p) : ∃ m, qG l x = some m ∧ m.kind = 3 := by
 obtain ⟨h1, h2⟩ := vw h
 obtain ⟨m, hm, e, hk⟩ := hs.above (n := r) h1 (p := x) (by rw [h2]; exact yH hx)
 exact ⟨m, by rw [← e]; exact Yt hs.rise hm, hk⟩
theorem Sheet.opqk {l : List Rec} (hs : Sheet l) {p : List UInt8} {r : Rec} (h : qG l p = some r) (ho : r.opq = true) : r.kind = 3 := YY (hs.fault h) ho
theorem Ju {l : List Rec} {p : List UInt8} (h : ∀ x ∈ vx p, ∀ r, qG l x = some r → r.kind = 3) : Qf l p = vq l p := by
 rw [Bool.eq_iff_iff, jM, yB]
 constructor
 ·rintro ⟨x, hx, r, hr, hs⟩
  refine ⟨x, hx, r, hr, ?_⟩
  simpa [yT, h x hx r hr] using hs
 ·rintro ⟨x, hx, r, hr, hs⟩
  exact ⟨x, hx, r, hr, by simp [yT, hs]⟩
def Vv (l : List Rec) (x : List UInt8) : Bool := vq l x || (match qG l x with | some r => r.opq | none => false)
theorem VM {l : List Rec} {p : List UInt8} (h : qd p ≠ []) : vq l p = Vv l (qd p) := by
 rw [Bool.eq_iff_iff, yB]
 unfold Vv
 rw [Bool.or_eq_true, yB, Qt h]
 constructor
 ·rintro ⟨x, hx, r, hr, ho⟩
  rcases List.mem_cons.1 hx with rfl | hx
  ·right; rw [hr]; exact ho
  ·exact .inl ⟨x, hx, r, hr, ho⟩
 ·rintro (⟨x, hx, r, hr, ho⟩ | ho)
  ·exact ⟨x, List.mem_cons_of_mem _ hx, r, hr, ho⟩
  ·cases hl : qG l (qd p) with
   | none => rw [hl] at ho; cases ho
   | some r => rw [hl] at ho; exact ⟨_, List.mem_cons_self, r, hl, ho⟩
theorem VU {l : List Rec} (hs : Sheet l) {q : List UInt8} (hq : qz q = true) (hp : qd q ≠ []) {m : Rec} (hm : qG l (qd q) = some m) (hk : m.kind = 3) (hn : qG l q = none) : jK l q = if Vv l (qd q) then some none else none := by
 unfold jK
 rw [hn]
 show (if Qf l q = true then some none else none) = _
 rw [Ju, VM hp]
 intro x hx r hr
 rw [Qt hp] at hx
 rcases List.mem_cons.1 hx with rfl | hx
 ·rw [hm] at hr; rw [← Option.some.inj hr]; exact hk
 ·obtain ⟨m2, h1, h2⟩ := hs.anc hm hx
  rw [h1] at hr; rw [← Option.some.inj hr]; exact h2
theorem pigeon {α : Type} [DecidableEq α] : ∀ (l m : List α), l.Nodup → (∀ x ∈ l, x ∈ m) → l.length ≤ m.length := by
 intro l
 induction l with
 | nil => intro m _ _; simp
 | cons x l ih =>
  intro m hd hs
  have hx := hs x (by simp)
  have h1 := List.nodup_cons.1 hd
  have h2 := ih (m.erase x) h1.2 fun y hy => (List.mem_erase_of_ne (fun e => h1.1 (by rw [← e]; exact hy))).2 (hs y (by simp [hy]))
  rw [List.length_erase_of_mem hx] at h2
  have : 0 < m.length := List.length_pos_of_mem hx
  simp only [List.length_cons]; omega
def Vs (i : Nat) : List UInt8 := [122, UInt8.ofNat (97 + i / 16), UInt8.ofNat (97 + i % 16)]
theorem freeN_ok : ∀ i, i < 256 → yt (Vs i) = true := by
 have h : (List.range 256).all (fun i => yt (Vs i)) = true := by decide +kernel
 intro i hi
 exact (List.all_eq_true.1 h) i (List.mem_range.2 hi)
theorem GG : ∀ i, i < 256 → cut 47 (Vs i) = [Vs i] := by
 have h : (List.range 256).all (fun i => decide (cut 47 (Vs i) = [Vs i])) = true := by decide +kernel
 intro i hi
 exact of_decide_eq_true ((List.all_eq_true.1 h) i (List.mem_range.2 hi))
theorem freeN_inj {i j : Nat} (hi : i < 256) (hj : j < 256) (h : Vs i = Vs j) : i = j := by
 unfold Vs at h
 injection h with _ h
 injection h with h1 h
 injection h with h2 _
 have e1 := congrArg UInt8.toNat h1
 have e2 := congrArg UInt8.toNat h2
 simp only [UInt8.toNat_ofNat'] at e1 e2
 omega
theorem joinL_le : ∀ (l : List (List UInt8)), (∀ x ∈ l, x.length ≤ 8) → (ye l).length ≤ 9 * l.length - 1 := by
 intro l
 induction l with
 | nil => intro _; simp [ye]
 | cons x l ih =>
  intro h
  have h1 := h x (by simp)
  have h2 := ih fun y hy => h y (by simp [hy])
  by_cases e : l = []
  ·subst e; simp [ye]; omega
  ·rw [QA x e]
   have := List.length_pos_iff.2 e
   simp only [List.length_append, List.length_cons]; omega
theorem JS {p : List UInt8} (h : qz p = true) : (cut 47 p).length ≤ 4 ∧ ∀ x ∈ cut 47 p, yt x = true := by
 simp only [qz, Bool.and_eq_true, decide_eq_true_eq, List.all_eq_true] at h
 exact ⟨h.2.1, h.2.2⟩
theorem X6 {x part : List UInt8} (hx : qz x = true) (hd : (cut 47 x).length < 4) (hp : yt part = true) (hc : cut 47 part = [part]) : qz (x ++ 47 :: part) = true ∧ qd (x ++ 47 :: part) = x := by
 have hcut : cut 47 (x ++ 47 :: part) = cut 47 x ++ [part] := by rw [Gh, hc]
 obtain ⟨h1, h2⟩ := JS hx
 have h3 := joinL_le (cut 47 x) fun y hy => YO (h2 y hy)
 rw [Qu] at h3
 have h4 := YO hp
 have hok : qz (x ++ 47 :: part) = true := by
  simp only [qz, Bool.and_eq_true, decide_eq_true_eq, List.all_eq_true, hcut]
  refine ⟨by simp; omega, by simp; omega, fun y hy => ?_⟩
  rcases List.mem_append.1 hy with hy | hy
  ·exact h2 y hy
  ·rw [List.mem_singleton.1 hy]; exact hp
 refine ⟨hok, ?_⟩
 have hb : yl (x ++ 47 :: part) x = true := (jY _ _).2 ⟨[part], by simp, hcut⟩
 obtain ⟨g1, g2 | g2⟩ := JU hok hb
 ·exact g2
 ·have g3 := Qa g2
  rw [Gi g1, hcut] at g3
  simp at g3
theorem fresh {a b : List Rec} (hlen : a.length + b.length < 256) {x : List UInt8} (hx : qz x = true) (hd : (cut 47 x).length < 4) :
  ∃ q, qz q = true ∧ qd q = x ∧ qG a q = none ∧ qG b q = none := by
 have key : ∃ i, i < 256 ∧ (x ++ 47 :: Vs i) ∉ a.map (·.path) ++ b.map (·.path) := by
  refine Classical.byContradiction fun hno => ?_
  have hall : ∀ i, i < 256 → (x ++ 47 :: Vs i) ∈ a.map (·.path) ++ b.map (·.path) := fun i hi => Classical.byContradiction fun h => hno ⟨i, hi, h⟩
  have hnd : ((List.range 256).map fun i => x ++ 47 :: Vs i).Nodup := by
   refine List.pairwise_map.2 (List.Pairwise.imp_of_mem (R := fun i j => i < j) (fun {i j} hi hj hlt e => ?_) List.pairwise_lt_range)
   have h1 := List.append_cancel_left e
   injection h1 with _ h1
   have := freeN_inj (List.mem_range.1 hi) (List.mem_range.1 hj) h1
   omega
  have hle := pigeon _ _ hnd fun y hy => by
   obtain ⟨i, hi, rfl⟩ := List.mem_map.1 hy
   exact hall i (List.mem_range.1 hi)
  simp at hle
  omega
 obtain ⟨i, hi, hni⟩ := key
 obtain ⟨h1, h2⟩ := X6 hx hd (freeN_ok i hi) (GG i hi)
 rw [List.mem_append, not_or] at hni
 refine ⟨_, h1, h2, ?_, ?_⟩
 ·cases h : qG a (x ++ 47 :: Vs i) with
  | none => rfl
  | some r => exact absurd (QI.1 (by rw [h]; simp)) hni.1
 ·cases h : qG b (x ++ 47 :: Vs i) with
  | none => rfl
  | some r => exact absurd (QI.1 (by rw [h]; simp)) hni.2
theorem look_fm {f : Rec → Option Rec} (hf : ∀ r x, f r = some x → x.path = r.path) {l : List Rec} (h : vV (l.map (·.path))) (p : List UInt8) : qG (l.filterMap f) p = (qG l p).bind f := by
 have h2 := (mrgF_spec (fun r : Rec => r.path) f some (fun _ _ => none) hf (fun y z e => by rw [Option.some.inj e]) (fun x y z _ e => by cases e) _ l [] (Nat.le_refl _) h List.Pairwise.nil).2 p
 rw [mrgF_nil] at h2
 refine h2.trans ?_
 show mrgO f some (fun _ _ => none) (qG l p) none = _
 cases qG l p <;> rfl
theorem jQ {l : List Rec} (hs : Sheet l) (p : List UInt8) : qG (qb l) p = (qG l p).bind (yE l) := look_fm (fun _ _ => QM) hs.rise p
theorem QX {l : List Rec} {r : Rec} (h : vq l r.path = true) : yE l r = if r.kind = 4 then none else some ⟨r.kind, r.path, r.body, r.mode, false⟩ := by unfold yE; rw [if_pos h]
theorem j8 {l : List Rec} {r : Rec} (h : vq l r.path = false) : yE l r = some ⟨r.kind, r.path, r.body, r.mode, r.opq && decide ((cut 47 r.path).length < 4)⟩ := by unfold yE; rw [if_neg (by rw [h]; simp)]
theorem Vp {r : Rec} (h : qB r = 0) (hk : r.kind = 4) : r.body = [] ∧ r.mode = 0 ∧ r.opq = false := by
 obtain ⟨_, _, _, h4, h5⟩ := (jA r).1 h
 rw [Bool.or_eq_false_iff] at h4 h5
 simp [hk] at h4 h5
 exact ⟨h4.1, h5.2, h4.2⟩
theorem view_show {l : List Rec} {p : List UInt8} {n : Nd} (h : jK l p = some (some n)) : ∃ r, qG l p = some r ∧ r.kind ≠ 4 ∧ j0 r = n := by
 unfold jK at h
 cases hl : qG l p with
 | none =>
  rw [hl] at h
  rcases qw (Qf l p) with hc | hc
  ·simp [hc] at h
  ·simp [hc] at h
 | some r =>
  rw [hl] at h
  have h : jP r = some n := Option.some.inj h
  unfold jP at h
  by_cases hk : r.kind = 4
  ·rw [if_pos hk] at h; cases h
  ·rw [if_neg hk] at h; exact ⟨r, rfl, hk, Option.some.inj h⟩
theorem V9 {l : List Rec} {p : List UInt8} {r : Rec} (h : qG l p = some r) : jK l p = some (jP r) := by unfold jK; rw [h]
set_option linter.unusedSectionVars false
section
variable {a b : List Rec} (ha : Sheet a) (hb : Sheet b) (hlen : a.length + b.length < 256) (hv : ∀ p, qz p = true → jK a p = jK b p)
include ha hb hlen hv
theorem dir_both {x : List UInt8} {m : Rec} (h : qG a x = some m) (hk : m.kind ≠ 4) : ∃ m', qG b x = some m' ∧ m'.kind ≠ 4 ∧ j0 m' = j0 m := by
 have h1 := hv x (ha.path h)
 rw [V9 h] at h1
 unfold jP at h1
 rw [if_neg hk] at h1
 exact view_show h1.symm
theorem X8 {x : List UInt8} {m m' : Rec} (hx : qz x = true) (hd : (cut 47 x).length < 4) (h : qG a x = some m) (hk : m.kind = 3) (h' : qG b x = some m') (hk' : m'.kind = 3) : Vv a x = Vv b x := by
 obtain ⟨q, h1, h2, h3, h4⟩ := fresh hlen hx hd
 have hne : qd q ≠ [] := by rw [h2]; exact Q3 hx
 have e1 := VU ha h1 hne (by rw [h2]; exact h) hk h3
 have e2 := VU hb h1 hne (by rw [h2]; exact h') hk' h4
 rw [h2] at e1 e2
 have e3 := hv q h1
 rw [e1, e2] at e3
 cases h5 : Vv a x <;> cases h6 : Vv b x <;> simp [h5, h6] at e3 ⊢
theorem under_eq {p : List UInt8} {r : Rec} (h : qG a p = some r) : vq a p = vq b p ∧ ∀ x ∈ vx p, ∃ m, qG b x = some m ∧ m.kind = 3 := by
 have hp := ha.path h
 have hall : ∀ x ∈ vx p, ∃ m, qG b x = some m ∧ m.kind = 3 := fun x hx => by
  obtain ⟨m, h1, h2⟩ := ha.anc h hx
  obtain ⟨m', h3, _, h5⟩ := dir_both ha hb hlen hv h1 (by omega)
  exact ⟨m', h3, by have := congrArg Nd.kind h5; simp only [j0] at this; omega⟩
 refine ⟨?_, hall⟩
 by_cases hpp : qd p = []
 ·have : ∀ l, vq l p = false := fun l => by unfold vq; rw [Ys hpp]; rfl
  rw [this, this]
 ·have hx : qd p ∈ vx p := by rw [Qt hpp]; exact List.mem_cons_self
  obtain ⟨m, h1, h2⟩ := ha.anc h hx
  obtain ⟨m', h3, h4⟩ := hall _ hx
  rw [VM hpp, VM hpp]
  exact X8 ha hb hlen hv (Xq hp hx) (Gz hp hx) h1 h2 h3 h4
theorem J3 {p : List UInt8} {r : Rec} (h : qG (qb a) p = some r) : qG (qb b) p = some r := by
 rw [jQ ha] at h
 rw [jQ hb]
 cases h0 : qG a p with
 | none => rw [h0] at h; cases h
 | some r0 =>
  rw [h0] at h
  have h : yE a r0 = some r := h
  have hp := ha.path h0
  have e0 := (vw h0).2
  obtain ⟨hu, hall⟩ := under_eq ha hb hlen hv h0
  by_cases hk : r0.kind = 4
  ·obtain ⟨w1, w2, w3⟩ := Vp (ha.fault h0) hk
   have hun : vq a p = false := by
    rcases qw (vq a p) with hh | hh
    ·rw [QX (by rw [e0]; exact hh), if_pos hk] at h; cases h
    ·exact hh
   rw [j8 (by rw [e0]; exact hun)] at h
   have hv1 := hv p hp
   rw [V9 h0] at hv1
   unfold jP at hv1
   rw [if_pos hk] at hv1
   cases h1 : qG b p with
   | none =>
    unfold jK at hv1
    rw [h1] at hv1
    have hc : Qf b p = vq b p := Ju fun x hx m hm => by
     obtain ⟨m', g1, g2⟩ := hall x hx
     rw [g1] at hm; rw [← Option.some.inj hm]; exact g2
    rw [hc, ← hu, hun] at hv1
    cases hv1
   | some rb =>
    have e1 := (vw h1).2
    rw [V9 h1] at hv1
    have hk2 : rb.kind = 4 := by
     have := Option.some.inj hv1
     unfold jP at this
     split at this
     ·assumption
     ·cases this
    obtain ⟨y1, y2, y3⟩ := Vp (hb.fault h1) hk2
    show yE b rb = some r
    rw [j8 (by rw [e1, ← hu]; exact hun), ← h, hk, hk2, e0, e1, w1, w2, w3, y1, y2, y3]
  ·obtain ⟨rb, h1, hk2, hnd⟩ := dir_both ha hb hlen hv h0 hk
   have e1 := (vw h1).2
   simp only [j0, Nd.mk.injEq] at hnd
   obtain ⟨n1, n2, n3, n4⟩ := hnd
   refine (congrArg (fun o : Option Rec => o.bind (yE b)) h1).trans ?_
   show yE b rb = some r
   rcases qw (vq a p) with hun | hun
   ·rw [QX (by rw [e0]; exact hun), if_neg hk] at h
    rw [QX (by rw [e1, ← hu]; exact hun), if_neg hk2, ← h, n1, n2, n3, n4]
   ·rw [j8 (by rw [e0]; exact hun)] at h
    rw [j8 (by rw [e1, ← hu]; exact hun), ← h, n1, n2, n3, n4]
    congr 2
    by_cases hd : (cut 47 r0.path).length < 4
    ·have hoo : rb.opq = r0.opq := by
      by_cases h3 : r0.kind = 3
      ·have hc := X8 ha hb hlen hv hp (by rw [← e0]; exact hd) h0 h3 h1 (by omega)
       unfold Vv at hc
       rw [h0, h1, ← hu, hun] at hc
       simpa using hc.symm
      ·have g1 : r0.opq = false := by
        rcases qw r0.opq with g | g
        ·exact absurd (ha.opqk h0 g) h3
        ·exact g
       have g2 : rb.opq = false := by
        rcases qw rb.opq with g | g
        ·exact absurd (hb.opqk h1 g) (by omega)
        ·exact g
       rw [g1, g2]
     rw [hoo]
    ·simp [hd]
end
theorem GL {a b : List Rec} (ha : Sheet a) (hb : Sheet b) (hlen : a.length + b.length < 256) (hv : ∀ p, qz p = true → jK a p = jK b p) : qb a = qb b := by
 refine YS (fun r : Rec => r.path) (Q7 (fun _ _ => QM) ha.rise).1 (Q7 (fun _ _ => QM) hb.rise).1 fun p => ?_
 cases h : qG (qb a) p with
 | some r => exact h.trans (J3 ha hb hlen hv h).symm
 | none =>
  cases h' : qG (qb b) p with
  | none => exact h.trans h'.symm
  | some r =>
   have := J3 hb ha (by omega) (fun q hq => (hv q hq).symm) h'
   rw [h] at this; cases this
theorem Yd {l : List Rec} (hs : Sheet l) : ∀ (n : Nat) (p : List UInt8), (cut 47 p).length ≤ n → qz p = true → vq (qb l) p = vq l p := by
 intro n
 induction n with
 | zero =>
  intro p hn hp
  have h1 : ∀ x ∈ vx p, False := fun x hx => by have := Qa (yH hx); omega
  rw [Bool.eq_iff_iff, yB, yB]
  exact ⟨fun ⟨x, hx, _⟩ => (h1 x hx).elim, fun ⟨x, hx, _⟩ => (h1 x hx).elim⟩
 | succ n ih =>
  intro p hn hp
  rw [Bool.eq_iff_iff, yB, yB]
  constructor
  ·rintro ⟨x, hx, r, hr, ho⟩
   rw [jQ hs] at hr
   cases h0 : qG l x with
   | none => rw [h0] at hr; cases hr
   | some r0 =>
    rw [h0] at hr
    have hr : yE l r0 = some r := hr
    refine ⟨x, hx, r0, h0, ?_⟩
    unfold yE at hr
    split at hr
    ·split at hr
     ·cases hr
     ·rw [← Option.some.inj hr] at ho; cases ho
    ·rw [← Option.some.inj hr] at ho
     simp only [Bool.and_eq_true] at ho
     exact ho.1
  ·rintro ⟨x, hx, r0, h0, ho⟩
   have hd := Qa (yH hx)
   have hx4 := Gz hp hx
   have hi := ih x (by omega) (Xq hp hx)
   rcases qw (vq l x) with hu | hu
   ·rw [hu, yB] at hi
    obtain ⟨y, hy, r, hr, hro⟩ := hi
    exact ⟨y, YQ hp hx hy, r, hr, hro⟩
   ·have e0 := (vw h0).2
    refine ⟨x, hx, _, by rw [jQ hs, h0]; exact j8 (by rw [e0]; exact hu), ?_⟩
    simp only [Bool.and_eq_true, decide_eq_true_eq]
    exact ⟨ho, by rw [e0]; exact hx4⟩
theorem YK {l : List Rec} {p : List UInt8} (h : vq l p = true) : Qf l p = true := by
 obtain ⟨x, hx, r, hr, ho⟩ := (yB l p).1 h
 exact (jM l p).2 ⟨x, hx, r, hr, by simp [yT, ho]⟩
theorem Vk {l : List Rec} {r x : Rec} (h : yE l r = some x) : x.kind = r.kind ∧ x.path = r.path ∧ x.body = r.body ∧ x.mode = r.mode ∧ (x.opq = true → r.opq = true) := by
 unfold yE at h
 split at h
 ·split at h
  ·cases h
  ·rw [← Option.some.inj h]; exact ⟨rfl, rfl, rfl, rfl, fun h => by cases h⟩
 ·rw [← Option.some.inj h]; exact ⟨rfl, rfl, rfl, rfl, fun h => by simp only [Bool.and_eq_true] at h; exact h.1⟩
theorem cuts_canon {l : List Rec} (hs : Sheet l) {p : List UInt8} (hp : qz p = true) : Qf (qb l) p = Qf l p := by
 rw [Bool.eq_iff_iff]
 constructor
 ·intro h
  obtain ⟨x, hx, r, hr, ho⟩ := (jM _ _).1 h
  rw [jQ hs] at hr
  cases h0 : qG l x with
  | none => rw [h0] at hr; cases hr
  | some r0 =>
   rw [h0] at hr
   have hr : yE l r0 = some r := hr
   obtain ⟨k1, _, _, _, k5⟩ := Vk hr
   refine (jM _ _).2 ⟨x, hx, r0, h0, ?_⟩
   unfold yT at ho ⊢
   rw [k1] at ho
   rw [Bool.or_eq_true] at ho ⊢
   exact ho.imp id k5
 ·intro h
  obtain ⟨x, hx, r0, h0, ho⟩ := (jM _ _).1 h
  have e0 := (vw h0).2
  rcases qw (vq l x) with hu | hu
  ·have hup : vq l p = true := by
    obtain ⟨y, hy, r, hr, hro⟩ := (yB _ _).1 hu
    exact (yB _ _).2 ⟨y, YQ hp hx hy, r, hr, hro⟩
   exact YK (by rw [Yd hs _ p (Nat.le_refl _) hp]; exact hup)
  ·by_cases hk : r0.kind = 3
   ·have hop : r0.opq = true := by simpa [yT, hk] using ho
    exact YK (by rw [Yd hs _ p (Nat.le_refl _) hp]; exact (yB _ _).2 ⟨x, hx, r0, h0, hop⟩)
   ·refine (jM _ _).2 ⟨x, hx, _, by rw [jQ hs, h0]; exact j8 (by rw [e0]; exact hu), ?_⟩
    simp [yT, hk]
theorem show_same {r x : Rec} (h1 : x.kind = r.kind) (h2 : x.path = r.path) (h3 : x.body = r.body) (h4 : x.mode = r.mode) : jP x = jP r := by
 unfold jP j0; rw [h1, h2, h3, h4]
theorem view_canon {l : List Rec} (hs : Sheet l) {p : List UInt8} (hp : qz p = true) : jK (qb l) p = jK l p := by
 have hc := cuts_canon hs hp
 have hu := Yd hs _ p (Nat.le_refl _) hp
 have hl := jQ hs p
 unfold jK
 cases h0 : qG l p with
 | none =>
  rw [h0] at hl
  have hl : qG (qb l) p = none := hl
  rw [hl, hc]
 | some r =>
  rw [h0] at hl
  have hl : qG (qb l) p = yE l r := hl
  have e0 := (vw h0).2
  cases hr : yE l r with
  | some x =>
   rw [hl, hr]
   obtain ⟨k1, k2, k3, k4, _⟩ := Vk hr
   exact congrArg some (show_same k1 k2 k3 k4)
  | none =>
   rw [hl, hr]
   unfold yE at hr
   split at hr
   ·rename_i hun
    split at hr
    ·rename_i hk
     rw [e0] at hun
     have := YK (hu.trans hun)
     simp only [this, if_true]
     unfold jP; rw [if_pos hk]
    ·cases hr
   ·cases hr
theorem Ye {l : List Rec} (hs : Sheet l) : Sheet (qb l) := by
 have hmem : ∀ x ∈ qb l, ∃ r ∈ l, yE l r = some x := fun x hx => List.mem_filterMap.1 hx
 refine ⟨(Q7 (fun _ _ => QM) hs.rise).1, fun x hx => ?_, fun x hx hp => ?_⟩
 ·obtain ⟨r, hr, e⟩ := hmem x hx
  obtain ⟨k1, k2, k3, k4, k5⟩ := Vk e
  have := Yz (hs.ok r hr) x.opq (fun h => YY (hs.ok r hr) (k5 h))
  rw [← k1, ← k2, ← k3, ← k4] at this
  exact this
 ·obtain ⟨r, hr, e⟩ := hmem x hx
  rw [QM e] at hp ⊢
  obtain ⟨q, hq, e2, hk⟩ := hs.par r hr hp
  cases hc : yE l q with
  | none =>
   exfalso
   unfold yE at hc
   split at hc
   ·rw [if_neg (by omega)] at hc; cases hc
   ·cases hc
  | some y =>
   obtain ⟨k1, k2, _⟩ := Vk hc
   exact ⟨y, List.mem_filterMap.2 ⟨q, hq, hc⟩, by rw [k2, e2], by rw [k1, hk]⟩
theorem Sheet.nil : Sheet [] := ⟨List.Pairwise.nil, by simp, by simp⟩
theorem Qy {l : List Rec} {t : List Nd} (hs : Sheet l) (ht : Wood t) (p : List UInt8) : vr (yz l t) p = (jK l p).getD (vr t p) := by
 rw [(XS t ht _ l rfl hs).2.1, seen_view]
end Go.UL
