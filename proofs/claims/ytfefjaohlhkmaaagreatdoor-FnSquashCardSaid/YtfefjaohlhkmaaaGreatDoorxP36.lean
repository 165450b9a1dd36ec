import Derived.Test.YtfefjaohlhkmaaaGreatDoorxP30
set_option linter.unusedVariables false
set_option linter.unusedSimpArgs false
namespace Go.UL
open Go.RowKit
def QE (l : List Rec) (p : List UInt8) : Option (Option Nd) := match ve l p with
 | some r => some (VG r)
 | none => if vL l p then some none else none
theorem seen_view (l : List Rec) (t : List Nd) (p : List UInt8) : seenL l t p = (QE l p).getD (y5 t p) := by
 unfold seenL QE
 cases ve l p with
 | some r => rfl
 | none => cases vL l p <;> rfl
theorem JP {p : List UInt8} (h : qc p ≠ []) : jK p = qc p :: jK (qc p) := by rw [Qk, if_neg h]
theorem ancs_none {p : List UInt8} (h : qc p = []) : jK p = [] := by rw [Qk, if_pos h]
theorem J5 {p x y : List UInt8} (hp : qH p = true) (hx : x ∈ jK p) (hy : y ∈ jK x) : y ∈ jK p := Yz hp (Yf (QO hx) (QO hy))
theorem ancs_ok {p x : List UInt8} (hp : qH p = true) (hx : x ∈ jK p) : qH x = true := Ge hp (QO hx)
theorem XZ {p x : List UInt8} (hp : qH p = true) (hx : x ∈ jK p) : (cut 47 x).length < 4 := by
 have h1 := QH (QO hx)
 have h2 := Gn hp
 omega
theorem Sheet.path {l : List Rec} (hs : Sheet l) {p : List UInt8} {r : Rec} (h : ve l p = some r) : qH p = true := by
 obtain ⟨h1, h2⟩ := jc h
 rw [← h2]; exact yg (hs.ok r h1)
theorem Sheet.fault {l : List Rec} (hs : Sheet l) {p : List UInt8} {r : Rec} (h : ve l p = some r) : qx r = 0 := hs.ok r (jc h).1
theorem Sheet.anc {l : List Rec} (hs : Sheet l) {p x : List UInt8} {r : Rec} (h : ve l p = some r) (hx : x ∈ jK p) : ∃ m, ve l x = some m ∧ m.kind = 3 := by
 obtain ⟨h1, h2⟩ := jc h
 obtain ⟨m, hm, e, hk⟩ := hs.above (n := r) h1 (p := x) (by rw [h2]; exact QO hx)
 exact ⟨m, by rw [← e]; exact Y0 hs.rise hm, hk⟩
theorem Sheet.opqk {l : List Rec} (hs : Sheet l) {p : List UInt8} {r : Rec} (h : ve l p = some r) (ho : r.opq = true) : r.kind = 3 := Gj (hs.fault h) ho
theorem cut_under {l : List Rec} {p : List UInt8} (h : ∀ x ∈ jK p, ∀ r, ve l x = some r → r.kind = 3) : vL l p = yz l p := by
 rw [Bool.eq_iff_iff, yi, jW]
 constructor
 ·rintro ⟨x, hx, r, hr, hs⟩
  refine ⟨x, hx, r, hr, ?_⟩
  simpa [vz, h x hx r hr] using hs
 ·rintro ⟨x, hx, r, hr, hs⟩
  exact ⟨x, hx, r, hr, by simp [vz, hs]⟩
def Jx (l : List Rec) (x : List UInt8) : Bool := yz l x || (match ve l x with | some r => r.opq | none => false)
theorem Ji {l : List Rec} {p : List UInt8} (h : qc p ≠ []) : yz l p = Jx l (qc p) := by
 rw [Bool.eq_iff_iff, jW]
 unfold Jx
 rw [Bool.or_eq_true, jW, JP h]
 constructor
 ·rintro ⟨x, hx, r, hr, ho⟩
  rcases List.mem_cons.1 hx with rfl | hx
  ·right; rw [hr]; exact ho
  ·exact .inl ⟨x, hx, r, hr, ho⟩
 ·rintro (⟨x, hx, r, hr, ho⟩ | ho)
  ·exact ⟨x, List.mem_cons_of_mem _ hx, r, hr, ho⟩
  ·cases hl : ve l (qc p) with
   | none => rw [hl] at ho; cases ho
   | some r => rw [hl] at ho; exact ⟨_, List.mem_cons_self, r, hl, ho⟩
theorem XW {l : List Rec} (hs : Sheet l) {q : List UInt8} (hq : qH q = true) (hp : qc q ≠ []) {m : Rec} (hm : ve l (qc q) = some m) (hk : m.kind = 3) (hn : ve l q = none) : QE l q = if Jx l (qc q) then some none else none := by
 unfold QE
 rw [hn]
 show (if vL l q = true then some none else none) = _
 rw [cut_under, Ji hp]
 intro x hx r hr
 rw [JP hp] at hx
 rcases List.mem_cons.1 hx with rfl | hx
 ·rw [hm] at hr; rw [← Option.some.inj hr]; exact hk
 ·obtain ⟨m2, h1, h2⟩ := hs.anc hm hx
  rw [h1] at hr; rw [← Option.some.inj hr]; exact h2
theorem pigeon {α : Type} [DecidableEq α] : ∀ (l m : List α), l.Nodup → (∀ x ∈ l, x ∈ m) → l.length ≤ m.length := by
 intro l
 induction l with
 | nil => intro m _ _; simp
 | cons x l ih =>
  intro m hd hs
  have hx := hs x (by simp)
  have h1 := List.nodup_cons.1 hd
  have h2 := ih (m.erase x) h1.2 fun y hy => (List.mem_erase_of_ne (fun e => h1.1 (by rw [← e]; exact hy))).2 (hs y (by simp [hy]))
  rw [List.length_erase_of_mem hx] at h2
  have : 0 < m.length := List.length_pos_of_mem hx
  simp only [List.length_cons]; omega
def YJ (i : Nat) : List UInt8 := [122, UInt8.ofNat (97 + i / 16), UInt8.ofNat (97 + i % 16)]
theorem freeN_ok : ∀ i, i < 256 → jB (YJ i) = true := by
 have h : (List.range 256).all (fun i => jB (YJ i)) = true := by decide +kernel
 intro i hi
 exact (List.all_eq_true.1 h) i (List.mem_range.2 hi)
theorem freeN_noslash : ∀ i, i < 256 → cut 47 (YJ i) = [YJ i] := by
 have h : (List.range 256).all (fun i => decide (cut 47 (YJ i) = [YJ i])) = true := by decide +kernel
 intro i hi
 exact of_decide_eq_true ((List.all_eq_true.1 h) i (List.mem_range.2 hi))
theorem freeN_inj {i j : Nat} (hi : i < 256) (hj : j < 256) (h : YJ i = YJ j) : i = j := by
 unfold YJ at h
 injection h with _ h
 injection h with h1 h
 injection h with h2 _
 have e1 := congrArg UInt8.toNat h1
 have e2 := congrArg UInt8.toNat h2
 simp only [UInt8.toNat_ofNat'] at e1 e2
 omega
theorem joinL_le : ∀ (l : List (List UInt8)), (∀ x ∈ l, x.length ≤ 8) → (Qg l).length ≤ 9 * l.length - 1 := by
 intro l
 induction l with
 | nil => intro _; simp [Qg]
 | cons x l ih =>
  intro h
  have h1 := h x (by simp)
  have h2 := ih fun y hy => h y (by simp [hy])
  by_cases e : l = []
  ·subst e; simp [Qg]; omega
  ·rw [V5 x e]
   have := List.length_pos_iff.2 e
   simp only [List.length_append, List.length_cons]; omega
theorem Xl {p : List UInt8} (h : qH p = true) : (cut 47 p).length ≤ 4 ∧ ∀ x ∈ cut 47 p, jB x = true := by
 simp only [qH, Bool.and_eq_true, decide_eq_true_eq, List.all_eq_true] at h
 exact ⟨h.2.1, h.2.2⟩
theorem child_ok {x part : List UInt8} (hx : qH x = true) (hd : (cut 47 x).length < 4) (hp : jB part = true) (hc : cut 47 part = [part]) : qH (x ++ 47 :: part) = true ∧ qc (x ++ 47 :: part) = x := by
 have hcut : cut 47 (x ++ 47 :: part) = cut 47 x ++ [part] := by rw [cut_app2, hc]
 obtain ⟨h1, h2⟩ := Xl hx
 have h3 := joinL_le (cut 47 x) fun y hy => JX (h2 y hy)
 rw [V3] at h3
 have h4 := JX hp
 have hok : qH (x ++ 47 :: part) = true := by
  simp only [qH, Bool.and_eq_true, decide_eq_true_eq, List.all_eq_true, hcut]
  refine ⟨by simp; omega, by simp; omega, fun y hy => ?_⟩
  rcases List.mem_append.1 hy with hy | hy
  ·exact h2 y hy
  ·rw [List.mem_singleton.1 hy]; exact hp
 refine ⟨hok, ?_⟩
 have hb : vu (x ++ 47 :: part) x = true := (Q7 _ _).2 ⟨[part], by simp, hcut⟩
 obtain ⟨g1, g2 | g2⟩ := Xj hok hb
 ·exact g2
 ·have g3 := QH g2
  rw [cut_parent g1, hcut] at g3
  simp at g3
theorem fresh {a b : List Rec} (hlen : a.length + b.length < 256) {x : List UInt8} (hx : qH x = true) (hd : (cut 47 x).length < 4) :
  ∃ q, qH q = true ∧ qc q = x ∧ ve a q = none ∧ ve b q = none := by
 have key : ∃ i, i < 256 ∧ (x ++ 47 :: YJ i) ∉ a.map (·.path) ++ b.map (·.path) := by
  refine Classical.byContradiction fun hno => ?_
  have hall : ∀ i, i < 256 → (x ++ 47 :: YJ i) ∈ a.map (·.path) ++ b.map (·.path) := fun i hi => Classical.byContradiction fun h => hno ⟨i, hi, h⟩
  have hnd : ((List.range 256).map fun i => x ++ 47 :: YJ i).Nodup := by
   refine List.pairwise_map.2 (List.Pairwise.imp_of_mem (R := fun i j => i < j) (fun {i j} hi hj hlt e => ?_) List.pairwise_lt_range)
   have h1 := List.append_cancel_left e
   injection h1 with _ h1
   have := freeN_inj (List.mem_range.1 hi) (List.mem_range.1 hj) h1
   omega
  have hle := pigeon _ _ hnd fun y hy => by
   obtain ⟨i, hi, rfl⟩ := List.mem_map.1 hy
   exact hall i (List.mem_range.1 hi)
  simp at hle
  omega
 obtain ⟨i, hi, hni⟩ := key
 obtain ⟨h1, h2⟩ := child_ok hx hd (freeN_ok i hi) (freeN_noslash i hi)
 rw [List.mem_append, not_or] at hni
 refine ⟨_, h1, h2, ?_, ?_⟩
 ·cases h : ve a (x ++ 47 :: YJ i) with
  | none => rfl
  | some r => exact absurd (Xb.1 (by rw [h]; simp)) hni.1
 ·cases h : ve b (x ++ 47 :: YJ i) with
  | none => rfl
  | some r => exact absurd (Xb.1 (by rw [h]; simp)) hni.2
theorem look_fm {f : Rec → Option Rec} (hf : ∀ r x, f r = some x → x.path = r.path) {l : List Rec} (h : yt (l.map (·.path))) (p : List UInt8) : ve (l.filterMap f) p = (ve l p).bind f := by
 have h2 := (GM (fun r : Rec => r.path) f some (fun _ _ => none) hf (fun y z e => by rw [Option.some.inj e]) (fun x y z _ e => by cases e) _ l [] (Nat.le_refl _) h List.Pairwise.nil).2 p
 rw [JC] at h2
 refine h2.trans ?_
 show mrgO f some (fun _ _ => none) (ve l p) none = _
 cases ve l p <;> rfl
theorem Vm {l : List Rec} (hs : Sheet l) (p : List UInt8) : ve (vV l) p = (ve l p).bind (jH l) := look_fm (fun _ _ => Ye) hs.rise p
theorem Y7 {l : List Rec} {r : Rec} (h : yz l r.path = true) : jH l r = if r.kind = 4 then none else some ⟨r.kind, r.path, r.body, r.mode, false⟩ := by unfold jH; rw [if_pos h]
theorem VX {l : List Rec} {r : Rec} (h : yz l r.path = false) : jH l r = some ⟨r.kind, r.path, r.body, r.mode, r.opq && decide ((cut 47 r.path).length < 4)⟩ := by unfold jH; rw [if_neg (by rw [h]; simp)]
theorem G1 {r : Rec} (h : qx r = 0) (hk : r.kind = 4) : r.body = [] ∧ r.mode = 0 ∧ r.opq = false := by
 obtain ⟨_, _, _, h4, h5⟩ := (Qe r).1 h
 rw [Bool.or_eq_false_iff] at h4 h5
 simp [hk] at h4 h5
 exact ⟨h4.1, h5.2, h4.2⟩
theorem view_show {l : List Rec} {p : List UInt8} {n : Nd} (h : QE l p = some (some n)) : ∃ r, ve l p = some r ∧ r.kind ≠ 4 ∧ jP r = n := by
 unfold QE at h
 cases hl : ve l p with
 | none =>
  rw [hl] at h
  rcases ql (vL l p) with hc | hc
  ·simp [hc] at h
  ·simp [hc] at h
 | some r =>
  rw [hl] at h
  have h : VG r = some n := Option.some.inj h
  unfold VG at h
  by_cases hk : r.kind = 4
  ·rw [if_pos hk] at h; cases h
  ·rw [if_neg hk] at h; exact ⟨r, rfl, hk, Option.some.inj h⟩
theorem XF {l : List Rec} {p : List UInt8} {r : Rec} (h : ve l p = some r) : QE l p = some (VG r) := by unfold QE; rw [h]
set_option linter.unusedSectionVars false
section
variable {a b : List Rec} (ha : Sheet a) (hb : Sheet b) (hlen : a.length + b.length < 256) (hv : ∀ p, qH p = true → QE a p = QE b p)
include ha hb hlen hv
theorem dir_both {x : List UInt8} {m : Rec} (h : ve a x = some m) (hk : m.kind ≠ 4) : ∃ m', ve b x = some m' ∧ m'.kind ≠ 4 ∧ jP m' = jP m := by
 have h1 := hv x (ha.path h)
 rw [XF h] at h1
 unfold VG at h1
 rw [if_neg hk] at h1
 exact view_show h1.symm
theorem cover_eq {x : List UInt8} {m m' : Rec} (hx : qH x = true) (hd : (cut 47 x).length < 4) (h : ve a x = some m) (hk : m.kind = 3) (h' : ve b x = some m') (hk' : m'.kind = 3) : Jx a x = Jx b x := by
 obtain ⟨q, h1, h2, h3, h4⟩ := fresh hlen hx hd
 have hne : qc q ≠ [] := by rw [h2]; exact GZ hx
 have e1 := XW ha h1 hne (by rw [h2]; exact h) hk h3
 have e2 := XW hb h1 hne (by rw [h2]; exact h') hk' h4
 rw [h2] at e1 e2
 have e3 := hv q h1
 rw [e1, e2] at e3
 cases h5 : Jx a x <;> cases h6 : Jx b x <;> simp [h5, h6] at e3 ⊢
theorem under_eq {p : List UInt8} {r : Rec} (h : ve a p = some r) : yz a p = yz b p ∧ ∀ x ∈ jK p, ∃ m, ve b x = some m ∧ m.kind = 3 := by
 have hp := ha.path h
 have hall : ∀ x ∈ jK p, ∃ m, ve b x = some m ∧ m.kind = 3 := fun x hx => by
  obtain ⟨m, h1, h2⟩ := ha.anc h hx
  obtain ⟨m', h3, _, h5⟩ := dir_both ha hb hlen hv h1 (by omega)
  exact ⟨m', h3, by have := congrArg Nd.kind h5; simp only [jP] at this; omega⟩
 refine ⟨?_, hall⟩
 by_cases hpp : qc p = []
 ·have : ∀ l, yz l p = false := fun l => by unfold yz; rw [ancs_none hpp]; rfl
  rw [this, this]
 ·have hx : qc p ∈ jK p := by rw [JP hpp]; exact List.mem_cons_self
  obtain ⟨m, h1, h2⟩ := ha.anc h hx
  obtain ⟨m', h3, h4⟩ := hall _ hx
  rw [Ji hpp, Ji hpp]
  exact cover_eq ha hb hlen hv (ancs_ok hp hx) (XZ hp hx) h1 h2 h3 h4
theorem X7 {p : List UInt8} {r : Rec} (h : ve (vV a) p = some r) : ve (vV b) p = some r := by
 rw [Vm ha] at h
 rw [Vm hb]
 cases h0 : ve a p with
 | none => rw [h0] at h; cases h
 | some r0 =>
  rw [h0] at h
  have h : jH a r0 = some r := h
  have hp := ha.path h0
  have e0 := (jc h0).2
  obtain ⟨hu, hall⟩ := under_eq ha hb hlen hv h0
  by_cases hk : r0.kind = 4
  ·obtain ⟨w1, w2, w3⟩ := G1 (ha.fault h0) hk
   have hun : yz a p = false := by
    rcases ql (yz a p) with hh | hh
    ·rw [Y7 (by rw [e0]; exact hh), if_pos hk] at h; cases h
    ·exact hh
   rw [VX (by rw [e0]; exact hun)] at h
   have hv1 := hv p hp
   rw [XF h0] at hv1
   unfold VG at hv1
   rw [if_pos hk] at hv1
   cases h1 : ve b p with
   | none =>
    unfold QE at hv1
    rw [h1] at hv1
    have hc : vL b p = yz b p := cut_under fun x hx m hm => by
     obtain ⟨m', g1, g2⟩ := hall x hx
     rw [g1] at hm; rw [← Option.some.inj hm]; exact g2
    rw [hc, ← hu, hun] at hv1
    cases hv1
   | some rb =>
    have e1 := (jc h1).2
    rw [XF h1] at hv1
    have hk2 : rb.kind = 4 := by
     have := Option.some.inj hv1
     unfold VG at this
     split at this
     ·assumption
     ·cases this
    obtain ⟨y1, y2, y3⟩ := G1 (hb.fault h1) hk2
    show jH b rb = some r
    rw [VX (by rw [e1, ← hu]; exact hun), ← h, hk, hk2, e0, e1, w1, w2, w3, y1, y2, y3]
  ·obtain ⟨rb, h1, hk2, hnd⟩ := dir_both ha hb hlen hv h0 hk
   have e1 := (jc h1).2
   simp only [jP, Nd.mk.injEq] at hnd
   obtain ⟨n1, n2, n3, n4⟩ := hnd
   refine (congrArg (fun o : Option Rec => o.bind (jH b)) h1).trans ?_
   show jH b rb = some r
   rcases ql (yz a p) with hun | hun
   ·rw [Y7 (by rw [e0]; exact hun), if_neg hk] at h
    rw [Y7 (by rw [e1, ← hu]; exact hun), if_neg hk2, ← h, n1, n2, n3, n4]
   ·rw [VX (by rw [e0]; exact hun)] at h
    rw [VX (by rw [e1, ← hu]; exact hun), ← h, n1, n2, n3, n4]
    congr 2
    by_cases hd : (cut 47 r0.path).length < 4
    ·have hoo : rb.opq = r0.opq := by
      by_cases h3 : r0.kind = 3
      ·have hc := cover_eq ha hb hlen hv hp (by rw [← e0]; exact hd) h0 h3 h1 (by omega)
       unfold Jx at hc
       rw [h0, h1, ← hu, hun] at hc
       simpa using hc.symm
      ·have g1 : r0.opq = false := by
        rcases ql r0.opq with g | g
        ·exact absurd (ha.opqk h0 g) h3
        ·exact g
       have g2 : rb.opq = false := by
        rcases ql rb.opq with g | g
        ·exact absurd (hb.opqk h1 g) (by omega)
        ·exact g
       rw [g1, g2]
     rw [hoo]
    ·simp [hd]
end
theorem JW {a b : List Rec} (ha : Sheet a) (hb : Sheet b) (hlen : a.length + b.length < 256) (hv : ∀ p, qH p = true → QE a p = QE b p) : vV a = vV b := by
 refine Jk (fun r : Rec => r.path) (Yw (fun _ _ => Ye) ha.rise).1 (Yw (fun _ _ => Ye) hb.rise).1 fun p => ?_
 cases h : ve (vV a) p with
 | some r => exact h.trans (X7 ha hb hlen hv h).symm
 | none =>
  cases h' : ve (vV b) p with
  | none => exact h.trans h'.symm
  | some r =>
   have := X7 hb ha (by omega) (fun q hq => (hv q hq).symm) h'
   rw [h] at this; cases this
theorem Jv {l : List Rec} (hs : Sheet l) : ∀ (n : Nat) (p : List UInt8), (cut 47 p).length ≤ n → qH p = true → yz (vV l) p = yz l p := by
 intro n
 induction n with
 | zero =>
  intro p hn hp
  have h1 : ∀ x ∈ jK p, False := fun x hx => by have := QH (QO hx); omega
  rw [Bool.eq_iff_iff, jW, jW]
  exact ⟨fun ⟨x, hx, _⟩ => (h1 x hx).elim, fun ⟨x, hx, _⟩ => (h1 x hx).elim⟩
 | succ n ih =>
  intro p hn hp
  rw [Bool.eq_iff_iff, jW, jW]
  constructor
  ·rintro ⟨x, hx, r, hr, ho⟩
   rw [Vm hs] at hr
   cases h0 : ve l x with
   | none => rw [h0] at hr; cases hr
   | some r0 =>
    rw [h0] at hr
    have hr : jH l r0 = some r := hr
    refine ⟨x, hx, r0, h0, ?_⟩
    unfold jH at hr
    split at hr
    ·split at hr
     ·cases hr
     ·rw [← Option.some.inj hr] at ho; cases ho
    ·rw [← Option.some.inj hr] at ho
     simp only [Bool.and_eq_true] at ho
     exact ho.1
  ·rintro ⟨x, hx, r0, h0, ho⟩
   have hd := QH (QO hx)
   have hx4 := XZ hp hx
   have hi := ih x (by omega) (ancs_ok hp hx)
   rcases ql (yz l x) with hu | hu
   ·rw [hu, jW] at hi
    obtain ⟨y, hy, r, hr, hro⟩ := hi
    exact ⟨y, J5 hp hx hy, r, hr, hro⟩
   ·have e0 := (jc h0).2
    refine ⟨x, hx, _, by rw [Vm hs, h0]; exact VX (by rw [e0]; exact hu), ?_⟩
    simp only [Bool.and_eq_true, decide_eq_true_eq]
    exact ⟨ho, by rw [e0]; exact hx4⟩
theorem J0 {l : List Rec} {p : List UInt8} (h : yz l p = true) : vL l p = true := by
 obtain ⟨x, hx, r, hr, ho⟩ := (jW l p).1 h
 exact (yi l p).2 ⟨x, hx, r, hr, by simp [vz, ho]⟩
theorem YI {l : List Rec} {r x : Rec} (h : jH l r = some x) : x.kind = r.kind ∧ x.path = r.path ∧ x.body = r.body ∧ x.mode = r.mode ∧ (x.opq = true → r.opq = true) := by
 unfold jH at h
 split at h
 ·split at h
  ·cases h
  ·rw [← Option.some.inj h]; exact ⟨rfl, rfl, rfl, rfl, fun h => by cases h⟩
 ·rw [← Option.some.inj h]; exact ⟨rfl, rfl, rfl, rfl, fun h => by simp only [Bool.and_eq_true] at h; exact h.1⟩
theorem cuts_canon {l : List Rec} (hs : Sheet l) {p : List UInt8} (hp : qH p = true) : vL (vV l) p = vL l p := by
 rw [Bool.eq_iff_iff]
 constructor
 ·intro h
  obtain ⟨x, hx, r, hr, ho⟩ := (yi _ _).1 h
  rw [Vm hs] at hr
  cases h0 : ve l x with
  | none => rw [h0] at hr; cases hr
  | some r0 =>
   rw [h0] at hr
   have hr : jH l r0 = some r := hr
   obtain ⟨k1, _, _, _, k5⟩ := YI hr
   refine (yi _ _).2 ⟨x, hx, r0, h0, ?_⟩
   unfold vz at ho ⊢
   rw [k1] at ho
   rw [Bool.or_eq_true] at ho ⊢
   exact ho.imp id k5
 ·intro h
  obtain ⟨x, hx, r0, h0, ho⟩ := (yi _ _).1 h
  have e0 := (jc h0).2
  rcases ql (yz l x) with hu | hu
  ·have hup : yz l p = true := by
    obtain ⟨y, hy, r, hr, hro⟩ := (jW _ _).1 hu
    exact (jW _ _).2 ⟨y, J5 hp hx hy, r, hr, hro⟩
   exact J0 (by rw [Jv hs _ p (Nat.le_refl _) hp]; exact hup)
  ·by_cases hk : r0.kind = 3
   ·have hop : r0.opq = true := by simpa [vz, hk] using ho
    exact J0 (by rw [Jv hs _ p (Nat.le_refl _) hp]; exact (jW _ _).2 ⟨x, hx, r0, h0, hop⟩)
   ·refine (yi _ _).2 ⟨x, hx, _, by rw [Vm hs, h0]; exact VX (by rw [e0]; exact hu), ?_⟩
    simp [vz, hk]
theorem show_same {r x : Rec} (h1 : x.kind = r.kind) (h2 : x.path = r.path) (h3 : x.body = r.body) (h4 : x.mode = r.mode) : VG x = VG r := by
 unfold VG jP; rw [h1, h2, h3, h4]
theorem view_canon {l : List Rec} (hs : Sheet l) {p : List UInt8} (hp : qH p = true) : QE (vV l) p = QE l p := by
 have hc := cuts_canon hs hp
 have hu := Jv hs _ p (Nat.le_refl _) hp
 have hl := Vm hs p
 unfold QE
 cases h0 : ve l p with
 | none =>
  rw [h0] at hl
  have hl : ve (vV l) p = none := hl
  rw [hl, hc]
 | some r =>
  rw [h0] at hl
  have hl : ve (vV l) p = jH l r := hl
  have e0 := (jc h0).2
  cases hr : jH l r with
  | some x =>
   rw [hl, hr]
   obtain ⟨k1, k2, k3, k4, _⟩ := YI hr
   exact congrArg some (show_same k1 k2 k3 k4)
  | none =>
   rw [hl, hr]
   unfold jH at hr
   split at hr
   ·rename_i hun
    split at hr
    ·rename_i hk
     rw [e0] at hun
     have := J0 (hu.trans hun)
     simp only [this, if_true]
     unfold VG; rw [if_pos hk]
    ·cases hr
   ·cases hr
theorem JA {l : List Rec} (hs : Sheet l) : Sheet (vV l) := by
 have hmem : ∀ x ∈ vV l, ∃ r ∈ l, jH l r = some x := fun x hx => List.mem_filterMap.1 hx
 refine ⟨(Yw (fun _ _ => Ye) hs.rise).1, fun x hx => ?_, fun x hx hp => ?_⟩
 ·obtain ⟨r, hr, e⟩ := hmem x hx
  obtain ⟨k1, k2, k3, k4, k5⟩ := YI e
  have := Va (hs.ok r hr) x.opq (fun h => Gj (hs.ok r hr) (k5 h))
  rw [← k1, ← k2, ← k3, ← k4] at this
  exact this
 ·obtain ⟨r, hr, e⟩ := hmem x hx
  rw [Ye e] at hp ⊢
  obtain ⟨q, hq, e2, hk⟩ := hs.par r hr hp
  cases hc : jH l q with
  | none =>
   exfalso
   unfold jH at hc
   split at hc
   ·rw [if_neg (by omega)] at hc; cases hc
   ·cases hc
  | some y =>
   obtain ⟨k1, k2, _⟩ := YI hc
   exact ⟨y, List.mem_filterMap.2 ⟨q, hq, hc⟩, by rw [k2, e2], by rw [k1, hk]⟩
theorem QR {a b : List Rec} (ha : Sheet a) (hb : Sheet b) (p : List UInt8) : ve (YV a b) p = match ve a p, ve b p with
  | none, none => none | some x, none => if vL b p then none else some x | none, some y => some y | some x, some y => some (jg x y) := by
 have h := (GI ha.rise hb.rise).2 p
 refine h.trans ?_
 cases h1 : ve a p with
 | none =>
  cases h2 : ve b p with
  | none => simp only [h1, h2, mrgO]
  | some y => simp only [h1, h2, mrgO]
 | some x =>
  have e := (jc h1).2
  cases h2 : ve b p with
  | none => simp only [h1, h2, mrgO, e]
  | some y => simp only [h1, h2, mrgO]
theorem JZ (x y : Rec) : (jg x y).kind = y.kind ∧ (jg x y).path = y.path ∧ (jg x y).body = y.body ∧ (jg x y).mode = y.mode := by
 unfold jg; split <;> exact ⟨rfl, rfl, rfl, rfl⟩
theorem Jz (x y : Rec) : vz (jg x y) = (vz y || vz x) := by
 unfold jg
 split
 ·rename_i h; simp [vz, h.1]
  rcases ql (y.opq) with h2 | h2 <;> simp [h2]
  have := h.2
  simpa [vz] using this
 ·rename_i h
  rcases ql (vz x) with h2 | h2
  ·have : y.kind ≠ 3 := fun h3 => h ⟨h3, h2⟩
   simp [vz, this]
  ·rw [h2, Bool.or_false]
theorem cut_anc {l : List Rec} {p x : List UInt8} (hp : qH p = true) (hx : x ∈ jK p) (h : vL l x = true) : vL l p = true := by
 obtain ⟨y, hy, r, hr, hs⟩ := (yi _ _).1 h
 exact (yi _ _).2 ⟨y, J5 hp hx hy, r, hr, hs⟩
theorem cuts_two {a b : List Rec} (ha : Sheet a) (hb : Sheet b) {p : List UInt8} (hp : qH p = true) : vL (YV a b) p = (vL b p || vL a p) := by
 rw [Bool.eq_iff_iff, Bool.or_eq_true]
 constructor
 ·intro h
  obtain ⟨x, hx, r, hr, hs⟩ := (yi _ _).1 h
  rw [QR ha hb] at hr
  cases h1 : ve a x with
  | none =>
   cases h2 : ve b x with
   | none => rw [h1, h2] at hr; cases hr
   | some y => rw [h1, h2] at hr; rw [← Option.some.inj hr] at hs; exact .inl ((yi _ _).2 ⟨x, hx, y, h2, hs⟩)
  | some u =>
   cases h2 : ve b x with
   | none =>
    rw [h1, h2] at hr
    rcases ql (vL b x) with hc | hc
    ·exact .inl (cut_anc hp hx hc)
    ·simp only [hc, Bool.false_eq_true, if_false] at hr
     rw [← Option.some.inj hr] at hs
     exact .inr ((yi _ _).2 ⟨x, hx, u, h1, hs⟩)
   | some y =>
    rw [h1, h2] at hr
    rw [← Option.some.inj hr, Jz, Bool.or_eq_true] at hs
    exact hs.imp (fun h => (yi _ _).2 ⟨x, hx, y, h2, h⟩) (fun h => (yi _ _).2 ⟨x, hx, u, h1, h⟩)
 ·intro h
  rcases ql (vL b p) with hc | hc
  ·obtain ⟨x, hx, r, hr, hs⟩ := (yi _ _).1 hc
   cases h1 : ve a x with
   | none => exact (yi _ _).2 ⟨x, hx, r, by rw [QR ha hb, h1, hr], hs⟩
   | some u => exact (yi _ _).2 ⟨x, hx, jg u r, by rw [QR ha hb, h1, hr], by rw [Jz, hs]; rfl⟩
  ·have h := h.resolve_left (by rw [hc]; simp)
   obtain ⟨x, hx, r, hr, hs⟩ := (yi _ _).1 h
   cases h2 : ve b x with
   | none =>
    have hcx : vL b x = false := by
     rcases ql (vL b x) with g | g
     ·rw [cut_anc hp hx g] at hc; cases hc
     ·exact g
    exact (yi _ _).2 ⟨x, hx, r, by rw [QR ha hb, hr, h2]; simp only [hcx, Bool.false_eq_true, if_false], hs⟩
   | some y => exact (yi _ _).2 ⟨x, hx, jg r y, by rw [QR ha hb, hr, h2], by rw [Jz, hs]; simp⟩
theorem view_two {a b : List Rec} (ha : Sheet a) (hb : Sheet b) {p : List UInt8} (hp : qH p = true) : QE (YV a b) p = (QE b p).or (QE a p) := by
 have hc := cuts_two ha hb hp
 have hl := QR ha hb p
 unfold QE
 cases h1 : ve a p with
 | none =>
  cases h2 : ve b p with
  | none =>
   rw [h1, h2] at hl
   rw [hl]
   simp only [hc]
   cases vL b p <;> cases vL a p <;> rfl
  | some y => rw [h1, h2] at hl; rw [hl]; rfl
 | some x =>
  cases h2 : ve b p with
  | none =>
   rw [h1, h2] at hl
   rw [hl]
   rcases ql (vL b p) with g | g
   ·simp only [g, if_true, hc, Bool.true_or]; rfl
   ·simp only [g, Bool.false_eq_true, if_false]; rfl
  | some y =>
   rw [h1, h2] at hl; rw [hl]
   obtain ⟨k1, k2, k3, k4⟩ := JZ x y
   exact congrArg some (show_same k1 k2 k3 k4)
theorem JG {a b : List Rec} (ha : Sheet a) (hb : Sheet b) : Sheet (YV a b) := by
 have hr := (GI ha.rise hb.rise).1
 have hlk : ∀ r ∈ YV a b, ve (YV a b) r.path = some r := fun r h => Y0 hr h
 have hdir : ∀ p, (∃ m, ve (YV a b) p = some m ∧ m.kind = 3) → ∃ q ∈ YV a b, q.path = p ∧ q.kind = 3 := fun p ⟨m, h1, h2⟩ => by
  obtain ⟨g1, g2⟩ := jc h1
  exact ⟨m, g1, g2, h2⟩
 refine ⟨hr, fun r hm => ?_, fun r hm hp => hdir _ ?_⟩
 ·have h := hlk r hm
  rw [QR ha hb] at h
  cases h1 : ve a r.path with
  | none =>
   cases h2 : ve b r.path with
   | none => rw [h1, h2] at h; cases h
   | some y => rw [h1, h2] at h; rw [← Option.some.inj h]; exact hb.fault h2
  | some x =>
   cases h2 : ve b r.path with
   | none =>
    rw [h1, h2] at h
    rcases ql (vL b r.path) with g | g
    ·simp [g] at h
    ·simp only [g, Bool.false_eq_true, if_false] at h
     rw [← Option.some.inj h]; exact ha.fault h1
   | some y =>
    rw [h1, h2] at h
    rw [← Option.some.inj h]
    unfold jg
    split
    ·rename_i hh; exact Va (hb.fault h2) true fun _ => hh.1
    ·exact hb.fault h2
 ·have h := hlk r hm
  have hx : qc r.path ∈ jK r.path := by rw [JP hp]; exact List.mem_cons_self
  rw [QR ha hb] at h
  have hfromb : ∀ y, ve b r.path = some y → ∃ m, ve (YV a b) (qc r.path) = some m ∧ m.kind = 3 := fun y h2 => by
   obtain ⟨m, g1, g2⟩ := hb.anc h2 hx
   cases h3 : ve a (qc r.path) with
   | none => exact ⟨m, by rw [QR ha hb, h3, g1], g2⟩
   | some z => exact ⟨jg z m, by rw [QR ha hb, h3, g1], by rw [(JZ z m).1]; exact g2⟩
  cases h2 : ve b r.path with
  | some y => exact hfromb y h2
  | none =>
   cases h1 : ve a r.path with
   | none => rw [h1, h2] at h; cases h
   | some x =>
    rw [h1, h2] at h
    have hpok := ha.path h1
    rcases ql (vL b r.path) with g | g
    ·simp [g] at h
    ·obtain ⟨m, g1, g2⟩ := ha.anc h1 hx
     cases h3 : ve b (qc r.path) with
     | none =>
      have hcx : vL b (qc r.path) = false := by
       rcases ql (vL b (qc r.path)) with g9 | g9
       ·rw [cut_anc hpok hx g9] at g; cases g
       ·exact g9
      exact ⟨m, by rw [QR ha hb, g1, h3]; simp only [hcx, Bool.false_eq_true, if_false], g2⟩
     | some y =>
      have hk : y.kind = 3 := by
       refine Classical.byContradiction fun hk => ?_
       have : vL b r.path = true := (yi _ _).2 ⟨_, hx, y, h3, by simp [vz, hk]⟩
       rw [this] at g; cases g
      exact ⟨jg m y, by rw [QR ha hb, g1, h3], by rw [(JZ m y).1]; exact hk⟩
theorem Jj {a b : List Rec} (ha : Sheet a) (hb : Sheet b) : Sheet (ym a b) := JA (JG ha hb)
theorem view_squash {a b : List Rec} (ha : Sheet a) (hb : Sheet b) {p : List UInt8} (hp : qH p = true) : QE (ym a b) p = (QE b p).or (QE a p) := (view_canon (JG ha hb) hp).trans (view_two ha hb hp)
theorem Sheet.nil : Sheet [] := ⟨List.Pairwise.nil, by simp, by simp⟩
theorem view_nil (p : List UInt8) : QE [] p = none := by
 have : vL [] p = false := by
  rcases ql (vL [] p) with h | h
  ·obtain ⟨x, _, r, hl, _⟩ := (yi [] p).1 h; cases hl
  ·exact h
 unfold QE
 show (if vL [] p = true then some none else none) = none
 rw [this]; rfl
theorem J8 {l : List Rec} {t : List Nd} (hs : Sheet l) (ht : Wood t) (p : List UInt8) : y5 (vC l t) p = (QE l p).getD (y5 t p) := by
 rw [(YK t ht _ l rfl hs).2.1, seen_view]
theorem wood_eq {s t : List Nd} (hs : Wood s) (ht : Wood t) (h : ∀ p, qH p = true → y5 s p = y5 t p) : s = t := by
 refine Jk (fun n : Nd => n.path) hs.rise ht.rise fun p => ?_
 rcases ql (qH p) with hp | hp
 ·exact h p hp
 ·have hno : ∀ {t : List Nd}, Wood t → y5 t p = none := fun {t} hw => by
   cases hl : y5 t p with
   | none => rfl
   | some n =>
    obtain ⟨h1, h2⟩ := jD hl
    rw [← h2, Q2 (hw.ok n h1)] at hp; cases hp
  exact (hno hs).trans (hno ht).symm
theorem Y6 {l : List Rec} {t : List Nd} (hl : Sheet l) (ht : Wood t) : Wood (vC l t) := (YK t ht _ l rfl hl).1
theorem apply_squash {a b : List Rec} {t : List Nd} (ha : Sheet a) (hb : Sheet b) (ht : Wood t) : vC (ym a b) t = vC b (vC a t) :=
 wood_eq (Y6 (Jj ha hb) ht) (Y6 hb (Y6 ha ht)) fun p hp => by
  rw [J8 (Jj ha hb) ht, J8 hb (Y6 ha ht), J8 ha ht, view_squash ha hb hp]
  cases QE b p <;> rfl
theorem canon_idem {l : List Rec} (hl : Sheet l) (h : l.length < 128) : vV (vV l) = vV l := by
 have := canonL_len l
 exact JW (JA hl) hl (by omega) fun p hp => view_canon hl hp
theorem canon_squash {a b : List Rec} (ha : Sheet a) (hb : Sheet b) (h : a.length + b.length < 128) : vV (ym a b) = ym a b := by
 have := Gg a b
 exact canon_idem (JG ha hb) (by omega)
theorem Xn (a : List Rec) : ym [] a = vV a := by
 unfold ym YV
 rw [VN]
 congr 1
 exact List.filterMap_some
theorem GU {a : List Rec} (ha : Sheet a) (h : a.length < 128) : ym a [] = vV a := by
 have := Gg a []
 simp only [List.length_nil] at this
 refine JW (JG ha Sheet.nil) ha (by omega) fun p hp => ?_
 rw [view_two ha Sheet.nil hp, view_nil]; rfl
set_option linter.unusedSectionVars false
section
variable {x y : List Rec} (hx : Sheet x) (hy : Sheet y) (cx : vV x = x) (cy : vV y = y) {p : List UInt8} (hp : qH p = true) (hlt : ∀ q, ltP q p = true → ve x q = ve y q)
include hx hy cx cy hp hlt
end
def QC (r x : Rec) : Bool := !decide (x.path = r.path) && (decide (r.kind = 3) || !vu x.path r.path)
def VO (l : List Rec) (r : Rec) : List Rec := (l.filter fun x => QC r x && ltP x.path r.path) ++ r :: l.filter fun x => QC r x && ltP r.path x.path
def V4 (l : List Rec) (p : List UInt8) : Bool := decide (0 ≤ qD l p) && decide ((gt l (qD l p)).kind = 3)
def Qy : Nat → List Rec → Rec → List Rec
 | 0, l, r => VO l r
 | n + 1, l, r => VO (if qc r.path ≠ [] ∧ V4 l (qc r.path) = false then Qy n l ⟨3, qc r.path, [], 493, false⟩ else l) r
theorem hasDir_iff {l : List Rec} {p : List UInt8} : V4 l p = true ↔ ∃ q, ve l p = some q ∧ q.kind = 3 := by
 unfold V4
 rw [Bool.and_eq_true, decide_eq_true_eq, decide_eq_true_eq]
 constructor
 ·rintro ⟨h1, h2⟩
  cases h : ve l p with
  | none => exact absurd h ((je l p).1.1 h1)
  | some r => rw [(je l p).2 r h] at h2; exact ⟨r, rfl, h2⟩
 ·rintro ⟨q, h1, h2⟩
  exact ⟨(je l p).1.2 (by rw [h1]; simp), by rw [(je l p).2 q h1]; exact h2⟩
theorem QG {l : List Rec} {r x : Rec} : x ∈ VO l r ↔ x = r ∨ (x ∈ l ∧ QC r x = true) := by
 unfold VO
 simp only [List.mem_append, List.mem_cons, List.mem_filter, Bool.and_eq_true]
 constructor
 ·rintro (⟨h1, h2, _⟩ | h | ⟨h1, h2, _⟩)
  ·exact .inr ⟨h1, h2⟩
  ·exact .inl h
  ·exact .inr ⟨h1, h2⟩
 ·rintro (h | ⟨h1, h2⟩)
  ·exact .inr (.inl h)
  ·rcases ql (ltP x.path r.path) with h3 | h3
   ·exact .inl ⟨h1, h2, h3⟩
   ·rcases ql (ltP r.path x.path) with h4 | h4
    ·exact .inr (.inr ⟨h1, h2, h4⟩)
    ·have := YG h3 h4
     unfold QC at h2
     rw [decide_eq_true this] at h2; simp at h2
theorem X8 {l : List Rec} {r : Rec} (h : yt (l.map (·.path))) : yt ((VO l r).map (·.path)) := by
 have hf : ∀ q : Rec → Bool, yt ((l.filter q).map (·.path)) := fun q => Vq (fun r : Rec => r.path) q h
 unfold VO
 rw [List.map_append, List.map_cons]
 refine List.pairwise_append.2 ⟨hf _, List.pairwise_cons.2 ⟨fun p hp => ?_, hf _⟩, fun a ha b hb => ?_⟩
 ·obtain ⟨x, hx, rfl⟩ := List.mem_map.1 hp
  have := (List.mem_filter.1 hx).2
  rw [Bool.and_eq_true] at this
  exact this.2
 ·obtain ⟨x, hx, rfl⟩ := List.mem_map.1 ha
  have h1 := (List.mem_filter.1 hx).2
  rw [Bool.and_eq_true] at h1
  rcases List.mem_cons.1 hb with rfl | hb
  ·exact h1.2
  ·obtain ⟨y, hy, rfl⟩ := List.mem_map.1 hb
   have h2 := (List.mem_filter.1 hy).2
   rw [Bool.and_eq_true] at h2
   exact Qj h1.2 h2.2
theorem Jw {l : List Rec} {r : Rec} (hl : Sheet l) (hr : qx r = 0) (hp : qc r.path ≠ [] → ∃ q ∈ l, q.path = qc r.path ∧ q.kind = 3) : Sheet (VO l r) := by
 have hrp := yg hr
 refine ⟨X8 hl.rise, fun x hx => ?_, fun x hx hpx => ?_⟩
 ·rcases QG.1 hx with rfl | ⟨h1, _⟩
  ·exact hr
  ·exact hl.ok x h1
 ·rcases QG.1 hx with rfl | ⟨h1, h2⟩
  ·obtain ⟨q, q1, q2, q3⟩ := hp hpx
   refine ⟨q, QG.2 (.inr ⟨q1, ?_⟩), q2, q3⟩
   have hb := jb hpx
   unfold QC
   rw [decide_eq_false (by rw [q2]; exact fun e => XP hb e.symm), q2, Xe hb]; simp
  ·obtain ⟨q, q1, q2, q3⟩ := hl.par x h1 hpx
   unfold QC at h2
   rw [Bool.and_eq_true, Bool.or_eq_true, decide_eq_true_eq] at h2
   by_cases e : q.path = r.path
   ·rcases h2.2 with h3 | h3
    ·exact ⟨r, QG.2 (.inl rfl), by rw [← e, q2], h3⟩
    ·have : vu x.path r.path = true := by rw [← e, q2]; exact jb hpx
     rw [this] at h3; cases h3
   ·refine ⟨q, QG.2 (.inr ⟨q1, ?_⟩), q2, q3⟩
    unfold QC
    rw [decide_eq_false e]
    rcases h2.2 with h3 | h3
    ·simp [h3]
    ·rcases ql (vu q.path r.path) with h4 | h4
     ·have := Yf (jb hpx) (q2 ▸ h4)
      rw [this] at h3; cases h3
     ·simp [h4]
theorem GB {p : List UInt8} (h : qc p ≠ []) : 1 < (cut 47 p).length := by
 have h1 := QH (jb h)
 refine Classical.byContradiction fun h2 => h ?_
 have h3 : cut 47 (qc p) = [] := List.eq_nil_of_length_eq_zero (by omega)
 have := V3 (qc p)
 rw [h3] at this
 exact this.symm
theorem dirR_ok {p : List UInt8} (h : qH p = true) : qx ⟨3, p, [], 493, false⟩ = 0 := (Qe _).2 ⟨rfl, h, rfl, rfl, rfl⟩
theorem putR_Sheet : ∀ (n : Nat) (l : List Rec) (r : Rec), Sheet l → qx r = 0 → (cut 47 r.path).length ≤ n + 1 → Sheet (Qy n l r) ∧ r ∈ Qy n l r := by
 intro n
 induction n with
 | zero =>
  intro l r hl hr hd
  exact ⟨Jw hl hr fun hp => by have := GB hp; omega, QG.2 (.inl rfl)⟩
 | succ n ih =>
  intro l r hl hr hd
  rw [Qy]
  by_cases hc : qc r.path ≠ [] ∧ V4 l (qc r.path) = false
  ·rw [if_pos hc]
   have hpp := YS (yg hr) hc.1
   have hdd := QH (jb hc.1)
   obtain ⟨i1, i2⟩ := ih l ⟨3, qc r.path, [], 493, false⟩ hl (dirR_ok hpp) (by show (cut 47 (qc r.path)).length ≤ n + 1; omega)
   exact ⟨Jw i1 hr fun _ => ⟨_, i2, rfl, rfl⟩, QG.2 (.inl rfl)⟩
  ·rw [if_neg hc]
   refine ⟨Jw hl hr fun hp => ?_, QG.2 (.inl rfl)⟩
   have hh : V4 l (qc r.path) = true := by
    rcases ql (V4 l (qc r.path)) with h | h
    ·exact h
    ·exact absurd ⟨hp, h⟩ hc
   obtain ⟨q, q1, q2⟩ := hasDir_iff.1 hh
   obtain ⟨g1, g2⟩ := jc q1
   exact ⟨q, g1, g2, q2⟩
theorem GN (l : List Rec) (r : Rec) : (VO l r).length ≤ l.length + 1 := by
 have h : ∀ (q : Rec → Bool) (m : List Rec), (m.filter fun x => QC r x && ltP x.path r.path).length + (m.filter fun x => QC r x && ltP r.path x.path).length ≤ m.length := by
  intro _ m
  induction m with
  | nil => simp
  | cons x m ih =>
   rcases ql (ltP x.path r.path) with h1 | h1
   ·have h2 := VW h1
    rcases ql (QC r x) with h3 | h3 <;> simp [h1, h2, h3] <;> omega
   ·rcases ql (QC r x) with h3 | h3 <;> rcases ql (ltP r.path x.path) with h4 | h4 <;> simp [h1, h3, h4] <;> omega
 have := h (fun _ => true) l
 unfold VO
 simp only [List.length_append, List.length_cons]; omega
theorem putR_len : ∀ (n : Nat) (l : List Rec) (r : Rec), (Qy n l r).length ≤ l.length + n + 1 := by
 intro n
 induction n with
 | zero => intro l r; exact GN l r
 | succ n ih =>
  intro l r
  rw [Qy]
  split
  ·have h1 := GN (Qy n l ⟨3, qc r.path, [], 493, false⟩) r
   have h2 := ih l ⟨3, qc r.path, [], 493, false⟩
   omega
  ·have := GN l r; omega
theorem sheet_wood {l : List Rec} (hl : Sheet l) (h : ∀ r ∈ l, r.kind ≠ 4) : Wood (l.map jP) := by
 refine ⟨by rw [List.map_map]; exact hl.rise, fun n hn => ?_, fun n hn hp => ?_⟩
 ·obtain ⟨r, hr, rfl⟩ := List.mem_map.1 hn
  exact G8 (hl.ok r hr) (h r hr)
 ·obtain ⟨r, hr, rfl⟩ := List.mem_map.1 hn
  obtain ⟨q, q1, q2, q3⟩ := hl.par r hr hp
  exact ⟨jP q, List.mem_map.2 ⟨q, q1, rfl⟩, q2, q3⟩
end Go.UL
