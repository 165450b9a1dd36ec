import Derived.Test.YtdhmlillkbjjjaaGreatDooryP24
set_option linter.unusedVariables false
set_option linter.unusedSimpArgs false
namespace Go.UL
open Go.RowKit
structure Wood (t : List Nd) : Prop where
 rise : ju (t.map (·.path))
 ok : ∀ n ∈ t,nodeOK n = true
 par : ∀ n ∈ t,qe n.path ≠ []→∃ m ∈ t,m.path = qe n.path∧m.kind = 3
structure Sheet (l : List Rec) : Prop where
 rise : ju (l.map (·.path))
 ok : ∀ r ∈ l,qR r = 0
 par : ∀ r ∈ l,qe r.path ≠ []→∃ q ∈ l,q.path = qe r.path∧q.kind = 3
abbrev vR (t : List Nd) (p : List UInt8) : Option Nd:=Qf (fun n : Nd=>n.path) t p
abbrev Qj (l : List Rec) (p : List UInt8) : Option Rec:=Qf (fun r : Rec=>r.path) l p
theorem Vl {t : List Nd} (h : ju (t.map (·.path))) {n : Nd} (hn : n ∈ t) : vR t n.path = some n:=V5 (fun n : Nd=>n.path) h n hn
theorem lookR_mem {l : List Rec} (h : ju (l.map (·.path))) {r : Rec} (hr : r ∈ l) : Qj l r.path = some r:=V5 (fun r : Rec=>r.path) h r hr
theorem yB {t : List Nd} {p : List UInt8} {n : Nd} (h : vR t p = some n) : n ∈ t∧n.path = p:=Ji _ h
theorem XA {l : List Rec} {p : List UInt8} {r : Rec} (h : Qj l p = some r) : r ∈ l∧r.path = p:=Ji _ h
theorem vP (t : List Nd) (p : List UInt8) : (0≤qC t p ↔ vR t p ≠ none)∧∀ x,vR t p = some x→gt t (qC t p) = x:=YS (fun n : Nd=>n.path) t p
theorem VG (l : List Rec) (p : List UInt8) : (0≤yR l p ↔ Qj l p ≠ none)∧∀ x,Qj l p = some x→gt l (yR l p) = x:=YS (fun r : Rec=>r.path) l p
theorem JG {α : Type} [Inhabited α] (f : α→List UInt8) {l : List α} (h : ju (l.map f)) {i j : Nat} (hij : i < j) (hj : j < l.length) : ltP (f (l.getD i default)) (f (l.getD j default)) = true:=by
 rw [vS (by omega),vS hj]
 have:=List.pairwise_iff_getElem.1 (List.pairwise_map.1 h) i j (by omega) hj hij
 exact this
theorem idx_lt {α : Type} [Inhabited α] (f : α→List UInt8) {l : List α} (h : ju (l.map f)) {i : Nat} (hi : i < l.length) {m : α} (hm : m ∈ l) (hlt : ltP (f m) (f (l.getD i default)) = true) : m ∈ l.take i:=by
 obtain ⟨j,hj,rfl⟩:=List.getElem_of_mem hm
 by_cases hji : j < i
 ·rw [List.mem_take_iff_getElem]
  exact ⟨j,by omega,rfl⟩
 ·exfalso
  have e : l[j] = l.getD j default:=(vS hj).symm
  rw [e] at hlt
  by_cases he : i = j
  ·subst he; rw [Qd] at hlt; cases hlt
  ·have:=JG f h (show i < j by omega) hj
   rw [Vm this] at hlt; cases hlt
theorem JE {α : Type} (f : α→List UInt8) {l : List α} (h : ju (l.map f)) (i : Nat) : ju ((l.take i).map f):=by
 rw [List.map_take]; exact List.Pairwise.sublist (List.take_sublist _ _) h
def woodOK (t : List Nd) : Bool:=(List.range t.length).all (yo t)
theorem Q9 (t : List Nd) : qX t = (decide (t.length≤24) && woodOK t):=rfl
theorem J6 {t : List Nd} (h : woodOK t = true) : Wood t:=by
 have hat : ∀ i,i < t.length→yo t i = true:=fun i hi=>List.all_eq_true.1 h i (List.mem_range.2 hi)
 have hr : ju (t.map (·.path)):=VT _ fun i h0 hi=>by
  have:=hat i hi
  have h9 : ¬ i = 0:=by omega
  simp only [yo,Bool.and_eq_true,h9,decide_false,Bool.false_or] at this
  exact this.1.2
 refine ⟨hr,fun n hn=>?_,fun n hn hp=>?_⟩
 ·obtain ⟨i,hi,rfl⟩:=List.getElem_of_mem hn
  have:=hat i hi
  simp only [yo,Bool.and_eq_true,vS hi] at this
  exact this.1.1
 ·obtain ⟨i,hi,rfl⟩:=List.getElem_of_mem hn
  have:=hat i hi
  simp only [yo,Bool.and_eq_true,vS hi] at this
  have h2:=this.2
  unfold yd at h2
  simp only [hp,decide_false,Bool.false_or,Bool.and_eq_true,decide_eq_true_eq] at h2
  cases hl : vR (t.take i) (qe t[i].path) with
  | none=>exact absurd hl ((vP _ _).1.1 h2.1)
  | some m=>
   obtain ⟨hm,he⟩:=yB hl
   rw [(vP _ _).2 m hl] at h2
   exact ⟨m,List.mem_of_mem_take hm,he,h2.2⟩
theorem j0 {t : List Nd} (h : qX t = true) : Wood t:=by
 rw [Q9,Bool.and_eq_true] at h
 exact J6 h.2
theorem jS {t : List Nd} (h : qX t = true) : t.length≤24:=(Gv h).1
theorem Gw {l : List Rec} (h : Sheet l) (hn : l.length≤16) : (jU l).2 = 0:=by
 rw [Jt fun i hi=>?_]
 have hm : l.getD i default ∈ l:=by rw [vS hi]; exact List.getElem_mem hi
 unfold Yi
 rw [if_neg (by omega),if_neg (by rw [h.ok _ hm]; simp)]
 have hlt : 0 < i→ltP (l.getD (i - 1) default).path (l.getD i default).path = true:=fun h0=>JG (fun r : Rec=>r.path) h.rise (show i - 1 < i by omega) hi
 rw [if_neg (fun ⟨h0,e⟩=>Gi (hlt h0) e.symm),if_neg (fun ⟨h0,e⟩=>by have:=hlt h0; unfold ltP at this; rw [e] at this; cases this)]
 by_cases hp : qe (l.getD i default).path = []
 ·rw [if_pos hp]
 ·obtain ⟨m,hmt,he,hk⟩:=h.par _ hm hp
  have hmi : m ∈ l.take i:=idx_lt (fun r : Rec=>r.path) h.rise hi hmt (by
   show ltP m.path (l.getD i default).path = true
   rw [he]; exact Jc hp)
  have hl:=lookR_mem (JE (fun r : Rec=>r.path) h.rise i) hmi
  rw [he] at hl
  have h1:=(VG (l.take i) (qe (l.getD i default).path)).1.2 (by rw [hl]; simp)
  have h2:=(VG (l.take i) (qe (l.getD i default).path)).2 m hl
  rw [gtake l i _ h1 (G2 _ _)] at h2
  rw [if_neg hp,if_neg (by omega),if_neg (by rw [h2]; simp [hk])]
theorem Wood.up {t : List Nd} (h : Wood t) : ∀ (k : Nat) (n : Nd),n ∈ t→n.path.length≤k→∀ p ∈ yv n.path,∃ m ∈ t,m.path = p∧m.kind = 3:=by
 intro k
 induction k with
 | zero=>
  intro n hn hk p hp
  have : n.path = []:=List.eq_nil_of_length_eq_zero (by omega)
  rw [this,y4,if_pos yt] at hp; cases hp
 | succ k ih=>
  intro n hn hk p hp
  rw [y4] at hp
  by_cases hpp : qe n.path = []
  ·rw [if_pos hpp] at hp; cases hp
  ·rw [if_neg hpp] at hp
   obtain ⟨m,hm,he,hk3⟩:=h.par n hn hpp
   have hne : n.path ≠ []:=fun e=>by rw [e] at hpp; exact hpp yt
   rcases List.mem_cons.1 hp with rfl | hp
   ·exact ⟨m,hm,he,hk3⟩
   ·exact ih m hm (by rw [he]; have:=jl hne; omega) p (by rw [he]; exact hp)
theorem Ge {n : Nd} (h : nodeOK n = true) : qR (qM n) = 0∧n.kind ≠ 4:=by
 simp only [nodeOK,Bool.and_eq_true,decide_eq_true_eq,Bool.not_eq_true',decide_eq_false_iff_not] at h
 exact h
theorem Wood.above {t : List Nd} (h : Wood t) {n : Nd} (hn : n ∈ t) {p : List UInt8} (hb : y6 n.path p = true) : ∃ m ∈ t,m.path = p∧m.kind = 3:=
 h.up _ n hn (Nat.le_refl _) p (VN (yY (h.ok n hn)) hb)
theorem Sheet.up {t : List Rec} (h : Sheet t) : ∀ (k : Nat) (n : Rec),n ∈ t→n.path.length≤k→∀ p ∈ yv n.path,∃ m ∈ t,m.path = p∧m.kind = 3:=by
 intro k
 induction k with
 | zero=>
  intro n hn hk p hp
  have : n.path = []:=List.eq_nil_of_length_eq_zero (by omega)
  rw [this,y4,if_pos yt] at hp; cases hp
 | succ k ih=>
  intro n hn hk p hp
  rw [y4] at hp
  by_cases hpp : qe n.path = []
  ·rw [if_pos hpp] at hp; cases hp
  ·rw [if_neg hpp] at hp
   obtain ⟨m,hm,he,hk3⟩:=h.par n hn hpp
   have hne : n.path ≠ []:=fun e=>by rw [e] at hpp; exact hpp yt
   rcases List.mem_cons.1 hp with rfl | hp
   ·exact ⟨m,hm,he,hk3⟩
   ·exact ih m hm (by rw [he]; have:=jl hne; omega) p (by rw [he]; exact hp)
theorem Sheet.above {t : List Rec} (h : Sheet t) {n : Rec} (hn : n ∈ t) {p : List UInt8} (hb : y6 n.path p = true) : ∃ m ∈ t,m.path = p∧m.kind = 3:=
 h.up _ n hn (Nat.le_refl _) p (VN (jW (h.ok n hn)) hb)
def showR (r : Rec) : Option Nd:=if r.kind = 4 then none else some (ndOf r)
theorem Jg (r : Rec) : qR r = 0 ↔ within r.kind 1 4 = true∧qI r.path = true∧(decide (20 < r.body.length) || (decide (r.kind = 2) && decide (r.body = []))) = false∧
  (((decide (r.kind = 3) || decide (r.kind = 4)) && !decide (r.body = [])) || (!decide (r.kind = 3) && r.opq)) = false∧(!within r.mode 0 511 || ((decide (r.kind = 2) || decide (r.kind = 4)) && !decide (r.mode = 0))) = false:=by
 unfold qR
 generalize (!within r.mode 0 511 || ((decide (r.kind = 2) || decide (r.kind = 4)) && !decide (r.mode = 0))) = c5
 generalize (((decide (r.kind = 3) || decide (r.kind = 4)) && !decide (r.body = [])) || (!decide (r.kind = 3) && r.opq)) = c4
 generalize (decide (20 < r.body.length) || (decide (r.kind = 2) && decide (r.body = []))) = c3
 cases within r.kind 1 4 <;> cases qI r.path <;> cases c3 <;> cases c4 <;> cases c5 <;> simp
theorem Vh {l : List Rec} {p : List UInt8} : Qj l p ≠ none ↔ p ∈ l.map (·.path):=(mem_look (fun r : Rec=>r.path)).symm
theorem Sheet.take {l : List Rec} (h : Sheet l) (i : Nat) : Sheet (l.take i):=by
 refine ⟨JE (fun r : Rec=>r.path) h.rise i,fun r hr=>h.ok r (List.mem_of_mem_take hr),fun r hr hp=>?_⟩
 obtain ⟨q,hq,e,hk⟩:=h.par r (List.mem_of_mem_take hr) hp
 obtain ⟨j,hj,rfl⟩:=List.mem_take_iff_getElem.1 hr
 have hjl : j < l.length:=by omega
 have hlt : ltP q.path (l.getD j default).path = true:=by rw [e,vS hjl]; exact Jc hp
 have hq2:=idx_lt (fun r : Rec=>r.path) h.rise hjl hq hlt
 refine ⟨q,?_,e,hk⟩
 have : l.take j = (l.take i).take j:=by rw [List.take_take,Nat.min_eq_left (by omega)]
 rw [this] at hq2
 exact List.mem_of_mem_take hq2
theorem Gu {t : List Nd} {p : List UInt8} {i : Nat} {m : Nd} (h : vR t p = some m) (hk : m.kind = 3) (hi : i ≠ 0) : Qw t p i = none:=by
 unfold Qw
 have h1:=(vP t p).1.2 (by rw [h]; simp)
 rw [if_neg (by omega),if_neg hi,(vP t p).2 m h]
 simp [hk]
theorem X3 {t : List Nd} {p x : List UInt8} (ht : Wood t) (hp : qI p = true) {m : Nd} (hm : vR t x = some m) (hx : x = p∨x ∈ yv p) :
  ∀ y ∈ yv x,∃ q,vR t y = some q∧q.kind = 3:=by
 intro y hy
 obtain ⟨hmt,he⟩:=yB hm
 obtain ⟨q,hq,e,hk⟩:=ht.above hmt (p:=y) (by rw [he]; exact VJ hy)
 exact ⟨q,by rw [← e]; exact Vl ht.rise hq,hk⟩
theorem Js {t : List Nd} {p : List UInt8} (ht : Wood t) (hp : qI p = true) {m : Nd} (hm : vR t p = some m) : QP t p = (qC t p,0):=by
 unfold QP
 refine Xz _ (i:=0) (by simp) ?_ fun j h0 hj=>?_
 ·have h1:=(vP t p).1.2 (by rw [hm]; simp)
  show Qw t p 0 = _
  unfold Qw
  rw [if_neg (by omega),if_pos rfl]
 ·have hja : j - 1 < (yv p).length:=by simp at hj; omega
  have he : ([p] ++ yv p).getD j [] = (yv p)[j - 1]:=by
   rw [List.getD_eq_getElem?_getD,List.getElem?_append_right (by simp; omega)]
   simp [List.getElem?_eq_getElem hja]
  rw [he]
  obtain ⟨q,hq,hk⟩:=X3 ht hp hm (.inl rfl) _ (List.getElem_mem hja)
  exact Gu hq hk (by omega)
theorem GH {t : List Nd} {p : List UInt8} (hp : p ≠ []) : yd t p = true ↔ ∃ m,vR t p = some m∧m.kind = 3:=by
 unfold yd
 simp only [hp,decide_false,Bool.false_or,Bool.and_eq_true,decide_eq_true_eq]
 constructor
 ·rintro ⟨h1,h2⟩
  cases hl : vR t p with
  | none=>exact absurd hl ((vP t p).1.1 h1)
  | some m=>rw [(vP t p).2 m hl] at h2; exact ⟨m,rfl,h2⟩
 ·rintro ⟨m,hl,hk⟩
  exact ⟨(vP t p).1.2 (by rw [hl]; simp),by rw [(vP t p).2 m hl]; exact hk⟩
theorem VO {α β ρ : Type} [Inhabited α] (l : List α) (f : β→α→β) (Inv : Nat→β→Prop) (b : β × Int→Option (Step ρ (β × Int) β)) (K : Nat) (hK : l.length < K)
  (h1 : ∀ (i : Nat) (s : β),i < l.length→Inv i s→b (s,(i : Int)) = some (.nxt (f s (gt l (i : Int)),((i + 1 : Nat) : Int)))∧Inv (i + 1) (f s (gt l (i : Int))))
  (h2 : ∀ s : β,b (s,(l.length : Int)) = some (.brk s)) (s0 : β) (h0 : Inv 0 s0) : ql b K (s0,0) = some (.inr (l.foldl f s0))∧Inv l.length (l.foldl f s0):=by
 have key : ∀ (d i k : Nat) (s : β),i + d = l.length→d < k→Inv i s→ql b k (s,(i : Int)) = some (.inr ((l.drop i).foldl f s))∧Inv l.length ((l.drop i).foldl f s):=by
  intro d
  induction d with
  | zero=>
   intro i k s hi hk hs
   obtain ⟨k,rfl⟩ : ∃ m,k = m + 1:=⟨k - 1,by omega⟩
   have : i = l.length:=by omega
   subst this
   rw [ql,h2 s,List.drop_length]; exact ⟨rfl,hs⟩
  | succ d ih=>
   intro i k s hi hk hs
   obtain ⟨k,rfl⟩ : ∃ m,k = m + 1:=⟨k - 1,by omega⟩
   have hlt : i < l.length:=by omega
   obtain ⟨e1,e2⟩:=h1 i s hlt hs
   rw [ql,e1,Gf hlt]
   exact ih (i + 1) k _ (by omega) (by omega) e2
 have:=key l.length 0 K s0 (by omega) (by omega) h0
 simpa using this
theorem gt_left {α : Type} [Inhabited α] {A B : List α} {m : Nat} (h : m < A.length) : gt (A ++ B) (m : Int) ∈ A:=by
 rw [vr,vS (by simp; omega),List.getElem_append_left h]
 exact List.getElem_mem h
theorem gt_right {α : Type} [Inhabited α] {A B : List α} {m : Nat} (h : A.length≤m) (h2 : m < (A ++ B).length) : gt (A ++ B) (m : Int) ∈ B:=by
 rw [vr,vS h2,List.getElem_append_right h]
 exact List.getElem_mem _
theorem X6 {a : List (List Rec)} {p : List UInt8} : p ∈ yx a ↔ ∃ l ∈ a,∃ r ∈ l,r.path = p:=by
 rw [yx,Qg]
 simp only [List.mem_map,List.mem_flatten]
 constructor
 ·rintro ⟨r,⟨l,hl,hr⟩,e⟩; exact ⟨l,hl,r,hr,e⟩
 ·rintro ⟨l,hl,r,hr,e⟩; exact ⟨r,⟨l,hl,hr⟩,e⟩
end Go.UL
