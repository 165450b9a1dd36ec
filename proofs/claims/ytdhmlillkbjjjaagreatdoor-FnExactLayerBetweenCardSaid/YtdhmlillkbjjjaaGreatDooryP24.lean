import Derived.Test.YtdhmlillkbjjjaaGreatDooryP18
set_option linter.unusedVariables false
set_option linter.unusedSimpArgs false
namespace Go.UL
open Go.RowKit
theorem bl_trans : ∀ a b c : List UInt8,Op.bytesLess a b = true→Op.bytesLess b c = true→Op.bytesLess a c = true:=by
 intro a
 induction a with
 | nil=>intro b c h1 h2; cases b with
  | nil=>simp [Op.bytesLess] at h1
  | cons y b=>cases c with
   | nil=>simp [Op.bytesLess] at h2
   | cons z c=>rfl
 | cons x a ih=>
  intro b c h1 h2
  cases b with
  | nil=>simp [Op.bytesLess] at h1
  | cons y b=>cases c with
   | nil=>simp [Op.bytesLess] at h2
   | cons z c=>
    simp only [Op.bytesLess,Bool.or_eq_true,Bool.and_eq_true,decide_eq_true_eq,beq_iff_eq,UInt8.lt_iff_toNat_lt] at h1 h2 ⊢
    rcases h1 with h1 | ⟨rfl,h1⟩
    ·rcases h2 with h2 | ⟨rfl,h2⟩
     ·exact .inl (by omega)
     ·exact .inl h1
    ·rcases h2 with h2 | ⟨rfl,h2⟩
     ·exact .inl h2
     ·exact .inr ⟨rfl,ih b c h1 h2⟩
theorem bl_tri : ∀ a b : List UInt8,Op.bytesLess a b = false→Op.bytesLess b a = false→a = b:=by
 intro a
 induction a with
 | nil=>intro b h1 h2; cases b with
  | nil=>rfl
  | cons y b=>simp [Op.bytesLess] at h1
 | cons x a ih=>
  intro b h1 h2
  cases b with
  | nil=>simp [Op.bytesLess] at h2
  | cons y b=>
   simp only [Op.bytesLess,Bool.or_eq_false_iff,Bool.and_eq_false_iff,decide_eq_false_iff_not,beq_eq_false_iff_ne,UInt8.lt_iff_toNat_lt] at h1 h2
   have hxy : x = y:=UInt8.toNat_inj.1 (by omega)
   subst hxy
   rcases h1.2 with h | h
   ·exact absurd rfl h
   ·rcases h2.2 with h' | h'
    ·exact absurd rfl h'
    ·rw [ih b h h']
theorem XV {a b c : List UInt8} (h1 : lt8 a b = true) (h2 : lt8 b c = true) : lt8 a c = true:=by
 simp only [lt8] at *
 exact bl_trans _ _ _ h1 h2
theorem lt8_tri {a b : List UInt8} (h1 : lt8 a b = false) (h2 : lt8 b a = false) : a = b:=by
 simp only [lt8] at *
 exact bl_tri _ _ h1 h2
theorem Ga : ∀ a,vC a a = false:=by
 intro a
 induction a with
 | nil=>rfl
 | cons x a ih=>simp [vC,ih]
theorem G6 : ∀ a b c,vC a b = true→vC b c = true→vC a c = true:=by
 intro a
 induction a with
 | nil=>
  intro b c h1 h2
  cases b with
  | nil=>simp [vC] at h1
  | cons y b=>cases c with
   | nil=>simp [vC] at h2
   | cons z c=>rfl
 | cons x a ih=>
  intro b c h1 h2
  cases b with
  | nil=>simp [vC] at h1
  | cons y b=>cases c with
   | nil=>simp [vC] at h2
   | cons z c=>
    simp only [vC] at h1 h2 ⊢
    by_cases hxy : x = y
    ·subst hxy
     simp only [if_true] at h1
     by_cases hxz : x = z
     ·subst hxz
      simp only [if_true] at h2 ⊢
      exact ih b c h1 h2
     ·simp only [hxz,if_false] at h2 ⊢; exact h2
    ·simp only [hxy,if_false] at h1
     by_cases hyz : y = z
     ·subst hyz
      simp only [hxy,if_false]; exact h1
     ·simp only [hyz,if_false] at h2
      have h3:=XV h1 h2
      by_cases hxz : x = z
      ·subst hxz; rw [Q1] at h3; cases h3
      ·simp only [hxz,if_false]; exact h3
theorem lessL_tri : ∀ a b,vC a b = false→vC b a = false→a = b:=by
 intro a
 induction a with
 | nil=>
  intro b h1 h2
  cases b with
  | nil=>rfl
  | cons y b=>simp [vC] at h1
 | cons x a ih=>
  intro b h1 h2
  cases b with
  | nil=>simp [vC] at h2
  | cons y b=>
   simp only [vC] at h1 h2
   by_cases hxy : x = y
   ·subst hxy
    simp only [if_true] at h1 h2
    rw [ih b h1 h2]
   ·have hyx : ¬ y = x:=fun e=>hxy e.symm
    simp only [hxy,hyx,if_false] at h1 h2
    exact absurd (lt8_tri h1 h2) hxy
def ltP (a b : List UInt8) : Bool:=vC (cut 47 a) (cut 47 b)
theorem Qd (a : List UInt8) : ltP a a = false:=Ga _
theorem jc {a b c : List UInt8} (h1 : ltP a b = true) (h2 : ltP b c = true) : ltP a c = true:=G6 _ _ _ h1 h2
theorem QS {a b : List UInt8} (h1 : ltP a b = false) (h2 : ltP b a = false) : a = b:=XB (lessL_tri _ _ h1 h2)
theorem Vm {a b : List UInt8} (h : ltP a b = true) : ltP b a = false:=by
 rcases qH (ltP b a) with h2 | h2
 ·have:=jc h h2; rw [Qd] at this; cases this
 ·exact h2
theorem Gi {a b : List UInt8} (h : ltP a b = true) : a ≠ b:=fun e=>by subst e; rw [Qd] at h; cases h
def ju (l : List (List UInt8)) : Prop:=l.Pairwise fun a b=>ltP a b = true
theorem ju.uniq : ∀ {a b : List (List UInt8)},ju a→ju b→(∀ x,x ∈ a ↔ x ∈ b)→a = b:=by
 intro a
 induction a with
 | nil=>
  intro b _ _ h
  cases b with
  | nil=>rfl
  | cons y b=>exact absurd ((h y).2 (List.mem_cons_self ..)) (by simp)
 | cons x a ih=>
  intro b ha hb h
  cases b with
  | nil=>exact absurd ((h x).1 (List.mem_cons_self ..)) (by simp)
  | cons y b=>
   have ha':=List.pairwise_cons.1 ha
   have hb':=List.pairwise_cons.1 hb
   have hxy : x = y:=by
    rcases List.mem_cons.1 ((h x).1 (List.mem_cons_self ..)) with e | hx
    ·exact e
    ·rcases List.mem_cons.1 ((h y).2 (List.mem_cons_self ..)) with e | hy
     ·exact e.symm
     ·have h1:=hb'.1 x hx
      have h2:=ha'.1 y hy
      rw [Vm h1] at h2; cases h2
   subst hxy
   congr 1
   refine ih ha'.2 hb'.2 fun z=>?_
   constructor
   ·intro hz
    rcases List.mem_cons.1 ((h z).1 (List.mem_cons_of_mem _ hz)) with e | hz'
    ·subst e; exact absurd rfl (Gi (ha'.1 z hz))
    ·exact hz'
   ·intro hz
    rcases List.mem_cons.1 ((h z).2 (List.mem_cons_of_mem _ hz)) with e | hz'
    ·subst e; exact absurd rfl (Gi (hb'.1 z hz))
    ·exact hz'
theorem VT {α : Type} [Inhabited α] (f : α→List UInt8) {l : List α} (h : ∀ i,0 < i→i < l.length→ltP (f (l.getD (i - 1) default)) (f (l.getD i default)) = true) : ju (l.map f):=by
 unfold ju
 rw [List.pairwise_map,List.pairwise_iff_getElem]
 intro i j hi hj hij
 obtain ⟨d,rfl⟩ : ∃ d,j = i + 1 + d:=⟨j - i - 1,by omega⟩
 induction d with
 | zero=>
  have:=h (i + 1) (by omega) hj
  rw [vS hj,show i + 1 - 1 = i by omega,vS hi] at this
  exact this
 | succ d ih=>
  have h1:=ih (by omega) (by omega)
  have h2:=h (i + 1 + (d + 1)) (by omega) hj
  rw [vS hj,show i + 1 + (d + 1) - 1 = i + 1 + d by omega,vS (by omega)] at h2
  exact jc h1 h2
theorem Gv {t : List Nd} (h : qX t = true) : t.length≤24∧ju (t.map (·.path)):=by
 unfold qX at h
 rw [Bool.and_eq_true] at h
 refine ⟨of_decide_eq_true h.1,VT _ fun i h0 hi=>?_⟩
 have:=List.all_eq_true.1 h.2 i (List.mem_range.2 hi)
 have h9 : ¬ i = 0:=by omega
 simp only [yo,Bool.and_eq_true,h9,decide_false,Bool.false_or] at this
 exact this.1.2
def j2 (l : List Nd) (p : List UInt8) : Option Nd:=l.find? fun x=>decide (x.path = p)
def nodeAt (t : List Nd) (p : List UInt8) : Nd:=if 0≤qC t p then gt t (qC t p) else Gz
theorem Y5 (x : Nd) (l : List Nd) (p : List UInt8) : j2 (x :: l) p = if x.path = p then some x else j2 l p:=by
 unfold j2
 by_cases h : x.path = p <;> simp [h]
theorem YX {l : List Nd} {p : List UInt8} : j2 l p = none ↔ p ∉ l.map (·.path):=by
 induction l with
 | nil=>simp [j2]
 | cons x l ih=>
  rw [Y5]
  by_cases h : x.path = p
  ·simp [h]
  ·rw [if_neg h,ih]
   simp [Ne.symm h]
theorem Y2 {l : List Nd} {p : List UInt8} {x : Nd} (h : j2 l p = some x) : x ∈ l∧x.path = p:=by
 have h1:=List.mem_of_find?_eq_some h
 have h2:=List.find?_some h
 exact ⟨h1,of_decide_eq_true h2⟩
theorem Gm (x : Nd) (l : List Nd) (n : Nat) : gt (x :: l) ((n : Int) + 1) = gt l (n : Int):=by
 have : ((n : Int) + 1) = ((n + 1 : Nat) : Int):=by omega
 rw [this,vr,vr,List.getD_cons_succ]
theorem Qv (t : List Nd) (p : List UInt8) : nodeAt t p = (j2 t p).getD Gz:=by
 unfold nodeAt qC
 induction t with
 | nil=>simp [yC,j2]
 | cons x t ih=>
  rw [Y5]
  by_cases h : x.path = p
  ·simp only [yC,h,decide_true,if_true]
   rfl
  ·simp only [yC,h,decide_false,Bool.false_eq_true,if_false]
   rw [← ih]
   by_cases hm : yC (fun r : Nd=>decide (r.path = p)) t = -1
   ·rw [if_pos hm,hm]; rfl
   ·have hg:=GT (fun r : Nd=>decide (r.path = p)) t
    obtain ⟨n,hn⟩ : ∃ n : Nat,yC (fun r : Nd=>decide (r.path = p)) t = n:=⟨(yC (fun r : Nd=>decide (r.path = p)) t).toNat,by omega⟩
    rw [if_neg hm,hn]
    have h0 : (0 : Int)≤(n : Int):=by omega
    have h1 : (0 : Int)≤(n : Int) + 1:=by omega
    rw [if_pos h0,if_pos h1,Gm]
theorem rise_lt {x : List UInt8} {l : List (List UInt8)} (h : ju (x :: l)) : ∀ z ∈ l,ltP x z = true:=(List.pairwise_cons.1 h).1
theorem rise_tl {x : List UInt8} {l : List (List UInt8)} (h : ju (x :: l)) : ju l:=(List.pairwise_cons.1 h).2
theorem X1 {a b : List Nd} {z : List UInt8} (h : j2 a z ≠ j2 b z) : z ∈ a.map (·.path)∨z ∈ b.map (·.path):=by
 by_cases h1 : z ∈ a.map (·.path)
 ·exact .inl h1
 ·by_cases h2 : z ∈ b.map (·.path)
  ·exact .inr h2
  ·rw [YX.2 h1,YX.2 h2] at h; exact absurd rfl h
def YF (l : List (List UInt8)) (p : List UInt8) : List (List UInt8):=l.filter (fun x=>ltP x p) ++ p :: l.filter (fun x=>ltP p x)
theorem XL {l : List (List UInt8)} (h : ju l) (p : List UInt8) : ju (YF l p):=by
 unfold YF ju
 rw [List.pairwise_append,List.pairwise_cons]
 refine ⟨List.Pairwise.filter _ h,⟨fun z hz=>(List.mem_filter.1 hz).2,List.Pairwise.filter _ h⟩,?_⟩
 intro u hu v hv
 have h1:=(List.mem_filter.1 hu).2
 rcases List.mem_cons.1 hv with rfl | hv
 ·exact h1
 ·exact jc h1 (List.mem_filter.1 hv).2
theorem insP_mem (l : List (List UInt8)) (p z : List UInt8) : z ∈ YF l p ↔ z = p∨z ∈ l:=by
 unfold YF
 rw [List.mem_append,List.mem_cons,List.mem_filter,List.mem_filter]
 constructor
 ·rintro (h | h | h)
  ·exact .inr h.1
  ·exact .inl h
  ·exact .inr h.1
 ·rintro (h | h)
  ·exact .inr (.inl h)
  ·rcases qH (ltP z p) with h1 | h1
   ·exact .inl ⟨h,h1⟩
   ·rcases qH (ltP p z) with h2 | h2
    ·exact .inr (.inr ⟨h,h2⟩)
    ·exact .inr (.inl (QS h1 h2))
def jy (l : List (List UInt8)) : List (List UInt8):=l.foldl YF []
theorem Y8 : ∀ (l acc : List (List UInt8)),ju acc→ju (l.foldl YF acc)∧∀ z,z ∈ l.foldl YF acc ↔ z ∈ l∨z ∈ acc:=by
 intro l
 induction l with
 | nil=>intro acc h; exact ⟨h,fun z=>by simp⟩
 | cons x l ih=>
  intro acc h
  obtain ⟨h1,h2⟩:=ih (YF acc x) (XL h x)
  refine ⟨h1,fun z=>?_⟩
  rw [List.foldl_cons,h2,insP_mem,List.mem_cons]
  constructor
  ·rintro (h | h | h)
   ·exact .inl (.inr h)
   ·exact .inl (.inl h)
   ·exact .inr h
  ·rintro ((h | h) | h)
   ·exact .inr (.inl h)
   ·exact .inl h
   ·exact .inr (.inr h)
theorem Qq (l : List (List UInt8)) : ju (jy l):=(Y8 l [] List.Pairwise.nil).1
theorem Qg (l : List (List UInt8)) (z : List UInt8) : z ∈ jy l ↔ z ∈ l:=by
 rw [jy,(Y8 l [] List.Pairwise.nil).2]; simp
theorem insP_len (l : List (List UInt8)) (p : List UInt8) : (YF l p).length≤l.length + 1:=by
 unfold YF
 have : (l.filter fun x=>ltP x p).length + (l.filter fun x=>ltP p x).length≤l.length:=by
  induction l with
  | nil=>simp
  | cons x l ih=>
   rcases qH (ltP x p) with h1 | h1
   ·have h2:=Vm h1
    simp [h1,h2]; omega
   ·rcases qH (ltP p x) with h2 | h2 <;> simp [h1,h2] <;> omega
 simp only [List.length_append,List.length_cons]; omega
theorem Jj (l : List (List UInt8)) : (jy l).length≤l.length:=by
 have : ∀ (l acc : List (List UInt8)),(l.foldl YF acc).length≤l.length + acc.length:=by
  intro l
  induction l with
  | nil=>intro acc; simp
  | cons x l ih=>
   intro acc
   have h1:=ih (YF acc x)
   have h2:=insP_len acc x
   simp only [List.foldl_cons,List.length_cons]; omega
 have:=this l []
 simpa [jy] using this
def yx (ls : List (List Rec)) : List (List UInt8):=jy (ls.flatten.map (·.path))
def yV (a b : List Nd) : List (List UInt8):=(yx [a.map qM,b.map qM]).filter fun p=>!decide (nodeAt a p = nodeAt b p)
def treesCode (a b : List Nd) : Int:=if decide (4096 < a.length) || decide (4096 < b.length) then 2 else if !qX a || !qX b then 1 else 0
theorem Vj {a b : List Nd} (h : treesCode a b = 0) : qX a = true∧qX b = true:=by
 unfold treesCode at h
 split at h
 ·omega
 ·split at h
  ·omega
  ·rename_i h2; simpa using h2
theorem YE {t : List Nd} (h : qX t = true) : ∀ x ∈ t,x ≠ Gz:=by
 intro x hx e
 unfold qX at h
 rw [Bool.and_eq_true] at h
 obtain ⟨i,hi,hxi⟩:=List.getElem_of_mem hx
 have:=List.all_eq_true.1 h.2 i (List.mem_range.2 hi)
 simp only [yo,Bool.and_eq_true] at this
 have h1:=this.1.1
 rw [vS hi,hxi,e] at h1
 simp [nodeOK,qM,Gz,qR,within] at h1
theorem GL {a b : List Nd} (ha : qX a = true) (hb : qX b = true) (p : List UInt8) : nodeAt a p ≠ nodeAt b p ↔ j2 a p ≠ j2 b p:=by
 rw [Qv,Qv]
 cases h1 : j2 a p with
 | none=>
  cases h2 : j2 b p with
  | none=>simp
  | some y=>simp [Ne.symm (YE hb y (Y2 h2).1)]
 | some x=>
  cases h2 : j2 b p with
  | none=>simp [YE ha x (Y2 h1).1]
  | some y=>simp
theorem Gf {α : Type} [Inhabited α] {l : List α} {i : Nat} (h : i < l.length) : l.drop i = gt l (i : Int) :: l.drop (i + 1):=by
 rw [List.drop_eq_getElem_cons h,vr,vS h]
theorem Vy (a b : List Nd) : (decide ((4096 : Int) < (a.length : Int)) || decide ((4096 : Int) < (b.length : Int))) = (decide (4096 < a.length) || decide (4096 < b.length)):=by rw [GF,GF]
def jh.sh (a0 : List Nd) (a1 : List Nd) : Option (Int):=
 bif ((decide (4096 < (a0.length : Int))) || (decide (4096 < (a1.length : Int)))) then (some 2) else (bif decide (∀ x ∈ a0,x.path.length≤1048576) then (((bif (!(qX a0)) then some true else (bif decide (∀ x ∈ a1,x.path.length≤1048576) then (some (!(qX a1))) else none))).bind fun z12=>bif z12 then (some 1) else (some 0)) else none)
theorem jh.eq (a0 a1 : List Nd) (h0 : ∀ x ∈ a0,x.path.length≤1048576) (h1 : ∀ x ∈ a1,x.path.length≤1048576) : jh.sh a0 a1 = some (treesCode a0 a1):=by
 unfold jh.sh treesCode
 rw [Vy]
 by_cases h : (decide (4096 < a0.length) || decide (4096 < a1.length)) = true
 ·simp only [h,cond_true,if_true]
 ·simp only [h,cond_false,if_false,decide_eq_true h0,decide_eq_true h1,cond_true]
  rcases qH (qX a0) with ha | ha <;> rcases qH (qX a1) with hb | hb <;> simp [ha,hb]
def yw.sh (a0 : List Nd) (a1 : List Nd) : Option (Int):=
 bif decide (a0.length≤1048576) then (bif decide (∀ x ∈ a0,x.path.length≤1048576) then (((bif (!(qX a0)) then some true else (bif decide (a1.length≤1048576) then (bif decide (∀ x ∈ a1,x.path.length≤1048576) then (some (!(qX a1))) else none) else none))).bind fun z14=>bif decide (([.inl ((decide (4096 < a0.length)) || (decide (4096 < a1.length))),.inr 2,.inl z14,.inr 1] : List (Bool ⊕ Int)).length≤4611686018427387904) then ((some (y5 ([.inl ((decide (4096 < a0.length)) || (decide (4096 < a1.length))),.inr 2,.inl z14,.inr 1] : List (Bool ⊕ Int)))).bind fun z31=>some z31) else none) else none) else none
theorem yw.eq (a0 a1 : List Nd) (h0 : a0.length≤1048576) (h1 : a1.length≤1048576) (h2 : ∀ x ∈ a0,x.path.length≤1048576) (h3 : ∀ x ∈ a1,x.path.length≤1048576) : yw.sh a0 a1 = some (treesCode a0 a1):=by
 unfold yw.sh treesCode
 simp only [h0,h1,decide_true,cond_true,decide_eq_true h2,decide_eq_true h3,List.length_cons,List.length_nil,y5,Ju,J7]
 rcases qH (qX a0) with ha | ha <;> rcases qH (qX a1) with hb | hb <;> by_cases h : (decide (4096 < a0.length) || decide (4096 < a1.length)) = true <;> simp [ha,hb,h]
def yu.sh (a0 : List Nd) (a1 : List UInt8) : Option (Nd):=
 bif decide (a0.length≤1048576) then (bif (decide (0≤(qC a0 a1))) then (bif inR (qC a0 a1) a0.length then (some (gt a0 (qC a0 a1))) else none) else (some (⟨0,([] : List UInt8),([] : List UInt8),0⟩ : Nd))) else none
theorem yu.eq (a0 : List Nd) (a1 : List UInt8) (h0 : a0.length≤1048576) : yu.sh a0 a1 = some (nodeAt a0 a1):=by
 unfold yu.sh nodeAt
 by_cases h : 0≤qC a0 a1
 ·have h2 : inR (qC a0 a1) a0.length = true:=Qb (by omega)
  simp [h0,h,h2]
 ·simp [h0,h,Gz]
def qT.b1 (a0 : List Nd) (a1 : List Nd) : List (List UInt8) × Int→Option (Step (List (List UInt8)) (List (List UInt8) × Int) (List (List UInt8))):=
 fun q=>match q with
 | (x5_30,x16_32)=>bif (decide (x16_32 < ((yx ([(a0.map qM),(a1.map qM)] : List (List Rec))).length : Int))) then (bif inR x16_32 (yx ([(a0.map qM),(a1.map qM)] : List (List Rec))).length then (bif decide (a0.length≤1048576) then (bif decide (a1.length≤1048576) then (bif (!decide ((nodeAt a0 (gt (yx ([(a0.map qM),(a1.map qM)] : List (List Rec))) x16_32)) = (nodeAt a1 (gt (yx ([(a0.map qM),(a1.map qM)] : List (List Rec))) x16_32)))) then (bif decide ((x5_30.length + ([gt (yx ([(a0.map qM),(a1.map qM)] : List (List Rec))) x16_32] : List (List UInt8)).length) * 16≤140737488355328) then (some (.nxt (x5_30 ++ ([gt (yx ([(a0.map qM),(a1.map qM)] : List (List Rec))) x16_32] : List (List UInt8)),IntKind.wrap .i64 (x16_32 + 1)))) else none) else (some (.nxt (x5_30,IntKind.wrap .i64 (x16_32 + 1))))) else none) else none) else none) else (some (.brk x5_30))
def qT.sh (k : Nat) (a0 : List Nd) (a1 : List Nd) : Option (List (List UInt8)):=
  bif decide (a0.length≤1048576) then (bif decide (a1.length≤1048576) then (bif decide (([(a0.map qM),(a1.map qM)] : List (List Rec)).length≤5) then (bif decide (∀ l ∈ ([(a0.map qM),(a1.map qM)] : List (List Rec)),l.length≤1048576) then (bif decide (∀ l ∈ ([(a0.map qM),(a1.map qM)] : List (List Rec)),∀ x ∈ l,x.path.length≤1048576) then ((ql (qT.b1 a0 a1) k (([] : List (List UInt8)),0)).bind fun z=>match z with | .inl t=>some t | .inr x5_36=>some x5_36) else none) else none) else none) else none) else none
theorem qT.eq (a0 a1 : List Nd) (h0 : a0.length≤1048576) (h1 : a1.length≤1048576) (h2 : ∀ x ∈ a0,x.path.length≤1048576) (h3 : ∀ x ∈ a1,x.path.length≤1048576) : ∃ k,qT.sh k a0 a1 = some (yV a0 a1):=by
 have hlen : (yx [a0.map qM,a1.map qM]).length≤2097152:=by
  have:=Jj ((([a0.map qM,a1.map qM] : List (List Rec)).flatten).map (·.path))
  have h5 : ((([a0.map qM,a1.map qM] : List (List Rec)).flatten).map (·.path)).length = a0.length + a1.length:=by simp
  unfold yx; omega
 refine ⟨(yx [a0.map qM,a1.map qM]).length + 1,?_⟩
 have r1 : decide (∀ l ∈ ([a0.map qM,a1.map qM] : List (List Rec)),l.length≤1048576) = true:=by
  refine decide_eq_true fun l hl=>?_
  rcases List.mem_cons.1 hl with rfl | hl
  ·simpa using h0
  ·rcases List.mem_cons.1 hl with rfl | hl
   ·simpa using h1
   ·cases hl
 have r2 : decide (∀ l ∈ ([a0.map qM,a1.map qM] : List (List Rec)),∀ x ∈ l,x.path.length≤1048576) = true:=by
  refine decide_eq_true fun l hl x hx=>?_
  rcases List.mem_cons.1 hl with rfl | hl
  ·obtain ⟨y,hy,rfl⟩:=List.mem_map.1 hx; exact h2 y hy
  ·rcases List.mem_cons.1 hl with rfl | hl
   ·obtain ⟨y,hy,rfl⟩:=List.mem_map.1 hx; exact h3 y hy
   ·cases hl
 have r3 : decide (([a0.map qM,a1.map qM] : List (List Rec)).length≤5) = true:=by simp
 unfold qT.sh
 simp only [h0,h1,decide_true,cond_true,r1,r2,r3]
 rw [Q6 (yx [a0.map qM,a1.map qM]) (fun p=>if !decide (nodeAt a0 p = nodeAt a1 p) then some p else none) (qT.b1 a0 a1) (fun i hi acc ha=>by
  have e1 : ∀ z : List UInt8,(acc.length + ([z] : List (List UInt8)).length) * 16≤140737488355328:=fun z=>by simp; omega
  simp only [qT.b1,ye,hi,decide_true,cond_true,qW hi,vr,vS hi,e1,vj hi (by omega),h0,h1]
  rcases qH (!decide (nodeAt a0 (yx [a0.map qM,a1.map qM])[i] = nodeAt a1 (yx [a0.map qM,a1.map qM])[i])) with hb | hb
  ·simp only [hb,cond_true,if_true]; rfl
  ·simp only [hb,cond_false,Bool.false_eq_true,if_false]; simp) (fun acc=>by simp [qT.b1])]
 have:=J8 (fun p=>!decide (nodeAt a0 p = nodeAt a1 p)) id (yx [a0.map qM,a1.map qM])
 rw [List.map_id] at this
 show some _ = _
 rw [yV]
 exact congrArg some this
theorem J4 (a b : List Nd) : (yV a b).length≤a.length + b.length:=by
 unfold yV yx
 refine Nat.le_trans (List.length_filter_le _ _) (Nat.le_trans (Jj _) ?_)
 simp
def vb.b2 (a0 : List (List Rec)) (x11_9 : Int) : List (List UInt8) × Int→Option (Step (Step (List (List UInt8)) (List (List UInt8) × Int) (List (List UInt8))) (List (List UInt8) × Int) (List (List UInt8))):=
 fun q=>match q with
 | (x3_36,x17_38)=>bif (decide (x17_38 < ((gt a0 x11_9).length : Int))) then (bif inR x17_38 (gt a0 x11_9).length then (bif decide ((x3_36.length + ([(gt (gt a0 x11_9) x17_38).path] : List (List UInt8)).length) * 16≤140737488355328) then (some (.nxt (x3_36 ++ ([(gt (gt a0 x11_9) x17_38).path] : List (List UInt8)),IntKind.wrap .i64 (x17_38 + 1)))) else none) else none) else (some (.brk x3_36))
def vb.b1 (k : Nat) (a0 : List (List Rec)) : List (List UInt8) × Int→Option (Step (List (List UInt8)) (List (List UInt8) × Int) (List (List UInt8))):=
  fun q=>match q with
  | (x3_7,x11_9)=>bif (decide (x11_9 < (a0.length : Int))) then (bif inR x11_9 a0.length then ((ql (vb.b2 a0 x11_9) k (x3_7,0)).bind fun z=>match z with | .inl t=>some t | .inr x3_42=>some (.nxt (x3_42,IntKind.wrap .i64 (x11_9 + 1)))) else none) else (some (.brk x3_7))
def vb.sh (k : Nat) (a0 : List (List Rec)) : Option (List (List UInt8)):=
  (ql (vb.b1 k a0) k (([] : List (List UInt8)),0)).bind fun z=>match z with | .inl t=>some t | .inr x3_13=>bif decide (∀ x ∈ x3_13,x.length≤1048576) then (bif decide (x3_13.length≤4611686018427387903) then (some (jy x3_13)) else none) else none
theorem vb.in {a0 : List (List Rec)} {x : Nat} (hg : (gt a0 (x : Int)).length≤1048576) : ∀ (m i K : Nat) (acc : List (List UInt8)),i + m = (gt a0 (x : Int)).length→m < K→acc.length + m≤8000000→ql (vb.b2 a0 (x : Int)) K (acc,(i : Int)) = some (.inr (acc ++ ((gt a0 (x : Int)).drop i).map (·.path))):=by
 intro m
 induction m with
 | zero=>
  intro i K acc hi hK _
  obtain ⟨K,rfl⟩ : ∃ j,K = j + 1:=⟨K - 1,by omega⟩
  have d1 : decide ((i : Int) < ((gt a0 (x : Int)).length : Int)) = false:=decide_eq_false (by omega)
  have hd : (gt a0 (x : Int)).drop i = []:=List.drop_eq_nil_of_le (by omega)
  rw [ql,hd]
  simp only [vb.b2,d1,cond_false,List.map_nil,List.append_nil]; rfl
 | succ m ih=>
  intro i K acc hi hK hb
  obtain ⟨K,rfl⟩ : ∃ j,K = j + 1:=⟨K - 1,by omega⟩
  have hlt : i < (gt a0 (x : Int)).length:=by omega
  have d1 : decide ((i : Int) < ((gt a0 (x : Int)).length : Int)) = true:=decide_eq_true (by omega)
  have e1 : ∀ z : List UInt8,decide ((acc.length + ([z] : List (List UInt8)).length) * 16≤140737488355328) = true:=fun z=>decide_eq_true (by simp; omega)
  have w1 : IntKind.wrap .i64 ((i : Int) + 1) = ((i + 1 : Nat) : Int):=by rw [wrap_small (by omega) (by omega)]; omega
  have hI:=ih (i + 1) K (acc ++ [(gt (gt a0 (x : Int)) (i : Int)).path]) (by omega) (by omega) (by simp; omega)
  rw [ql,Gf hlt]
  simp only [vb.b2,d1,cond_true,qW hlt,e1,w1]
  refine hI.trans ?_
  simp
theorem vb.out {a0 : List (List Rec)} (h0 : a0.length≤5) (h1 : ∀ l ∈ a0,l.length≤1048576) : ∀ (m i K : Nat) (acc : List (List UInt8)),i + m = a0.length→m < K→acc.length≤i * 1048576→ql (vb.b1 1048577 a0) K (acc,(i : Int)) = some (.inr (acc ++ ((a0.drop i).flatten).map (·.path))):=by
 intro m
 induction m with
 | zero=>
  intro i K acc hi hK _
  obtain ⟨K,rfl⟩ : ∃ j,K = j + 1:=⟨K - 1,by omega⟩
  have d1 : decide ((i : Int) < (a0.length : Int)) = false:=decide_eq_false (by omega)
  have hd : a0.drop i = []:=List.drop_eq_nil_of_le (by omega)
  rw [ql]
  simp only [vb.b1,d1,cond_false,hd,List.flatten_nil,List.map_nil,List.append_nil]; rfl
 | succ m ih=>
  intro i K acc hi hK hb
  obtain ⟨K,rfl⟩ : ∃ j,K = j + 1:=⟨K - 1,by omega⟩
  have hlt : i < a0.length:=by omega
  have hli : (gt a0 (i : Int)).length≤1048576:=by rw [vr,vS hlt]; exact h1 _ (List.getElem_mem hlt)
  have d1 : decide ((i : Int) < (a0.length : Int)) = true:=decide_eq_true (by omega)
  have w1 : IntKind.wrap .i64 ((i : Int) + 1) = ((i + 1 : Nat) : Int):=by rw [wrap_small (by omega) (by omega)]; omega
  have hin:=vb.in hli (gt a0 (i : Int)).length 0 1048577 acc (by omega) (by omega) (by omega)
  rw [List.drop_zero] at hin
  have hin' : ql (vb.b2 a0 (i : Int)) 1048577 (acc,0) = some (.inr (acc ++ (gt a0 (i : Int)).map (·.path))):=hin
  have hI:=ih (i + 1) K (acc ++ (gt a0 (i : Int)).map (·.path)) (by omega) (by omega) (by simp only [List.length_append,List.length_map]; omega)
  rw [ql]
  simp only [vb.b1,d1,cond_true,qW hlt,hin',Option.bind_some,w1]
  refine hI.trans ?_
  rw [Gf hlt]
  simp
theorem vb.eq (a0 : List (List Rec)) (h0 : a0.length≤5) (h1 : ∀ l ∈ a0,l.length≤1048576) (h2 : ∀ l ∈ a0,∀ x ∈ l,x.path.length≤1048576) : ∃ k,vb.sh k a0 = some (yx a0):=by
 refine ⟨1048577,?_⟩
 unfold vb.sh
 have ho:=vb.out h0 h1 a0.length 0 1048577 [] (by omega) (by omega) (by simp)
 rw [List.drop_zero,List.nil_append] at ho
 have ho' : ql (vb.b1 1048577 a0) 1048577 ([],0) = some (.inr (a0.flatten.map (·.path))):=ho
 have e1 : decide (∀ x ∈ a0.flatten.map (·.path),x.length≤1048576) = true:=decide_eq_true fun x hx=>by
  obtain ⟨r,hr,rfl⟩:=List.mem_map.1 hx
  obtain ⟨l,hl,hrl⟩:=List.mem_flatten.1 hr
  exact h2 l hl r hrl
 have hlen : ∀ (ls : List (List Rec)),(∀ l ∈ ls,l.length≤1048576)→ls.flatten.length≤ls.length * 1048576:=by
  intro ls
  induction ls with
  | nil=>intro _; simp
  | cons l ls ih=>
   intro h
   have a1:=h l (List.mem_cons_self ..)
   have a2:=ih fun x hx=>h x (List.mem_cons_of_mem _ hx)
   simp only [List.flatten_cons,List.length_append,List.length_cons]; omega
 have e2 : decide ((a0.flatten.map (·.path)).length≤4611686018427387903) = true:=decide_eq_true (by have:=hlen a0 h1; rw [List.length_map]; omega)
 rw [ho']
 simp only [Option.bind_some,e1,e2,cond_true]
 rfl
section
variable {α : Type} (f : α → List UInt8)
def Qf (l : List α) (p : List UInt8) : Option α:=l.find? fun x=>decide (f x = p)
theorem VI (x : α) (l : List α) (p : List UInt8) : Qf f (x :: l) p = if f x = p then some x else Qf f l p:=by
 unfold Qf
 by_cases h : f x = p <;> simp [h]
theorem YT {l : List α} {p : List UInt8} : Qf f l p = none ↔ p ∉ l.map f:=by
 induction l with
 | nil=>simp [Qf]
 | cons x l ih=>
  rw [VI]
  by_cases h : f x = p
  ·simp [h]
  ·rw [if_neg h,ih]
   simp [Ne.symm h]
theorem Ji {l : List α} {p : List UInt8} {x : α} (h : Qf f l p = some x) : x ∈ l∧f x = p:=by
 have h1:=List.mem_of_find?_eq_some h
 have h2:=List.find?_some h
 exact ⟨h1,of_decide_eq_true h2⟩
theorem V5 {l : List α} (h : ju (l.map f)) : ∀ x ∈ l,Qf f l (f x) = some x:=by
 induction l with
 | nil=>intro x hx; cases hx
 | cons y l ih=>
  intro x hx
  rw [VI]
  rcases List.mem_cons.1 hx with rfl | hx
  ·rw [if_pos rfl]
  ·have hlt : ltP (f y) (f x) = true:=rise_lt h (f x) (List.mem_map_of_mem hx)
   rw [if_neg (Gi hlt)]
   exact ih (rise_tl h) x hx
theorem mem_look {l : List α} {p : List UInt8} : p ∈ l.map f ↔ Qf f l p ≠ none:=by
 constructor
 ·intro h e; exact (YT f).1 e h
 ·intro h
  by_cases h2 : p ∈ l.map f
  ·exact h2
  ·exact absurd ((YT f).2 h2) h
theorem YS [Inhabited α] (l : List α) (p : List UInt8) : (0≤yC (fun x=>decide (f x = p)) l ↔ Qf f l p ≠ none)∧∀ x,Qf f l p = some x→gt l (yC (fun x=>decide (f x = p)) l) = x:=by
 induction l with
 | nil=>simp [yC,Qf]
 | cons y l ih=>
  rw [VI]
  by_cases h : f y = p
  ·simp only [yC,h,decide_true,if_true]
   exact ⟨by simp,fun x hx=>by rw [← Option.some.inj hx]; rfl⟩
  ·simp only [yC,h,decide_false,Bool.false_eq_true,if_false]
   have hge:=GT (fun x=>decide (f x = p)) l
   by_cases hm : yC (fun x=>decide (f x = p)) l = -1
   ·rw [if_pos hm]
    rw [hm] at ih
    refine ⟨ih.1,fun x hx=>?_⟩
    have : Qf f l p = none:=by
     by_cases e : Qf f l p = none
     ·exact e
     ·have:=ih.1.2 e; omega
    rw [this] at hx; cases hx
   ·rw [if_neg hm]
    obtain ⟨n,hn⟩ : ∃ n : Nat,yC (fun x=>decide (f x = p)) l = n:=⟨(yC (fun x=>decide (f x = p)) l).toNat,by omega⟩
    rw [hn] at ih ⊢
    refine ⟨⟨fun _=>ih.1.1 (by omega),fun _=>by omega⟩,fun x hx=>?_⟩
    have:=ih.2 x hx
    have e : ((n : Int) + 1) = ((n + 1 : Nat) : Int):=by omega
    rw [e,vr,List.getD_cons_succ]
    exact this
end
section
variable {α : Type} (f : α → List UInt8) (hl hu : α → Option α) (hb : α → α → Option α)
end
def Xv (l : List Rec) : Bool:=l.all (fun r=>qI r.path) && decide (l.Pairwise fun a b=>ltP a.path b.path = true)
theorem XM {l : List Rec} (h1 : ∀ x ∈ l,qI x.path = true) (h2 : ju (l.map (·.path))) : Xv l = true:=by
 simp only [Xv,Bool.and_eq_true]
 exact ⟨List.all_eq_true.2 h1,decide_eq_true (List.pairwise_map.1 h2)⟩
theorem Ja : ∀ (p t : List UInt8),cut 47 (p ++ 47 :: t) = cut 47 p ++ cut 47 t:=by
 intro p t
 induction p with
 | nil=>rw [List.nil_append,jD Y9]; rfl
 | cons b p ih=>
  rw [List.cons_append]
  by_cases h : bn b = 47
  ·rw [jD h,jD h,ih]; rfl
  ·rw [jE h,jE h,ih]
   cases hc : cut 47 p with
   | nil=>exact absurd hc (yZ _ _)
   | cons x l=>rfl
theorem jp (q p : List UInt8) : y6 q p = true ↔ ∃ r,r ≠ []∧cut 47 q = cut 47 p ++ r:=by
 unfold y6
 rw [List.isPrefixOf_iff_prefix]
 constructor
 ·rintro ⟨t,rfl⟩
  refine ⟨cut 47 t,yZ _ _,?_⟩
  rw [List.append_assoc,List.singleton_append,Ja]
 ·rintro ⟨r,hr,h⟩
  refine ⟨vO r,?_⟩
  have hf : ∀ x ∈ cut 47 p ++ r,∀ b ∈ x,bn b ≠ 47:=by rw [← h]; exact Vv q
  apply XB
  rw [List.append_assoc,List.singleton_append,Ja,h,Yv hr fun x hx=>hf x (List.mem_append_right _ hx)]
theorem XU : ∀ (a r : List (List UInt8)),r ≠ []→vC a (a ++ r) = true:=by
 intro a r hr
 induction a with
 | nil=>cases r with
  | nil=>exact absurd rfl hr
  | cons x r=>rfl
 | cons x a ih=>simp [vC,ih]
theorem XY {q p : List UInt8} (h : y6 q p = true) : ltP p q = true:=by
 obtain ⟨r,hr,e⟩:=(jp q p).1 h
 unfold ltP; rw [e]; exact XU _ _ hr
theorem GY {a b c : List UInt8} (h1 : y6 a b = true) (h2 : y6 b c = true) : y6 a c = true:=by
 obtain ⟨r,hr,e⟩:=(jp a b).1 h1
 obtain ⟨s,hs,f⟩:=(jp b c).1 h2
 refine (jp a c).2 ⟨s ++ r,by simp [hr],?_⟩
 rw [e,f,List.append_assoc]
theorem Jl {t : List UInt8} (h : qe t ≠ []) : cut 47 (qe t) = (cut 47 t).dropLast:=by
 rw [GE] at h ⊢
 refine Yv (fun e=>h (by rw [e]; rfl)) fun x hx=>Vv t x (List.dropLast_subset _ hx)
theorem QQ {t : List UInt8} (h : qe t ≠ []) : y6 t (qe t) = true:=by
 refine (jp _ _).2 ⟨[(cut 47 t).getLast (yZ _ _)],by simp,?_⟩
 rw [Jl h,List.dropLast_concat_getLast]
theorem Jc {t : List UInt8} (h : qe t ≠ []) : ltP (qe t) t = true:=XY (QQ h)
theorem mem_ancs : ∀ (n : Nat) (t x : List UInt8),t.length≤n→(x ∈ yv t→x ≠ []∧y6 t x = true):=by
 intro n
 induction n with
 | zero=>
  intro t x hn hx
  have : t = []:=List.eq_nil_of_length_eq_zero (by omega)
  subst this
  rw [y4,if_pos yt] at hx; cases hx
 | succ n ih=>
  intro t x hn hx
  rw [y4] at hx
  by_cases hp : qe t = []
  ·rw [if_pos hp] at hx; cases hx
  ·rw [if_neg hp] at hx
   have ht : t ≠ []:=fun e=>by subst e; exact hp yt
   rcases List.mem_cons.1 hx with rfl | hx
   ·exact ⟨hp,QQ hp⟩
   ·obtain ⟨h1,h2⟩:=ih (qe t) x (by have:=jl ht; omega) hx
    exact ⟨h1,GY (QQ hp) h2⟩
theorem VJ {t x : List UInt8} (h : x ∈ yv t) : y6 t x = true:=(mem_ancs _ t x (Nat.le_refl _) h).2
theorem VN {t x : List UInt8} (ht : qI t = true) (h : y6 t x = true) : x ∈ yv t:=by
 obtain ⟨r,hr,e⟩:=(jp t x).1 h
 rw [Gt ht,List.mem_reverse,List.mem_map]
 have hl : 0 < (cut 47 x).length:=List.length_pos_iff.2 (yZ _ _)
 have hrl : 0 < r.length:=List.length_pos_iff.2 hr
 refine ⟨(cut 47 x).length - 1,List.mem_range.2 ?_,?_⟩
 ·rw [e,List.length_append]; omega
 ·rw [e,show (cut 47 x).length - 1 + 1 = (cut 47 x).length by omega,List.take_left,jT]
theorem J5 {t x : List UInt8} (ht : qI t = true) (h : y6 t x = true) : qI x = true:=by
 obtain ⟨r,hr,e⟩:=(jp t x).1 h
 have hrl : 0 < r.length:=List.length_pos_iff.2 hr
 simp only [qI,Bool.and_eq_true,decide_eq_true_eq,e,List.all_append,List.length_append] at ht ⊢
 refine ⟨?_,by omega,ht.2.2.1⟩
 unfold y6 at h
 rw [List.isPrefixOf_iff_prefix] at h
 have:=h.length_le
 simp at this; omega
theorem YL {t x : List UInt8} (ht : qI t = true) (h : y6 t x = true) : qe t ≠ []∧(qe t = x∨y6 (qe t) x = true):=by
 have hm:=VN ht h
 rw [y4] at hm
 by_cases hp : qe t = []
 ·rw [if_pos hp] at hm; cases hm
 ·rw [if_neg hp] at hm
  refine ⟨hp,?_⟩
  rcases List.mem_cons.1 hm with e | hm
  ·exact .inl e.symm
  ·exact .inr (VJ hm)
theorem GO {t x : List UInt8} (h : y6 t x = true) : (cut 47 x).length < (cut 47 t).length:=by
 obtain ⟨r,hr,e⟩:=(jp t x).1 h
 have hrl : 0 < r.length:=List.length_pos_iff.2 hr
 rw [e,List.length_append]; omega
end Go.UL
