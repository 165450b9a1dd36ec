import Derived.Test.YtdhmlillkbjjjaaGreatDoorvP16
set_option linter.unusedVariables false
set_option linter.unusedSimpArgs false
namespace Go.UL
open Go.RowKit
theorem findI_first {α : Type} (q : α→Bool) : ∀ (l : List α) (i : Nat),jg q l = i→∀ x ∈ l.take i,q x = false:=by
 intro l
 induction l with
 | nil=>intro i _ x hx; simp at hx
 | cons y l ih=>
  intro i h x hx
  simp only [jg] at h
  cases i with
  | zero=>simp at hx
  | succ i=>
   rcases qo (q y) with hq | hq
   ·simp only [hq,if_true] at h; omega
   ·simp only [hq,Bool.false_eq_true,if_false] at h
    by_cases hm : jg q l = -1
    ·simp only [hm,if_true] at h; omega
    ·simp only [hm,if_false] at h
     rw [List.take_succ_cons] at hx
     rcases List.mem_cons.1 hx with rfl | hx
     ·exact hq
     ·exact ih i (by omega) x hx
theorem List.take_set_succ {α : Type} {l : List α} {i : Nat} {x : α} (h : i < l.length) : (l.set i x).take (i + 1) = l.take i ++ [x]:=by
 rw [List.take_succ_eq_append_getElem (by simpa using h)]
 rw [List.take_set,List.set_eq_of_length_le (by simp; omega)]
 simp
def ye (l : List Nd) (p : List UInt8) (self : Bool) : List Nd:=l.filter fun x=>!((decide (p = []) && !decide (x.path = [])) || vw x.path p) && (!self || !decide (x.path = p))
theorem YJ (l : List Nd) (p : List UInt8) (b : Bool) : (ye l p b).length≤l.length:=List.length_filter_le _ _
theorem without_impl (l : List Nd) (p : List UInt8) : ye l p true = l.filter fun x=>!(decide (x.path = p) || (decide (p = []) || vw x.path p)):=by
 unfold ye
 congr 1
 funext x
 by_cases h1 : x.path = p
 ·simp [h1]
 ·by_cases h2 : p = []
  ·subst h2
   simp [h1]
  ·simp [h1,h2]
def vS.b1 (a0 : List Nd) (a1 : List UInt8) (a2 : Bool) : List Nd × Int→Option (Step (List Nd) (List Nd × Int) (List Nd)):=
 fun q=>match q with
 | (x7_7,x8_9)=>bif (decide (x8_9 < (a0.length : Int))) then (bif inR x8_9 a0.length then (((bif (!((decide (a1 = []) && !decide (((gt a0 x8_9).path) = [])) || vw ((gt a0 x8_9).path) a1)) then (((bif (!a2) then some true else (bif inR x8_9 a0.length then (some (!decide (((gt a0 x8_9).path) = a1))) else none))).bind fun z38=>some z38) else some false)).bind fun z37=>bif z37 then (bif inR x8_9 a0.length then (bif decide ((x7_7.length + ([gt a0 x8_9] : List Nd).length) * 48≤140737488355328) then (some (.nxt (x7_7 ++ ([gt a0 x8_9] : List Nd),IntKind.wrap .i64 (x8_9 + 1)))) else none) else none) else (some (.nxt (x7_7,IntKind.wrap .i64 (x8_9 + 1))))) else none) else (some (.brk x7_7))
def vS.sh (k : Nat) (a0 : List Nd) (a1 : List UInt8) (a2 : Bool) : Option (List Nd):=
  (qt (vS.b1 a0 a1 a2) k (([] : List Nd),0)).bind fun z=>match z with | .inl t=>some t | .inr x7_13=>some x7_13
theorem vS.eq (a0 : List Nd) (a1 : List UInt8) (a2 : Bool) (h0 : a0.length≤1048576) : ∃ k,vS.sh k a0 a1 a2 = some (ye a0 a1 a2):=by
 refine ⟨a0.length + 1,?_⟩
 unfold vS.sh
 rw [JG a0 (fun x=>if (!((decide (a1 = []) && !decide (x.path = [])) || vw x.path a1) && (!a2 || !decide (x.path = a1))) then some x else none) (vS.b1 a0 a1 a2) (fun i hi acc ha=>by
  have e1 : ∀ z : Nd,(acc.length + ([z] : List Nd).length) * 48≤140737488355328:=fun z=>by simp; omega
  simp only [vS.b1,y6,hi,decide_true,cond_true,qT hi,yl,yh hi,e1,vX hi (by omega)]
  rcases qo ((decide (a1 = []) && !decide (a0[i].path = [])) || vw a0[i].path a1) with hb | hb
  ·simp [hb]
  ·generalize vw a0[i].path a1 = bl at hb ⊢
   by_cases hp : a0[i].path = a1
   ·cases a2 <;> simp [hp] at hb ⊢ <;> simp [hb]
   ·cases a2 <;> simp [hb,hp]) (fun acc=>by simp [vS.b1])]
 have : ∀ l : List Nd,l.filterMap (fun x=>if (!((decide (a1 = []) && !decide (x.path = [])) || vw x.path a1) && (!a2 || !decide (x.path = a1))) then some x else none) = ye l a1 a2:=by
  intro l
  have:=filterMap_if (fun x : Nd=>(!((decide (a1 = []) && !decide (x.path = [])) || vw x.path a1) && (!a2 || !decide (x.path = a1)))) id l
  simpa [ye] using this
 rw [this]; rfl
def j6.sh (a0 : Nd) (a1 : List UInt8) : Option (Bool):=
 ((bif (decide (a0.path = a1)) then some true else (bif decide (a1.length≤1048576) then (some (decide (a1 = []) || vw a0.path a1)) else none))).bind fun z8=>some z8
theorem j6.eq (a0 : Nd) (a1 : List UInt8) (h : a1.length≤1048576) : j6.sh a0 a1 = some (decide (a0.path = a1) || (decide (a1 = []) || vw a0.path a1)):=by
 unfold j6.sh
 by_cases hp : a0.path = a1 <;> simp [hp,h]
theorem GA {r : Rec} (h : qx r = 0) (ho : r.opq = true) : r.kind = 3:=by
 unfold qx at h
 by_cases hk : r.kind = 3
 ·exact hk
 ·simp only [ho,hk,decide_false,Bool.not_false,Bool.true_and,Bool.or_true,if_true] at h
  repeat' split at h
  all_goals omega
theorem bl_trans : ∀ a b c : List UInt8,Op.bytesLess a b = true→Op.bytesLess b c = true→Op.bytesLess a c = true:=by
 intro a
 induction a with
 | nil=>intro b c h1 h2; cases b with
  | nil=>simp [Op.bytesLess] at h1
  | cons y b=>cases c with
   | nil=>simp [Op.bytesLess] at h2
   | cons z c=>rfl
 | cons x a ih=>
  intro b c h1 h2
  cases b with
  | nil=>simp [Op.bytesLess] at h1
  | cons y b=>cases c with
   | nil=>simp [Op.bytesLess] at h2
   | cons z c=>
    simp only [Op.bytesLess,Bool.or_eq_true,Bool.and_eq_true,decide_eq_true_eq,beq_iff_eq,UInt8.lt_iff_toNat_lt] at h1 h2 ⊢
    rcases h1 with h1 | ⟨rfl,h1⟩
    ·rcases h2 with h2 | ⟨rfl,h2⟩
     ·exact .inl (by omega)
     ·exact .inl h1
    ·rcases h2 with h2 | ⟨rfl,h2⟩
     ·exact .inl h2
     ·exact .inr ⟨rfl,ih b c h1 h2⟩
theorem bl_tri : ∀ a b : List UInt8,Op.bytesLess a b = false→Op.bytesLess b a = false→a = b:=by
 intro a
 induction a with
 | nil=>intro b h1 h2; cases b with
  | nil=>rfl
  | cons y b=>simp [Op.bytesLess] at h1
 | cons x a ih=>
  intro b h1 h2
  cases b with
  | nil=>simp [Op.bytesLess] at h2
  | cons y b=>
   simp only [Op.bytesLess,Bool.or_eq_false_iff,Bool.and_eq_false_iff,decide_eq_false_iff_not,beq_eq_false_iff_ne,UInt8.lt_iff_toNat_lt] at h1 h2
   have hxy : x = y:=UInt8.toNat_inj.1 (by omega)
   subst hxy
   rcases h1.2 with h | h
   ·exact absurd rfl h
   ·rcases h2.2 with h' | h'
    ·exact absurd rfl h'
    ·rw [ih b h h']
theorem lt8_trans {a b c : List UInt8} (h1 : lt8 a b = true) (h2 : lt8 b c = true) : lt8 a c = true:=by
 simp only [lt8] at *
 exact bl_trans _ _ _ h1 h2
theorem lt8_tri {a b : List UInt8} (h1 : lt8 a b = false) (h2 : lt8 b a = false) : a = b:=by
 simp only [lt8] at *
 exact bl_tri _ _ h1 h2
theorem lessL_irrefl : ∀ a,vy a a = false:=by
 intro a
 induction a with
 | nil=>rfl
 | cons x a ih=>simp [vy,ih]
theorem lessL_trans : ∀ a b c,vy a b = true→vy b c = true→vy a c = true:=by
 intro a
 induction a with
 | nil=>
  intro b c h1 h2
  cases b with
  | nil=>simp [vy] at h1
  | cons y b=>cases c with
   | nil=>simp [vy] at h2
   | cons z c=>rfl
 | cons x a ih=>
  intro b c h1 h2
  cases b with
  | nil=>simp [vy] at h1
  | cons y b=>cases c with
   | nil=>simp [vy] at h2
   | cons z c=>
    simp only [vy] at h1 h2 ⊢
    by_cases hxy : x = y
    ·subst hxy
     simp only [if_true] at h1
     by_cases hxz : x = z
     ·subst hxz
      simp only [if_true] at h2 ⊢
      exact ih b c h1 h2
     ·simp only [hxz,if_false] at h2 ⊢; exact h2
    ·simp only [hxy,if_false] at h1
     by_cases hyz : y = z
     ·subst hyz
      simp only [hxy,if_false]; exact h1
     ·simp only [hyz,if_false] at h2
      have h3:=lt8_trans h1 h2
      by_cases hxz : x = z
      ·subst hxz; rw [Jq] at h3; cases h3
      ·simp only [hxz,if_false]; exact h3
theorem lessL_tri : ∀ a b,vy a b = false→vy b a = false→a = b:=by
 intro a
 induction a with
 | nil=>
  intro b h1 h2
  cases b with
  | nil=>rfl
  | cons y b=>simp [vy] at h1
 | cons x a ih=>
  intro b h1 h2
  cases b with
  | nil=>simp [vy] at h2
  | cons y b=>
   simp only [vy] at h1 h2
   by_cases hxy : x = y
   ·subst hxy
    simp only [if_true] at h1 h2
    rw [ih b h1 h2]
   ·have hyx : ¬ y = x:=fun e=>hxy e.symm
    simp only [hxy,hyx,if_false] at h1 h2
    exact absurd (lt8_tri h1 h2) hxy
def ltP (a b : List UInt8) : Bool:=vy (cut 47 a) (cut 47 b)
theorem Qo (a : List UInt8) : ltP a a = false:=lessL_irrefl _
theorem j3 {a b c : List UInt8} (h1 : ltP a b = true) (h2 : ltP b c = true) : ltP a c = true:=lessL_trans _ _ _ h1 h2
theorem Yl {a b : List UInt8} (h1 : ltP a b = false) (h2 : ltP b a = false) : a = b:=cut_inj (lessL_tri _ _ h1 h2)
theorem QN {a b : List UInt8} (h : ltP a b = true) : ltP b a = false:=by
 rcases qo (ltP b a) with h2 | h2
 ·have:=j3 h h2; rw [Qo] at this; cases this
 ·exact h2
theorem VE {a b : List UInt8} (h : ltP a b = true) : a ≠ b:=fun e=>by subst e; rw [Qo] at h; cases h
def yu (l : List (List UInt8)) : Prop:=l.Pairwise fun a b=>ltP a b = true
theorem yu.uniq : ∀ {a b : List (List UInt8)},yu a→yu b→(∀ x,x ∈ a ↔ x ∈ b)→a = b:=by
 intro a
 induction a with
 | nil=>
  intro b _ _ h
  cases b with
  | nil=>rfl
  | cons y b=>exact absurd ((h y).2 (List.mem_cons_self ..)) (by simp)
 | cons x a ih=>
  intro b ha hb h
  cases b with
  | nil=>exact absurd ((h x).1 (List.mem_cons_self ..)) (by simp)
  | cons y b=>
   have ha':=List.pairwise_cons.1 ha
   have hb':=List.pairwise_cons.1 hb
   have hxy : x = y:=by
    rcases List.mem_cons.1 ((h x).1 (List.mem_cons_self ..)) with e | hx
    ·exact e
    ·rcases List.mem_cons.1 ((h y).2 (List.mem_cons_self ..)) with e | hy
     ·exact e.symm
     ·have h1:=hb'.1 x hx
      have h2:=ha'.1 y hy
      rw [QN h1] at h2; cases h2
   subst hxy
   congr 1
   refine ih ha'.2 hb'.2 fun z=>?_
   constructor
   ·intro hz
    rcases List.mem_cons.1 ((h z).1 (List.mem_cons_of_mem _ hz)) with e | hz'
    ·subst e; exact absurd rfl (VE (ha'.1 z hz))
    ·exact hz'
   ·intro hz
    rcases List.mem_cons.1 ((h z).2 (List.mem_cons_of_mem _ hz)) with e | hz'
    ·subst e; exact absurd rfl (VE (hb'.1 z hz))
    ·exact hz'
theorem Jc {α : Type} [Inhabited α] (f : α→List UInt8) {l : List α} (h : ∀ i,0 < i→i < l.length→ltP (f (l.getD (i - 1) default)) (f (l.getD i default)) = true) : yu (l.map f):=by
 unfold yu
 rw [List.pairwise_map,List.pairwise_iff_getElem]
 intro i j hi hj hij
 obtain ⟨d,rfl⟩ : ∃ d,j = i + 1 + d:=⟨j - i - 1,by omega⟩
 induction d with
 | zero=>
  have:=h (i + 1) (by omega) hj
  rw [yh hj,show i + 1 - 1 = i by omega,yh hi] at this
  exact this
 | succ d ih=>
  have h1:=ih (by omega) (by omega)
  have h2:=h (i + 1 + (d + 1)) (by omega) hj
  rw [yh hj,show i + 1 + (d + 1) - 1 = i + 1 + d by omega,yh (by omega)] at h2
  exact j3 h1 h2
theorem treeOK_rise {t : List Nd} (h : j5 t = true) : t.length≤24∧yu (t.map (·.path)):=by
 unfold j5 at h
 rw [Bool.and_eq_true] at h
 refine ⟨of_decide_eq_true h.1,Jc _ fun i h0 hi=>?_⟩
 have:=List.all_eq_true.1 h.2 i (List.mem_range.2 hi)
 have h9 : ¬ i = 0:=by omega
 simp only [jQ,Bool.and_eq_true,h9,decide_false,Bool.false_or] at this
 exact this.1.2
theorem Yo {x : List UInt8} {l : List (List UInt8)} (h : yu (x :: l)) : ∀ z ∈ l,ltP x z = true:=(List.pairwise_cons.1 h).1
theorem V3 {x : List UInt8} {l : List (List UInt8)} (h : yu (x :: l)) : yu l:=(List.pairwise_cons.1 h).2
def XB (l : List (List UInt8)) (p : List UInt8) : List (List UInt8):=l.filter (fun x=>ltP x p) ++ p :: l.filter (fun x=>ltP p x)
theorem insP_rise {l : List (List UInt8)} (h : yu l) (p : List UInt8) : yu (XB l p):=by
 unfold XB yu
 rw [List.pairwise_append,List.pairwise_cons]
 refine ⟨List.Pairwise.filter _ h,⟨fun z hz=>(List.mem_filter.1 hz).2,List.Pairwise.filter _ h⟩,?_⟩
 intro u hu v hv
 have h1:=(List.mem_filter.1 hu).2
 rcases List.mem_cons.1 hv with rfl | hv
 ·exact h1
 ·exact j3 h1 (List.mem_filter.1 hv).2
theorem insP_mem (l : List (List UInt8)) (p z : List UInt8) : z ∈ XB l p ↔ z = p∨z ∈ l:=by
 unfold XB
 rw [List.mem_append,List.mem_cons,List.mem_filter,List.mem_filter]
 constructor
 ·rintro (h | h | h)
  ·exact .inr h.1
  ·exact .inl h
  ·exact .inr h.1
 ·rintro (h | h)
  ·exact .inr (.inl h)
  ·rcases qo (ltP z p) with h1 | h1
   ·exact .inl ⟨h,h1⟩
   ·rcases qo (ltP p z) with h2 | h2
    ·exact .inr (.inr ⟨h,h2⟩)
    ·exact .inr (.inl (Yl h1 h2))
def Jm (l : List (List UInt8)) : List (List UInt8):=l.foldl XB []
theorem X1 : ∀ (l acc : List (List UInt8)),yu acc→yu (l.foldl XB acc)∧∀ z,z ∈ l.foldl XB acc ↔ z ∈ l∨z ∈ acc:=by
 intro l
 induction l with
 | nil=>intro acc h; exact ⟨h,fun z=>by simp⟩
 | cons x l ih=>
  intro acc h
  obtain ⟨h1,h2⟩:=ih (XB acc x) (insP_rise h x)
  refine ⟨h1,fun z=>?_⟩
  rw [List.foldl_cons,h2,insP_mem,List.mem_cons]
  constructor
  ·rintro (h | h | h)
   ·exact .inl (.inr h)
   ·exact .inl (.inl h)
   ·exact .inr h
  ·rintro ((h | h) | h)
   ·exact .inr (.inl h)
   ·exact .inl h
   ·exact .inr (.inr h)
theorem YE (l : List (List UInt8)) : yu (Jm l):=(X1 l [] List.Pairwise.nil).1
theorem riseOf_mem (l : List (List UInt8)) (z : List UInt8) : z ∈ Jm l ↔ z ∈ l:=by
 rw [Jm,(X1 l [] List.Pairwise.nil).2]; simp
theorem insP_len (l : List (List UInt8)) (p : List UInt8) : (XB l p).length≤l.length + 1:=by
 unfold XB
 have : (l.filter fun x=>ltP x p).length + (l.filter fun x=>ltP p x).length≤l.length:=by
  induction l with
  | nil=>simp
  | cons x l ih=>
   rcases qo (ltP x p) with h1 | h1
   ·have h2:=QN h1
    simp [h1,h2]; omega
   ·rcases qo (ltP p x) with h2 | h2 <;> simp [h1,h2] <;> omega
 simp only [List.length_append,List.length_cons]; omega
theorem riseOf_len (l : List (List UInt8)) : (Jm l).length≤l.length:=by
 have : ∀ (l acc : List (List UInt8)),(l.foldl XB acc).length≤l.length + acc.length:=by
  intro l
  induction l with
  | nil=>intro acc; simp
  | cons x l ih=>
   intro acc
   have h1:=ih (XB acc x)
   have h2:=insP_len acc x
   simp only [List.foldl_cons,List.length_cons]; omega
 have:=this l []
 simpa [Jm] using this
def yw (ls : List (List Rec)) : List (List UInt8):=Jm (ls.flatten.map (·.path))
theorem Jg {α : Type} [Inhabited α] {l : List α} {i : Nat} (h : i < l.length) : l.drop i = gt l (i : Int) :: l.drop (i + 1):=by
 rw [List.drop_eq_getElem_cons h,yl,yh h]
def vC.b2 (a0 : List (List Rec)) (x11_9 : Int) : List (List UInt8) × Int→Option (Step (Step (List (List UInt8)) (List (List UInt8) × Int) (List (List UInt8))) (List (List UInt8) × Int) (List (List UInt8))):=
 fun q=>match q with
 | (x3_36,x17_38)=>bif (decide (x17_38 < ((gt a0 x11_9).length : Int))) then (bif inR x17_38 (gt a0 x11_9).length then (bif decide ((x3_36.length + ([(gt (gt a0 x11_9) x17_38).path] : List (List UInt8)).length) * 16≤140737488355328) then (some (.nxt (x3_36 ++ ([(gt (gt a0 x11_9) x17_38).path] : List (List UInt8)),IntKind.wrap .i64 (x17_38 + 1)))) else none) else none) else (some (.brk x3_36))
def vC.b1 (k : Nat) (a0 : List (List Rec)) : List (List UInt8) × Int→Option (Step (List (List UInt8)) (List (List UInt8) × Int) (List (List UInt8))):=
  fun q=>match q with
  | (x3_7,x11_9)=>bif (decide (x11_9 < (a0.length : Int))) then (bif inR x11_9 a0.length then ((qt (vC.b2 a0 x11_9) k (x3_7,0)).bind fun z=>match z with | .inl t=>some t | .inr x3_42=>some (.nxt (x3_42,IntKind.wrap .i64 (x11_9 + 1)))) else none) else (some (.brk x3_7))
def vC.sh (k : Nat) (a0 : List (List Rec)) : Option (List (List UInt8)):=
  (qt (vC.b1 k a0) k (([] : List (List UInt8)),0)).bind fun z=>match z with | .inl t=>some t | .inr x3_13=>bif decide (∀ x ∈ x3_13,x.length≤1048576) then (bif decide (x3_13.length≤4611686018427387903) then (some (Jm x3_13)) else none) else none
theorem vC.in {a0 : List (List Rec)} {x : Nat} (hg : (gt a0 (x : Int)).length≤1048576) : ∀ (m i K : Nat) (acc : List (List UInt8)),i + m = (gt a0 (x : Int)).length→m < K→acc.length + m≤8000000→qt (vC.b2 a0 (x : Int)) K (acc,(i : Int)) = some (.inr (acc ++ ((gt a0 (x : Int)).drop i).map (·.path))):=by
 intro m
 induction m with
 | zero=>
  intro i K acc hi hK _
  obtain ⟨K,rfl⟩ : ∃ j,K = j + 1:=⟨K - 1,by omega⟩
  have d1 : decide ((i : Int) < ((gt a0 (x : Int)).length : Int)) = false:=decide_eq_false (by omega)
  have hd : (gt a0 (x : Int)).drop i = []:=List.drop_eq_nil_of_le (by omega)
  rw [qt,hd]
  simp only [vC.b2,d1,cond_false,List.map_nil,List.append_nil]; rfl
 | succ m ih=>
  intro i K acc hi hK hb
  obtain ⟨K,rfl⟩ : ∃ j,K = j + 1:=⟨K - 1,by omega⟩
  have hlt : i < (gt a0 (x : Int)).length:=by omega
  have d1 : decide ((i : Int) < ((gt a0 (x : Int)).length : Int)) = true:=decide_eq_true (by omega)
  have e1 : ∀ z : List UInt8,decide ((acc.length + ([z] : List (List UInt8)).length) * 16≤140737488355328) = true:=fun z=>decide_eq_true (by simp; omega)
  have w1 : IntKind.wrap .i64 ((i : Int) + 1) = ((i + 1 : Nat) : Int):=by rw [wrap_small (by omega) (by omega)]; omega
  have hI:=ih (i + 1) K (acc ++ [(gt (gt a0 (x : Int)) (i : Int)).path]) (by omega) (by omega) (by simp; omega)
  rw [qt,Jg hlt]
  simp only [vC.b2,d1,cond_true,qT hlt,e1,w1]
  refine hI.trans ?_
  simp
theorem vC.out {a0 : List (List Rec)} (h0 : a0.length≤5) (h1 : ∀ l ∈ a0,l.length≤1048576) : ∀ (m i K : Nat) (acc : List (List UInt8)),i + m = a0.length→m < K→acc.length≤i * 1048576→qt (vC.b1 1048577 a0) K (acc,(i : Int)) = some (.inr (acc ++ ((a0.drop i).flatten).map (·.path))):=by
 intro m
 induction m with
 | zero=>
  intro i K acc hi hK _
  obtain ⟨K,rfl⟩ : ∃ j,K = j + 1:=⟨K - 1,by omega⟩
  have d1 : decide ((i : Int) < (a0.length : Int)) = false:=decide_eq_false (by omega)
  have hd : a0.drop i = []:=List.drop_eq_nil_of_le (by omega)
  rw [qt]
  simp only [vC.b1,d1,cond_false,hd,List.flatten_nil,List.map_nil,List.append_nil]; rfl
 | succ m ih=>
  intro i K acc hi hK hb
  obtain ⟨K,rfl⟩ : ∃ j,K = j + 1:=⟨K - 1,by omega⟩
  have hlt : i < a0.length:=by omega
  have hli : (gt a0 (i : Int)).length≤1048576:=by rw [yl,yh hlt]; exact h1 _ (List.getElem_mem hlt)
  have d1 : decide ((i : Int) < (a0.length : Int)) = true:=decide_eq_true (by omega)
  have w1 : IntKind.wrap .i64 ((i : Int) + 1) = ((i + 1 : Nat) : Int):=by rw [wrap_small (by omega) (by omega)]; omega
  have hin:=vC.in hli (gt a0 (i : Int)).length 0 1048577 acc (by omega) (by omega) (by omega)
  rw [List.drop_zero] at hin
  have hin' : qt (vC.b2 a0 (i : Int)) 1048577 (acc,0) = some (.inr (acc ++ (gt a0 (i : Int)).map (·.path))):=hin
  have hI:=ih (i + 1) K (acc ++ (gt a0 (i : Int)).map (·.path)) (by omega) (by omega) (by simp only [List.length_append,List.length_map]; omega)
  rw [qt]
  simp only [vC.b1,d1,cond_true,qT hlt,hin',Option.bind_some,w1]
  refine hI.trans ?_
  rw [Jg hlt]
  simp
theorem vC.eq (a0 : List (List Rec)) (h0 : a0.length≤5) (h1 : ∀ l ∈ a0,l.length≤1048576) (h2 : ∀ l ∈ a0,∀ x ∈ l,x.path.length≤1048576) : ∃ k,vC.sh k a0 = some (yw a0):=by
 refine ⟨1048577,?_⟩
 unfold vC.sh
 have ho:=vC.out h0 h1 a0.length 0 1048577 [] (by omega) (by omega) (by simp)
 rw [List.drop_zero,List.nil_append] at ho
 have ho' : qt (vC.b1 1048577 a0) 1048577 ([],0) = some (.inr (a0.flatten.map (·.path))):=ho
 have e1 : decide (∀ x ∈ a0.flatten.map (·.path),x.length≤1048576) = true:=decide_eq_true fun x hx=>by
  obtain ⟨r,hr,rfl⟩:=List.mem_map.1 hx
  obtain ⟨l,hl,hrl⟩:=List.mem_flatten.1 hr
  exact h2 l hl r hrl
 have hlen : ∀ (ls : List (List Rec)),(∀ l ∈ ls,l.length≤1048576)→ls.flatten.length≤ls.length * 1048576:=by
  intro ls
  induction ls with
  | nil=>intro _; simp
  | cons l ls ih=>
   intro h
   have a1:=h l (List.mem_cons_self ..)
   have a2:=ih fun x hx=>h x (List.mem_cons_of_mem _ hx)
   simp only [List.flatten_cons,List.length_append,List.length_cons]; omega
 have e2 : decide ((a0.flatten.map (·.path)).length≤4611686018427387903) = true:=decide_eq_true (by have:=hlen a0 h1; rw [List.length_map]; omega)
 rw [ho']
 simp only [Option.bind_some,e1,e2,cond_true]
 rfl
section
variable {α : Type} (f : α → List UInt8)
def jf (l : List α) (p : List UInt8) : Option α:=l.find? fun x=>decide (f x = p)
theorem jO (x : α) (l : List α) (p : List UInt8) : jf f (x :: l) p = if f x = p then some x else jf f l p:=by
 unfold jf
 by_cases h : f x = p <;> simp [h]
theorem QH {l : List α} {p : List UInt8} : jf f l p = none ↔ p ∉ l.map f:=by
 induction l with
 | nil=>simp [jf]
 | cons x l ih=>
  rw [jO]
  by_cases h : f x = p
  ·simp [h]
  ·rw [if_neg h,ih]
   simp [Ne.symm h]
theorem lookF_some {l : List α} {p : List UInt8} {x : α} (h : jf f l p = some x) : x ∈ l∧f x = p:=by
 have h1:=List.mem_of_find?_eq_some h
 have h2:=List.find?_some h
 exact ⟨h1,of_decide_eq_true h2⟩
theorem Jr {l : List α} (h : yu (l.map f)) : ∀ x ∈ l,jf f l (f x) = some x:=by
 induction l with
 | nil=>intro x hx; cases hx
 | cons y l ih=>
  intro x hx
  rw [jO]
  rcases List.mem_cons.1 hx with rfl | hx
  ·rw [if_pos rfl]
  ·have hlt : ltP (f y) (f x) = true:=Yo h (f x) (List.mem_map_of_mem hx)
   rw [if_neg (VE hlt)]
   exact ih (V3 h) x hx
theorem JI {l : List α} (h : yu (l.map f)) : (l.map f).filterMap (jf f l) = l:=by
 rw [List.filterMap_map]
 have : ∀ m : List α,(∀ x ∈ m,x ∈ l)→m.filterMap (jf f l ∘ f) = m:=by
  intro m
  induction m with
  | nil=>intro _; rfl
  | cons x m ih=>
   intro hm
   rw [List.filterMap_cons]
   have h1 : (jf f l ∘ f) x = some x:=Jr f h x (hm x (List.mem_cons_self ..))
   rw [h1]
   simp only
   rw [ih fun y hy=>hm y (List.mem_cons_of_mem _ hy)]
 exact this l fun _ h=>h
theorem Yb {l : List α} {p : List UInt8} : p ∈ l.map f ↔ jf f l p ≠ none:=by
 constructor
 ·intro h e; exact (QH f).1 e h
 ·intro h
  by_cases h2 : p ∈ l.map f
  ·exact h2
  ·exact absurd ((QH f).2 h2) h
theorem Jl {a b : List α} (ha : yu (a.map f)) (hb : yu (b.map f)) (h : ∀ p,jf f a p = jf f b p) : a = b:=by
 have hm : a.map f = b.map f:=yu.uniq ha hb fun p=>by rw [Yb,Yb,h]
 rw [← JI f ha,← JI f hb,hm]
 congr 1
 funext p
 exact h p
theorem X3 [Inhabited α] (l : List α) (p : List UInt8) : (0≤jg (fun x=>decide (f x = p)) l ↔ jf f l p ≠ none)∧∀ x,jf f l p = some x→gt l (jg (fun x=>decide (f x = p)) l) = x:=by
 induction l with
 | nil=>simp [jg,jf]
 | cons y l ih=>
  rw [jO]
  by_cases h : f y = p
  ·simp only [jg,h,decide_true,if_true]
   exact ⟨by simp,fun x hx=>by rw [← Option.some.inj hx]; rfl⟩
  ·simp only [jg,h,decide_false,Bool.false_eq_true,if_false]
   have hge:=XR (fun x=>decide (f x = p)) l
   by_cases hm : jg (fun x=>decide (f x = p)) l = -1
   ·rw [if_pos hm]
    rw [hm] at ih
    refine ⟨ih.1,fun x hx=>?_⟩
    have : jf f l p = none:=by
     by_cases e : jf f l p = none
     ·exact e
     ·have:=ih.1.2 e; omega
    rw [this] at hx; cases hx
   ·rw [if_neg hm]
    obtain ⟨n,hn⟩ : ∃ n : Nat,jg (fun x=>decide (f x = p)) l = n:=⟨(jg (fun x=>decide (f x = p)) l).toNat,by omega⟩
    rw [hn] at ih ⊢
    refine ⟨⟨fun _=>ih.1.1 (by omega),fun _=>by omega⟩,fun x hx=>?_⟩
    have:=ih.2 x hx
    have e : ((n : Int) + 1) = ((n + 1 : Nat) : Int):=by omega
    rw [e,yl,List.getD_cons_succ]
    exact this
end
section
variable {α : Type} (f : α → List UInt8) (hl hu : α → Option α) (hb : α → α → Option α)
def Gf : List α→List α→List α
 | [],b=>b.filterMap hu
 | x :: a,[]=>(x :: a).filterMap hl
 | x :: a,y :: b=>
  if ltP (f x) (f y) then (hl x).toList ++ Gf a (y :: b)
  else if ltP (f y) (f x) then (hu y).toList ++ Gf (x :: a) b
  else (hb x y).toList ++ Gf a b
termination_by a b=>a.length + b.length
def mrgO (a b : Option α) : Option α:=match a,b with
 | none,none=>none
 | some x,none=>hl x
 | none,some y=>hu y
 | some x,some y=>hb x y
theorem JU {x : Option α} {q : List UInt8} (hx : ∀ z,x = some z→f z = q) (l : List α) (hq : q ∉ l.map f) (p : List UInt8) : jf f (x.toList ++ l) p = if q = p then x else jf f l p:=by
 cases x with
 | none=>
  by_cases e : q = p
  ·subst e; simp [(QH f).2 hq]
  ·simp [e]
 | some z=>
  have:=hx z rfl
  show jf f (z :: l) p = _
  rw [jO,this]
theorem GO {x : Option α} {q : List UInt8} (hx : ∀ z,x = some z→f z = q) {l : List α} (hl : yu (l.map f)) (hlt : ∀ p ∈ l.map f,ltP q p = true) : yu ((x.toList ++ l).map f):=by
 cases x with
 | none=>exact hl
 | some z=>
  refine List.pairwise_cons.2 ⟨fun p hp=>?_,hl⟩
  rw [hx z rfl]; exact hlt p hp
theorem mrgF_spec (h1 : ∀ x z,hl x = some z→f z = f x) (h2 : ∀ y z,hu y = some z→f z = f y) (h3 : ∀ x y z,f x = f y→hb x y = some z→f z = f x) :
  ∀ (n : Nat) (a b : List α),a.length + b.length≤n→yu (a.map f)→yu (b.map f)→yu ((Gf f hl hu hb a b).map f)∧∀ p,jf f (Gf f hl hu hb a b) p = mrgO hl hu hb (jf f a p) (jf f b p):=by
 have one : ∀ (h : α→Option α) (hh : ∀ x z,h x = some z→f z = f x) (l : List α),yu (l.map f)→yu ((l.filterMap h).map f)∧∀ p,jf f (l.filterMap h) p = (jf f l p).bind h:=by
  intro h hh l
  induction l with
  | nil=>intro _; exact ⟨List.Pairwise.nil,fun p=>rfl⟩
  | cons x l ih=>
   intro hr
   obtain ⟨i1,i2⟩:=ih (V3 hr)
   have hq:=Yo hr
   have hsub : ∀ p ∈ (l.filterMap h).map f,ltP (f x) p = true:=by
    intro p hp
    have : jf f (l.filterMap h) p ≠ none:=(Yb f).1 hp
    rw [i2] at this
    by_cases hm : p ∈ l.map f
    ·exact hq p hm
    ·rw [(QH f).2 hm] at this; exact absurd rfl this
   have e : (x :: l).filterMap h = (h x).toList ++ l.filterMap h:=by cases hx : h x <;> simp [hx]
   rw [e]
   refine ⟨GO f (hh x) i1 hsub,fun p=>?_⟩
   rw [JU f (hh x) _ (fun hm=>VE (hsub _ hm) rfl),jO,i2]
   by_cases ep : f x = p <;> simp [ep]
 intro n
 induction n with
 | zero=>
  intro a b hn ha hb'
  have e1 : a = []:=List.eq_nil_of_length_eq_zero (by omega)
  have e2 : b = []:=List.eq_nil_of_length_eq_zero (by omega)
  subst e1; subst e2
  rw [Gf]
  exact ⟨List.Pairwise.nil,fun p=>rfl⟩
 | succ n ih=>
  intro a b hn ha hb'
  cases a with
  | nil=>
   rw [Gf]
   obtain ⟨i1,i2⟩:=one hu h2 b hb'
   refine ⟨i1,fun p=>?_⟩
   rw [i2]
   show _ = mrgO hl hu hb none _
   cases jf f b p <;> rfl
  | cons x a=>
   cases b with
   | nil=>
    rw [Gf]
    obtain ⟨i1,i2⟩:=one hl h1 (x :: a) ha
    refine ⟨i1,fun p=>?_⟩
    rw [i2]
    show _ = mrgO hl hu hb _ none
    cases jf f (x :: a) p <;> rfl
   | cons y b=>
    simp only [List.length_cons] at hn
    have ha1:=Yo ha
    have hb1:=Yo hb'
    have ha2 : yu (a.map f):=V3 ha
    have hb2 : yu (b.map f):=V3 hb'
    have mem : ∀ (a b : List α) (p : List UInt8),mrgO hl hu hb (jf f a p) (jf f b p) ≠ none→p ∈ a.map f∨p ∈ b.map f:=by
     intro a b p h
     by_cases m1 : p ∈ a.map f
     ·exact .inl m1
     ·by_cases m2 : p ∈ b.map f
      ·exact .inr m2
      ·rw [(QH f).2 m1,(QH f).2 m2] at h; exact absurd rfl h
    rw [Gf]
    rcases qo (ltP (f x) (f y)) with hl1 | hl1
    ·obtain ⟨i1,i2⟩:=ih a (y :: b) (by simp only [List.length_cons]; omega) ha2 hb'
     have hby : ∀ p ∈ (y :: b).map f,ltP (f x) p = true:=by
      intro p hp
      rcases List.mem_cons.1 hp with rfl | hp
      ·exact hl1
      ·exact j3 hl1 (hb1 p hp)
     have hlt : ∀ p ∈ (Gf f hl hu hb a (y :: b)).map f,ltP (f x) p = true:=by
      intro p hp
      have h:=(Yb f).1 hp
      rw [i2] at h
      rcases mem _ _ _ h with m | m
      ·exact ha1 p m
      ·exact hby p m
     rw [if_pos hl1]
     refine ⟨GO f (h1 x) i1 hlt,fun p=>?_⟩
     rw [JU f (h1 x) _ (fun hm=>VE (hlt _ hm) rfl),jO f x,i2]
     by_cases ep : f x = p
     ·rw [if_pos ep,if_pos ep]
      have : jf f (y :: b) p = none:=(QH f).2 fun hm=>VE (hby p hm) ep
      rw [this]; rfl
     ·rw [if_neg ep,if_neg ep]
    ·have hln : ¬ ltP (f x) (f y) = true:=by rw [hl1]; simp
     rw [if_neg hln]
     rcases qo (ltP (f y) (f x)) with hr | hr
     ·obtain ⟨i1,i2⟩:=ih (x :: a) b (by simp only [List.length_cons]; omega) ha hb2
      have hay : ∀ p ∈ (x :: a).map f,ltP (f y) p = true:=by
       intro p hp
       rcases List.mem_cons.1 hp with rfl | hp
       ·exact hr
       ·exact j3 hr (ha1 p hp)
      have hlt : ∀ p ∈ (Gf f hl hu hb (x :: a) b).map f,ltP (f y) p = true:=by
       intro p hp
       have h:=(Yb f).1 hp
       rw [i2] at h
       rcases mem _ _ _ h with m | m
       ·exact hay p m
       ·exact hb1 p m
      rw [if_pos hr]
      refine ⟨GO f (h2 y) i1 hlt,fun p=>?_⟩
      rw [JU f (h2 y) _ (fun hm=>VE (hlt _ hm) rfl),jO f y,i2]
      by_cases ep : f y = p
      ·rw [if_pos ep,if_pos ep]
       have : jf f (x :: a) p = none:=(QH f).2 fun hm=>VE (hay p hm) ep
       rw [this]; rfl
      ·rw [if_neg ep,if_neg ep]
     ·have hrn : ¬ ltP (f y) (f x) = true:=by rw [hr]; simp
      have hxy : f x = f y:=Yl hl1 hr
      rw [if_neg hrn]
      obtain ⟨i1,i2⟩:=ih a b (by omega) ha2 hb2
      have hlt : ∀ p ∈ (Gf f hl hu hb a b).map f,ltP (f x) p = true:=by
       intro p hp
       have h:=(Yb f).1 hp
       rw [i2] at h
       rcases mem _ _ _ h with m | m
       ·exact ha1 p m
       ·rw [hxy]; exact hb1 p m
      have h3':=fun z=>h3 x y z hxy
      refine ⟨GO f h3' i1 hlt,fun p=>?_⟩
      rw [JU f h3' _ (fun hm=>VE (hlt _ hm) rfl),jO f x,jO f y,i2,← hxy]
      by_cases ep : f x = p
      ·rw [if_pos ep,if_pos ep,if_pos ep]; rfl
      ·rw [if_neg ep,if_neg ep,if_neg ep]
end
def Vm (l : List Rec) : Bool:=l.all (fun r=>qC r.path) && decide (l.Pairwise fun a b=>ltP a.path b.path = true)
theorem Xx {l : List Rec} (h : Vm l = true) : ∀ x ∈ l,qC x.path = true:=by
 simp only [Vm,Bool.and_eq_true] at h
 exact fun x hx=>List.all_eq_true.1 h.1 x hx
theorem Xm {l : List Rec} (h : Vm l = true) : yu (l.map (·.path)):=by
 simp only [Vm,Bool.and_eq_true] at h
 exact List.pairwise_map.2 (of_decide_eq_true h.2)
theorem sheetB_mk {l : List Rec} (h1 : ∀ x ∈ l,qC x.path = true) (h2 : yu (l.map (·.path))) : Vm l = true:=by
 simp only [Vm,Bool.and_eq_true]
 exact ⟨List.all_eq_true.2 h1,decide_eq_true (List.pairwise_map.1 h2)⟩
theorem codeAt_less {l : List Rec} {i : Nat} (h : jk l i = 0) (h0 : 0 < i) : ltP (l.getD (i - 1) default).path (l.getD i default).path = true:=by
 unfold jk at h
 split at h
 ·omega
 ·split at h
  ·exact absurd h ‹_›
  ·split at h
   ·omega
   ·split at h
    ·omega
    ·rename_i h3
     rcases qo (vy (cut 47 (l.getD (i - 1) default).path) (cut 47 (l.getD i default).path)) with h4 | h4
     ·exact h4
     ·exact absurd ⟨h0,h4⟩ h3
theorem layerOK_rise {l : List Rec} (h : (qn l).2 = 0) : yu (l.map (·.path)):=
 Jc _ fun i h0 hi=>codeAt_less (Va h i hi) h0
theorem mrgF_nil {α : Type} (f : α→List UInt8) (hl hu : α→Option α) (hb : α→α→Option α) (a : List α) : Gf f hl hu hb a [] = a.filterMap hl:=by
 cases a with
 | nil=>rw [Gf]; rfl
 | cons x a=>rw [Gf]
theorem pairCode_dec (a b : List Rec) : (decide ((4096 : Int) < (a.length : Int)) || decide ((4096 : Int) < (b.length : Int))) = (decide (4096 < a.length) || decide (4096 < b.length)):=by
 have h : ∀ n : Nat,decide ((4096 : Int) < (n : Int)) = decide (4096 < n):=fun n=>by rw [decide_eq_decide]; omega
 rw [h,h]
end Go.UL
