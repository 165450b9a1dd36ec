import Derived.Test.YtdhmlillkbjjjaaGreatDoorvP46
set_option linter.unusedVariables false
set_option linter.unusedSimpArgs false
namespace Go.UL
open Go.RowKit
def QR (x y : List Rec) : Option (List UInt8):=(yw [x,y]).find? fun p=>!decide (qV x p = qV y p)
def vl (x y : List Rec) : Rec × Rec × Bool:=match QR x y with
 | none=>(Ye,Ye,false)
 | some p=>(qV x p,qV y p,true)
def Jt (a b : List Rec) : List Nd × Bool:=match QR (qb a) (qb b) with
 | none=>([],false)
 | some p=>(Jw (qb a) (qb b) p,true)
def qD (a b : List Rec) : List Nd × Int:=if pairCode a b = 0 then (match QR (qb a) (qb b) with
  | none=>([],18)
  | some p=>(Jw (qb a) (qb b) p,0)) else ([],pairCode a b)
theorem Js {l : List Rec} {p : List UInt8} {r : Rec} (h : qN l p = some r) : qV l p = r:=by rw [jv,h]; rfl
theorem Gn {l : List Rec} {p : List UInt8} (h : qN l p = none) : qV l p = Ye:=by rw [jv,h]; rfl
theorem Yv {l : List Rec} (hl : Sheet l) {p : List UInt8} : (qV l p).kind = 0 ↔ qN l p = none:=by
 rw [jv]
 cases h : qN l p with
 | none=>exact ⟨fun _=>rfl,fun _=>rfl⟩
 | some r=>
  have:=Gm (hl.fault h)
  refine ⟨fun h2=>?_,fun h2=>by cases h2⟩
  have h2 : r.kind = 0:=h2
  omega
theorem recAt_inj {x y : List Rec} (hx : Sheet x) (hy : Sheet y) {p : List UInt8} (h : qV x p = qV y p) : qN x p = qN y p:=by
 cases h1 : qN x p with
 | none=>
  have h3:=(Yv hx).2 h1
  rw [h] at h3
  exact ((Yv hy).1 h3).symm
 | some r=>
  cases h2 : qN y p with
  | none=>
   have h3:=(Yv hy).2 h2
   rw [← h] at h3
   rw [(Yv hx).1 h3] at h1; cases h1
  | some s=>rw [Js h1,Js h2] at h; rw [h]
theorem Gj {x y : List Rec} {p : List UInt8} : p ∈ yw [x,y] ↔ qN x p ≠ none∨qN y p ≠ none:=by
 rw [paths_mem,Yh,Yh]
 constructor
 ·rintro ⟨l,hl,r,hr,e⟩
  simp at hl
  rcases hl with rfl | rfl
  ·exact .inl (List.mem_map.2 ⟨r,hr,e⟩)
  ·exact .inr (List.mem_map.2 ⟨r,hr,e⟩)
 ·rintro (h | h)
  ·obtain ⟨r,hr,e⟩:=List.mem_map.1 h
   exact ⟨x,by simp,r,hr,e⟩
  ·obtain ⟨r,hr,e⟩:=List.mem_map.1 h
   exact ⟨y,by simp,r,hr,e⟩
theorem find_rise {l : List (List UInt8)} (h : yu l) {f : List UInt8→Bool} {p : List UInt8} (hp : p ∈ l) (hf : f p = true) (hlt : ∀ q ∈ l,ltP q p = true→f q = false) : l.find? f = some p:=by
 induction l with
 | nil=>cases hp
 | cons a l ih=>
  obtain ⟨h1,h2⟩:=List.pairwise_cons.1 h
  rcases List.mem_cons.1 hp with rfl | hp
  ·rw [List.find?_cons_of_pos hf]
  ·rw [List.find?_cons_of_neg (by rw [hlt a (by simp) (h1 p hp)]; simp)]
   exact ih h2 hp fun q hq=>hlt q (by simp [hq])
theorem find_rise_lt {l : List (List UInt8)} (h : yu l) {f : List UInt8→Bool} {p : List UInt8} (hf : l.find? f = some p) : ∀ q ∈ l,ltP q p = true→f q = false:=by
 induction l with
 | nil=>cases hf
 | cons a l ih=>
  obtain ⟨h1,h2⟩:=List.pairwise_cons.1 h
  intro q hq hlt
  cases ha : f a with
  | true=>
   rw [List.find?_cons_of_pos ha] at hf
   obtain rfl:=Option.some.inj hf
   rcases List.mem_cons.1 hq with rfl | hq
   ·rw [Qo] at hlt; cases hlt
   ·rw [QN (h1 q hq)] at hlt; cases hlt
  | false=>
   rw [List.find?_cons_of_neg (by rw [ha]; simp)] at hf
   rcases List.mem_cons.1 hq with rfl | hq
   ·exact ha
   ·exact ih h2 hf q hq hlt
theorem firstP_some {x y : List Rec} (hx : Sheet x) (hy : Sheet y) {p : List UInt8} (h : QR x y = some p) : (∀ q,ltP q p = true→qN x q = qN y q)∧qN x p ≠ qN y p:=by
 have hr : yu (yw [x,y]):=YE _
 refine ⟨fun q hq=>?_,fun e=>?_⟩
 ·by_cases hm : q ∈ yw [x,y]
  ·have:=find_rise_lt hr h q hm hq
   exact recAt_inj hx hy (by simpa using this)
  ·rw [Gj,not_or] at hm
   have h1:=Classical.not_not.1 hm.1
   have h2:=Classical.not_not.1 hm.2
   rw [h1,h2]
 ·have:=List.find?_some h
  simp only [Bool.not_eq_true',decide_eq_false_iff_not] at this
  exact this (by rw [jv,jv,e])
theorem JC {x y : List Rec} (hx : Sheet x) (hy : Sheet y) : QR x y = none ↔ x = y:=by
 constructor
 ·intro h
  refine Jl (fun r : Rec=>r.path) hx.rise hy.rise fun p=>?_
  by_cases hm : p ∈ yw [x,y]
  ·have:=List.find?_eq_none.1 h p hm
   exact recAt_inj hx hy (by simpa using this)
  ·rw [Gj,not_or] at hm
   have h1:=Classical.not_not.1 hm.1
   have h2:=Classical.not_not.1 hm.2
   exact h1.trans h2.symm
 ·rintro rfl
  unfold QR
  rw [List.find?_eq_none]
  simp
theorem JR (c x : List Rec) (p : List UInt8) : qN (c ++ x) p = (qN c p).or (qN x p):=by
 unfold qN jf
 rw [List.find?_append]
theorem GY {l : List Rec} {p : List UInt8} (h : ∀ r ∈ l,r.path ≠ p) : qN l p = none:=by
 cases h1 : qN l p with
 | none=>rfl
 | some r=>exact absurd (yj h1).2 (h r (yj h1).1)
theorem Y9 {c x y : List Rec} (hx : Sheet (c ++ x)) (hy : Sheet (c ++ y)) {p : List UInt8} (h1 : ∀ r ∈ x,r.path = p∨ltP p r.path = true) (h2 : ∀ r ∈ y,r.path = p∨ltP p r.path = true) (hc : ∀ r ∈ c,ltP r.path p = true) (hne : qV x p ≠ qV y p) :
  vl (c ++ x) (c ++ y) = (qV x p,qV y p,true):=by
 have hcp : qN c p = none:=GY fun r hr e=>VE (hc r hr) e
 have e1 : qV (c ++ x) p = qV x p:=by rw [jv,jv,JR,hcp]; rfl
 have e2 : qV (c ++ y) p = qV y p:=by rw [jv,jv,JR,hcp]; rfl
 have hlow : ∀ {z : List Rec},(∀ r ∈ z,r.path = p∨ltP p r.path = true)→∀ q,ltP q p = true→qN z q = none:=fun {z} hz q hq=>GY fun r hr e=>by
  rcases hz r hr with h | h
  ·rw [← h,← e,Qo] at hq; cases hq
  ·rw [e,QN hq] at h; cases h
 have hf : QR (c ++ x) (c ++ y) = some p:=by
  refine find_rise (l:=yw [c ++ x,c ++ y]) (YE _) ?_ (by rw [e1,e2]; simpa using hne) fun q _ hq=>?_
  ·rw [Gj]
   refine Classical.byContradiction fun hn=>?_
   rw [not_or] at hn
   have a1:=Classical.not_not.1 hn.1
   have a2:=Classical.not_not.1 hn.2
   rw [← e1,← e2,Gn a1,Gn a2] at hne
   exact hne rfl
  ·have : qV (c ++ x) q = qV (c ++ y) q:=by rw [jv,jv,JR,JR,hlow h1 q hq,hlow h2 q hq]
   simpa using this
 unfold vl
 rw [hf]
 show (qV (c ++ x) p,qV (c ++ y) p,true) = _
 rw [e1,e2]
theorem QT {c t : List Rec} {r : Rec} (h : Sheet (c ++ r :: t)) : (∀ z ∈ c,ltP z.path r.path = true)∧(∀ z ∈ r :: t,z.path = r.path∨ltP r.path z.path = true)∧qV (r :: t) r.path = r∧r ≠ Ye:=by
 have hr:=h.rise
 rw [List.map_append,List.map_cons] at hr
 obtain ⟨_,h2,h3⟩:=List.pairwise_append.1 hr
 obtain ⟨h4,_⟩:=List.pairwise_cons.1 h2
 refine ⟨fun z hz=>h3 _ (List.mem_map_of_mem hz) _ (by simp),fun z hz=>?_,?_,fun e=>?_⟩
 ·rcases List.mem_cons.1 hz with rfl | hz
  ·exact .inl rfl
  ·exact .inr (h4 _ (List.mem_map_of_mem hz))
 ·refine Js ?_
  show jf (fun r : Rec=>r.path) (r :: t) r.path = some r
  rw [jO,if_pos rfl]
 ·have hk:=Gm (h.ok r (by simp))
  rw [e] at hk
  have hz : Ye.kind = 0:=rfl
  omega
theorem above_none {t : List Rec} {r : Rec} {p : List UInt8} (h : ∀ z ∈ r :: t,z.path = r.path∨ltP r.path z.path = true) (hp : ltP p r.path = true) : (∀ z ∈ r :: t,z.path = p∨ltP p z.path = true)∧qV (r :: t) p = Ye:=by
 have h2 : ∀ z ∈ r :: t,ltP p z.path = true:=fun z hz=>by
  rcases h z hz with e | e
  ·rw [e]; exact hp
  ·exact j3 hp e
 exact ⟨fun z hz=>.inr (h2 z hz),Gn (GY fun z hz e=>by have:=h2 z hz; rw [e,Qo] at this; cases this)⟩
theorem first_left {c t : List Rec} {r : Rec} (hx : Sheet (c ++ r :: t)) (hy : Sheet c) : vl (c ++ r :: t) c = (r,Ye,true):=by
 obtain ⟨h1,h2,h3,h4⟩:=QT hx
 have:=Y9 (c:=c) (x:=r :: t) (y:=[]) hx (by rw [List.append_nil]; exact hy) (p:=r.path) h2 (fun r hr=>by cases hr) h1 (by rw [h3]; exact h4)
 rw [List.append_nil,h3] at this
 exact this
theorem first_right {c t : List Rec} {r : Rec} (hx : Sheet c) (hy : Sheet (c ++ r :: t)) : vl c (c ++ r :: t) = (Ye,r,true):=by
 obtain ⟨h1,h2,h3,h4⟩:=QT hy
 have:=Y9 (c:=c) (x:=[]) (y:=r :: t) (by rw [List.append_nil]; exact hx) hy (p:=r.path) (fun r hr=>by cases hr) h2 h1 (by rw [h3]; exact fun e=>h4 e.symm)
 rw [List.append_nil,h3] at this
 exact this
theorem first_lt {c t u : List Rec} {r s : Rec} (hx : Sheet (c ++ r :: t)) (hy : Sheet (c ++ s :: u)) (h : ltP r.path s.path = true) : vl (c ++ r :: t) (c ++ s :: u) = (r,Ye,true):=by
 obtain ⟨h1,h2,h3,h4⟩:=QT hx
 obtain ⟨_,g2,_,_⟩:=QT hy
 obtain ⟨k1,k2⟩:=above_none g2 h
 have:=Y9 hx hy (p:=r.path) h2 k1 h1 (by rw [h3,k2]; exact h4)
 rw [h3,k2] at this
 exact this
theorem first_gt {c t u : List Rec} {r s : Rec} (hx : Sheet (c ++ r :: t)) (hy : Sheet (c ++ s :: u)) (h : ltP s.path r.path = true) : vl (c ++ r :: t) (c ++ s :: u) = (Ye,s,true):=by
 obtain ⟨h1,h2,h3,h4⟩:=QT hy
 obtain ⟨_,g2,_,_⟩:=QT hx
 obtain ⟨k1,k2⟩:=above_none g2 h
 have:=Y9 hx hy (p:=s.path) k1 h2 h1 (by rw [h3,k2]; exact fun e=>h4 e.symm)
 rw [h3,k2] at this
 exact this
theorem first_eq {c t u : List Rec} {r s : Rec} (hx : Sheet (c ++ r :: t)) (hy : Sheet (c ++ s :: u)) (h : r.path = s.path) (hne : r ≠ s) : vl (c ++ r :: t) (c ++ s :: u) = (r,s,true):=by
 obtain ⟨h1,h2,h3,h4⟩:=QT hx
 obtain ⟨_,g2,g3,_⟩:=QT hy
 rw [← h] at g2 g3
 have:=Y9 hx hy (p:=r.path) h2 g2 h1 (by rw [h3,g3]; exact hne)
 rw [h3,g3] at this
 exact this
def qL.b1 (a0 : List Rec) (a1 : List Rec) : Int→Option (Step (Rec × Rec × Bool) (Int) (Int)):=
 fun x7_13=>bif (!((decide (x7_13 < (a0.length : Int))) && (decide (x7_13 < (a1.length : Int)))) || (inR x7_13 a0.length)) then (bif (!((decide (x7_13 < (a0.length : Int))) && (decide (x7_13 < (a1.length : Int)))) || (inR x7_13 a1.length)) then (bif (((decide (x7_13 < (a0.length : Int))) && (decide (x7_13 < (a1.length : Int)))) && (decide ((gt a0 x7_13) = (gt a1 x7_13)))) then (some (.nxt (IntKind.wrap .i64 (x7_13 + 1)))) else (some (.brk x7_13))) else none) else none
def qL.sh (k : Nat) (a0 : List Rec) (a1 : List Rec) : Option (Rec × Rec × Bool):=
  (qt (qL.b1 a0 a1) k 0).bind fun z=>match z with | .inl t=>some t | .inr x7_17=>bif ((decide (x7_17 = (a0.length : Int))) && (decide (x7_17 = (a1.length : Int)))) then (some ((⟨0,([] : List UInt8),([] : List UInt8),0,false⟩ : Rec),(⟨0,([] : List UInt8),([] : List UInt8),0,false⟩ : Rec),false)) else (bif (decide (x7_17 = (a0.length : Int))) then (bif inR x7_17 a1.length then (some ((⟨0,([] : List UInt8),([] : List UInt8),0,false⟩ : Rec),(gt a1 x7_17),true)) else none) else (bif (!(!(decide (x7_17 = (a1.length : Int)))) || (inR x7_17 a0.length)) then (bif (!(!(decide (x7_17 = (a1.length : Int)))) || (inR x7_17 a1.length)) then (bif (!(!(decide (x7_17 = (a1.length : Int)))) || (decide (((gt a0 x7_17).path).length≤1048576))) then (bif (!(!(decide (x7_17 = (a1.length : Int)))) || (decide (((gt a1 x7_17).path).length≤1048576))) then (bif ((decide (x7_17 = (a1.length : Int))) || (vy (cut 47 ((gt a0 x7_17).path)) (cut 47 ((gt a1 x7_17).path)))) then (bif inR x7_17 a0.length then (some ((gt a0 x7_17),(⟨0,([] : List UInt8),([] : List UInt8),0,false⟩ : Rec),true)) else none) else (bif inR x7_17 a1.length then (bif inR x7_17 a0.length then (bif decide (((gt a1 x7_17).path).length≤1048576) then (bif decide (((gt a0 x7_17).path).length≤1048576) then (bif (vy (cut 47 ((gt a1 x7_17).path)) (cut 47 ((gt a0 x7_17).path))) then (bif inR x7_17 a1.length then (some ((⟨0,([] : List UInt8),([] : List UInt8),0,false⟩ : Rec),(gt a1 x7_17),true)) else none) else (bif inR x7_17 a0.length then (bif inR x7_17 a1.length then (some ((gt a0 x7_17),(gt a1 x7_17),true)) else none) else none)) else none) else none) else none) else none)) else none) else none) else none) else none))
theorem first_loop (x y : List Rec) (hn : x.length≤1048576) : ∀ (m i k : Nat),i + m = x.length→m < k→i≤y.length→∃ n,i≤n∧n≤x.length∧n≤y.length∧(∀ j,i≤j→j < n→gt x (j : Int) = gt y (j : Int))∧¬ (n < x.length∧n < y.length∧gt x (n : Int) = gt y (n : Int))∧qt (qL.b1 x y) k (i : Int) = some (.inr (n : Int)):=by
 intro m
 induction m with
 | zero=>
  intro i k hi hk hy
  obtain ⟨k,rfl⟩ : ∃ j,k = j + 1:=⟨k - 1,by omega⟩
  refine ⟨i,Nat.le_refl _,by omega,hy,fun j h1 h2=>by omega,fun h=>by omega,?_⟩
  have h1 : ¬ i < x.length:=by omega
  rw [qt]
  simp [qL.b1,h1]
 | succ m ih=>
  intro i k hi hk hy
  obtain ⟨k,rfl⟩ : ∃ j,k = j + 1:=⟨k - 1,by omega⟩
  have h1 : i < x.length:=by omega
  by_cases h2 : i < y.length
  ·by_cases he : gt x (i : Int) = gt y (i : Int)
   ·obtain ⟨n,a1,a2,a3,a4,a5,a6⟩:=ih (i + 1) k (by omega) (by omega) (by omega)
    refine ⟨n,by omega,a2,a3,fun j b1 b2=>?_,a5,?_⟩
    ·by_cases e : j = i
     ·subst e; exact he
     ·exact a4 j (by omega) b2
    ·rw [qt]
     have hw : IntKind.wrap .i64 ((i : Int) + 1) = ((i + 1 : Nat) : Int):=by rw [vX h1 (by omega)]; omega
     simp only [qL.b1,y6,h1,h2,decide_true,Bool.and_self,Bool.not_true,Bool.false_or,qT h1,qT h2,cond_true,he,hw]
     exact a6
   ·refine ⟨i,Nat.le_refl _,by omega,by omega,fun j b1 b2=>by omega,fun h=>he h.2.2,?_⟩
    rw [qt]
    simp only [qL.b1,y6,h1,h2,decide_true,Bool.and_self,Bool.not_true,Bool.false_or,qT h1,qT h2,cond_true,decide_eq_false he,Bool.and_false,cond_false]
    rfl
  ·refine ⟨i,Nat.le_refl _,by omega,hy,fun j b1 b2=>by omega,fun h=>h2 h.2.1,?_⟩
   rw [qt]
   simp [qL.b1,h1,h2]
theorem dropg {α : Type} [Inhabited α] {l : List α} {n : Nat} (h : n < l.length) : ∃ t,l = l.take n ++ gt l (n : Int) :: t:=⟨l.drop (n + 1),by
 rw [yl,yh h]
 conv=>lhs; rw [← List.take_append_drop n l,List.drop_eq_getElem_cons h]⟩
theorem take_same {α : Type} [Inhabited α] {x y : List α} {n : Nat} (hx : n≤x.length) (hy : n≤y.length) (h : ∀ j,j < n→gt x (j : Int) = gt y (j : Int)) : x.take n = y.take n:=by
 apply List.ext_getElem
 ·simp; omega
 ·intro i h1 h2
  have hi : i < n:=by simp at h1; omega
  have:=h i hi
  rw [yl,yl,yh (by omega),yh (by omega)] at this
  simpa using this
theorem qL.eq (a0 a1 : List Rec) (h0 : (qn a0).2 = 0) (h1 : (qn a1).2 = 0) : ∃ k,qL.sh k a0 a1 = some ((vl a0 a1).1,(vl a0 a1).2.1,(vl a0 a1).2.2):=by
 have hx:=Vx h0
 have hy:=Vx h1
 have l0:=je h0
 have l1:=je h1
 obtain ⟨n,_,hnx,hny,hc,hstop,hl⟩:=first_loop a0 a1 (by omega) a0.length 0 (a0.length + 1) (by omega) (by omega) (by omega)
 refine ⟨a0.length + 1,?_⟩
 unfold qL.sh
 have hl2 : qt (qL.b1 a0 a1) (a0.length + 1) 0 = some (.inr (n : Int)):=hl
 rw [hl2]
 have hct:=take_same hnx hny fun j hj=>hc j (by omega) hj
 have dI : ∀ m : Nat,decide ((n : Int) = (m : Int)) = decide (n = m):=fun m=>by rw [decide_eq_decide]; omega
 simp only [Option.bind_some,dI]
 have pl : ∀ {l : List Rec} {i : Nat},Sheet l→i < l.length→(gt l (i : Int)).path.length≤1048576:=fun {l i} hs hi=>jo (vV (hs.ok _ (YY (qT hi))))
 by_cases ex : n = a0.length
 ·by_cases ey : n = a1.length
  ·have t0 : a0.take n = a0:=by rw [ex,List.take_length]
   have t1 : a1.take n = a1:=by rw [ey,List.take_length]
   have : a0 = a1:=by rw [← t0,hct,t1]
   have hf : vl a0 a1 = (Ye,Ye,false):=by unfold vl; rw [(JC hx hy).2 this]
   rw [hf,decide_eq_true ex,decide_eq_true ey]
   rfl
  ·have h2 : n < a1.length:=by omega
   obtain ⟨t,ht⟩:=dropg h2
   have t0 : a0.take n = a0:=by rw [ex,List.take_length]
   have hc0 : a0 = a1.take n:=by rw [← hct]; exact t0.symm
   have hf : vl a0 a1 = (Ye,gt a1 (n : Int),true):=by
    have:=first_right (c:=a1.take n) (t:=t) (r:=gt a1 (n : Int)) (by rw [← hc0]; exact hx) (by rw [← ht]; exact hy)
    rw [← ht,← hc0] at this
    exact this
   rw [hf,decide_eq_true ex,decide_eq_false ey]
   simp only [Bool.and_false,cond_false,cond_true,qT h2]
   rfl
 ·have h1' : n < a0.length:=by omega
  obtain ⟨t,ht⟩:=dropg h1'
  rw [decide_eq_false ex]
  by_cases ey : n = a1.length
  ·have t1 : a1.take n = a1:=by rw [ey,List.take_length]
   have hc1 : a1 = a0.take n:=by rw [hct]; exact t1.symm
   have hf : vl a0 a1 = (gt a0 (n : Int),Ye,true):=by
    have:=first_left (c:=a0.take n) (t:=t) (r:=gt a0 (n : Int)) (by rw [← ht]; exact hx) (by rw [← hc1]; exact hy)
    rw [← ht,← hc1] at this
    exact this
   rw [hf,decide_eq_true ey]
   simp only [Bool.false_and,cond_false,Bool.not_true,Bool.not_false,Bool.true_or,cond_true,qT h1']
   rfl
  ·have h2 : n < a1.length:=by omega
   obtain ⟨u,hu⟩:=dropg h2
   rw [decide_eq_false ey]
   have p1:=pl hx h1'
   have p2:=pl hy h2
   have hne : gt a0 (n : Int) ≠ gt a1 (n : Int):=fun e=>hstop ⟨h1',h2,e⟩
   rw [← hct] at hu
   have hx2 : Sheet (a0.take n ++ gt a0 (n : Int) :: t):=by rw [← ht]; exact hx
   have hy2 : Sheet (a0.take n ++ gt a1 (n : Int) :: u):=by rw [← hu]; exact hy
   simp only [Bool.false_and,cond_false,Bool.not_false,Bool.not_true,Bool.false_or,qT h1',qT h2,cond_true,decide_eq_true p1,decide_eq_true p2]
   rcases qo (ltP (gt a0 (n : Int)).path (gt a1 (n : Int)).path) with g1 | g1
   ·have hf:=first_lt hx2 hy2 g1
    rw [← ht,← hu] at hf
    have g1' : vy (cut 47 (gt a0 (n : Int)).path) (cut 47 (gt a1 (n : Int)).path) = true:=g1
    rw [hf,g1']; rfl
   ·have g1' : vy (cut 47 (gt a0 (n : Int)).path) (cut 47 (gt a1 (n : Int)).path) = false:=g1
    rcases qo (ltP (gt a1 (n : Int)).path (gt a0 (n : Int)).path) with g2 | g2
    ·have hf:=first_gt hx2 hy2 g2
     rw [← ht,← hu] at hf
     have g2' : vy (cut 47 (gt a1 (n : Int)).path) (cut 47 (gt a0 (n : Int)).path) = true:=g2
     rw [hf,g1',g2']; rfl
    ·have hf:=first_eq hx2 hy2 (Yl g1 g2) hne
     rw [← ht,← hu] at hf
     have g2' : vy (cut 47 (gt a1 (n : Int)).path) (cut 47 (gt a0 (n : Int)).path) = false:=g2
     rw [hf,g1',g2']; rfl
def vW.b1  : List Nd × List UInt8→Option (Step (List Nd) (List Nd × List UInt8) (List Nd)):=
 fun q=>match q with
 | (x3_10,x4_12)=>bif (!decide (x4_12 = ([] : List UInt8))) then (bif decide ((([(⟨3,x4_12,([] : List UInt8),0⟩ : Nd)] : List Nd).length + x3_10.length) * 48≤140737488355328) then (bif decide (x4_12.length≤4611686018427387904) then (some (.nxt (([(⟨3,x4_12,([] : List UInt8),0⟩ : Nd)] : List Nd) ++ x3_10,(qd x4_12)))) else none) else none) else (some (.brk x3_10))
def vW.sh (k : Nat) (a0 : List UInt8) : Option (List Nd):=
  bif decide (a0.length≤4611686018427387904) then ((qt (vW.b1) k (([(⟨1,a0,([] : List UInt8),0⟩ : Nd)] : List Nd),(qd a0))).bind fun z=>match z with | .inl t=>some t | .inr x3_16=>some x3_16) else none
theorem vW.eq (a0 : List UInt8) (h0 : qC a0 = true) : ∃ k,vW.sh k a0 = some (QK a0):=by
 have hl:=Vb h0
 refine ⟨a0.length + 1,?_⟩
 unfold vW.sh
 have key : ∀ (n : Nat) (q : List UInt8) (k : Nat) (acc : List Nd),(qd q).length≤n→n < k→acc.length + n≤1000→qt vW.b1 k (acc,qd q) = some (.inr (((yq q).reverse.map fun z=>(⟨3,z,[],0⟩ : Nd)) ++ acc)):=by
  intro n
  induction n with
  | zero=>
   intro q k acc hq hk ha
   obtain ⟨k,rfl⟩ : ∃ j,k = j + 1:=⟨k - 1,by omega⟩
   have hp : qd q = []:=List.eq_nil_of_length_eq_zero (by omega)
   rw [qt]
   simp [vW.b1,hp,JZ hp]
  | succ n ih=>
   intro q k acc hq hk ha
   obtain ⟨k,rfl⟩ : ∃ j,k = j + 1:=⟨k - 1,by omega⟩
   by_cases hp : qd q = []
   ·rw [qt]
    simp [vW.b1,hp,JZ hp]
   ·have hlt:=QE hp
    have hI:=ih (qd q) k ([(⟨3,qd q,[],0⟩ : Nd)] ++ acc) (by omega) (by omega) (by simp; omega)
    have d1 : decide (([(⟨3,qd q,[],0⟩ : Nd)].length + acc.length) * 48≤140737488355328) = true:=decide_eq_true (by simp; omega)
    have d2 : decide ((qd q).length≤4611686018427387904) = true:=decide_eq_true (by omega)
    rw [qt]
    simp only [vW.b1,decide_eq_false hp,Bool.not_false,cond_true,d1,d2]
    rw [VV hp,List.reverse_cons,List.map_append,List.append_assoc]
    exact hI
 have hk:=key a0.length a0 (a0.length + 1) [(⟨1,a0,[],0⟩ : Nd)] (Jz a0) (by omega) (by simp; omega)
 have d0 : decide (a0.length≤4611686018427387904) = true:=decide_eq_true (by omega)
 rw [d0,hk]
 rfl
theorem X6 {T E : Type} {b : Int→Option (Step T Int E)} {q : Nat→Bool} {f : Nat→T} {i0 : Nat} (hlt : ∀ i,i < i0→q i = false) (h0 : q i0 = true) (hb : ∀ i,i≤i0→b (i : Int) = if q i = true then some (.ret (f i)) else some (.nxt ((i : Int) + 1))) (k : Nat) (hk : i0 < k) : qt b k 0 = some (.inl (f i0)):=by
 have key : ∀ m i k,i + m = i0→m < k→qt b k (i : Int) = some (.inl (f i0)):=by
  intro m
  induction m with
  | zero=>
   intro i k hi hk
   obtain ⟨k,rfl⟩ : ∃ j,k = j + 1:=⟨k - 1,by omega⟩
   obtain rfl : i = i0:=by omega
   rw [qt,hb i (Nat.le_refl _),if_pos h0]; rfl
  | succ m ih=>
   intro i k hi hk
   obtain ⟨k,rfl⟩ : ∃ j,k = j + 1:=⟨k - 1,by omega⟩
   rw [qt,hb i (by omega),if_neg (by rw [hlt i (by omega)]; simp)]
   have:=ih (i + 1) k (by omega) (by omega)
   rw [Int.natCast_add] at this
   exact this
 exact key i0 0 k (by omega) hk
theorem find_range_lt {q : Nat→Bool} {n i : Nat} (h : (List.range n).find? q = some i) : i < n∧q i = true∧∀ j,j < i→q j = false:=by
 rw [List.find?_range_eq_some] at h
 obtain ⟨h1,h2,h3⟩:=h
 exact ⟨List.mem_range.1 h2,h1,fun j hj=>by simpa using h3 j hj⟩
theorem freeI_spec {x y : List Rec} (hlen : x.length + y.length < 100) {p : List UInt8} (hp : p ≠ []) : YG x y p < 100∧VS x y p (YG x y p) = true∧∀ j,j < YG x y p→VS x y p j = false:=by
 obtain ⟨i,_,hi,_⟩:=free_some hlen (x:=x) (y:=y) hp
 have hf : YG x y p = i:=by unfold YG; rw [hi]; rfl
 rw [hf]
 exact find_range_lt hi
theorem nm_form (p : List UInt8) (i : Nat) : j4 p (([122] : List UInt8) ++ jH i) = nmP p i:=rfl
theorem digs_len (i : Nat) : (jH i).length≤2:=by unfold jH; split <;> simp
def yW.b1 (a0 : List Rec) (a1 : List Rec) (a2 : List UInt8) : Int→Option (Step (List UInt8) (Int) (List UInt8)):=
 fun x7_1=>bif decide ((0 : Int)≤x7_1) then (bif decide ((x7_1 : Int) < 100) then (bif decide (([122] : List UInt8).length + (jH x7_1.toNat).length≤9223372036854775807) then (bif decide (a2.length≤1048576) then (bif decide ((([122] : List UInt8) ++ (jH x7_1.toNat)).length≤1048576) then (bif decide (a0.length≤1048576) then (((bif (decide ((qJ a0 (j4 a2 (([122] : List UInt8) ++ (jH x7_1.toNat)))) < 0)) then (bif decide (a1.length≤1048576) then (some (decide ((qJ a1 (j4 a2 (([122] : List UInt8) ++ (jH x7_1.toNat)))) < 0))) else none) else some false)).bind fun z32=>bif z32 then (some (.ret (j4 a2 (([122] : List UInt8) ++ (jH x7_1.toNat))))) else (some (.nxt (IntKind.wrap .i64 (x7_1 + 1))))) else none) else none) else none) else none) else none) else none
def yW.sh (k : Nat) (a0 : List Rec) (a1 : List Rec) (a2 : List UInt8) : Option (List UInt8):=
  (qt (yW.b1 a0 a1 a2) k 0).bind fun z=>match z with | .inl t=>some t | .inr x6_5=>some x6_5
theorem yW.eq (a0 a1 : List Rec) (a2 : List UInt8) (h0 : a0.length≤16) (h1 : a1.length≤16) (h2 : qC a2 = true) : ∃ k,yW.sh k a0 a1 a2 = some (nmP a2 (YG a0 a1 a2)):=by
 have hl:=Vb h2
 obtain ⟨f1,f2,f3⟩:=freeI_spec (x:=a0) (y:=a1) (by omega) (VQ h2)
 refine ⟨101,?_⟩
 unfold yW.sh
 rw [X6 (T:=List UInt8) (q:=VS a0 a1 a2) (f:=nmP a2) f3 f2 (fun i hi=>?_) 101 (by omega)]
 ·rfl
 ·have hd:=digs_len i
  have d1 : decide ((0 : Int)≤(i : Int)) = true:=decide_eq_true (by omega)
  have d2 : decide ((i : Int) < 100) = true:=decide_eq_true (by omega)
  have d3 : decide (([122] : List UInt8).length + (jH i).length≤9223372036854775807) = true:=decide_eq_true (by simp; omega)
  have d4 : decide (a2.length≤1048576) = true:=decide_eq_true (by omega)
  have d5 : decide ((([122] : List UInt8) ++ jH i).length≤1048576) = true:=decide_eq_true (by simp; omega)
  have d6 : decide (a0.length≤1048576) = true:=decide_eq_true (by omega)
  have d7 : decide (a1.length≤1048576) = true:=decide_eq_true (by omega)
  have hw : IntKind.wrap .i64 ((i : Int) + 1) = (i : Int) + 1:=wrap_small (by omega) (by omega)
  simp only [yW.b1,Int.toNat_natCast,d1,d2,d3,d4,d5,d6,d7,cond_true,nm_form,hw]
  unfold VS
  by_cases c1 : qJ a0 (nmP a2 i) < 0 <;> by_cases c2 : qJ a1 (nmP a2 i) < 0 <;> simp [c1,c2]
theorem fileT_inv {p : List UInt8} (h : Wood (QK p)) : qC p = true:=QB (h.ok ⟨1,p,[],0⟩ (List.mem_append_right _ (List.mem_singleton.2 rfl)))
theorem Ya {a b : List Rec} (ha : (qn a).2 = 0) (hb : (qn b).2 = 0) :
  Sheet (qb a)∧Sheet (qb b)∧(qb a).length≤16∧(qb b).length≤16∧(qn (qb a)).2 = 0∧(qn (qb b)).2 = 0∧
  ∀ p,QR (qb a) (qb b) = some p→qC p = true∧(Jw (qb a) (qb b) p).length≤4∧Wood (Jw (qb a) (qb b) p)∧vd (qb a) (Jw (qb a) (qb b) p) ≠ vd (qb b) (Jw (qb a) (qb b) p)∧
   ((qV (qb a) p).kind = 3∧(qV (qb b) p).kind = 3∧(qV (qb a) p).mode = (qV (qb b) p).mode→qC (nmP p (YG (qb a) (qb b) p)) = true)∧
   ((qV (qb a) p).kind ≠ 0→(qV (qb a) p).path = p)∧((qV (qb b) p).kind ≠ 0→(qV (qb b) p).path = p):=by
 have sa:=Vx ha
 have sb:=Vx hb
 have la:=je ha
 have lb:=je hb
 have ca:=V8 sa
 have cb:=V8 sb
 have ka:=Yt a
 have kb:=Yt b
 have ia:=X0 sa (by omega)
 have ib:=X0 sb (by omega)
 refine ⟨ca,cb,by omega,by omega,QC ca (by omega),QC cb (by omega),fun p hp=>?_⟩
 obtain ⟨h1,h2⟩:=firstP_some ca cb hp
 obtain ⟨w1,w2,w3⟩:=wit_differs ca cb ia ib (by omega) h1 h2
 have path : ∀ {l : List Rec},Sheet l→(qV l p).kind ≠ 0→(qV l p).path = p:=fun {l} hl hk=>by
  cases h : qN l p with
  | none=>exact absurd ((Yv hl).2 h) hk
  | some r=>rw [Js h]; exact (yj h).2
 refine ⟨?_,w2,w1,w3,fun hd=>?_,path ca,path cb⟩
 ·cases q1 : qN (qb a) p with
  | some r=>exact ca.path q1
  | none=>
   cases q2 : qN (qb b) p with
   | some r=>exact cb.path q2
   | none=>rw [q1,q2] at h2; exact absurd rfl h2
 ·unfold Jw at w1
  obtain ⟨k1,k2,k3⟩:=hd
  rw [if_neg (by rw [k1,k2]; omega),if_pos ⟨k1,k2,k3⟩] at w1
  exact fileT_inv w1
def yX.sh (a0 : List Rec) (a1 : List Rec) : Option (List Nd × Bool):=
 bif decide (a0.length≤1048576) then (bif decide (∀ x ∈ a0,qC x.path = true) then (bif decide (a1.length≤1048576) then (bif decide (∀ x ∈ a1,qC x.path = true) then (bif decide ((qn (qb a0)).2 = 0) then (bif decide ((qn (qb a1)).2 = 0) then (bif (!((vl (qb a0) (qb a1)).2.2)) then (some (([] : List Nd),false)) else (bif ((decide ((((vl (qb a0) (qb a1)).1).kind) = 4)) && (decide ((((vl (qb a0) (qb a1)).2.1).kind) = 0))) then (bif decide (qC (((vl (qb a0) (qb a1)).1).path) = true) then (some ((QK (((vl (qb a0) (qb a1)).1).path)),true)) else none) else (bif ((decide ((((vl (qb a0) (qb a1)).2.1).kind) = 4)) && (decide ((((vl (qb a0) (qb a1)).1).kind) = 0))) then (bif decide (qC (((vl (qb a0) (qb a1)).2.1).path) = true) then (some ((QK (((vl (qb a0) (qb a1)).2.1).path)),true)) else none) else (bif (((decide ((((vl (qb a0) (qb a1)).1).kind) = 3)) && (decide ((((vl (qb a0) (qb a1)).2.1).kind) = 3))) && (decide ((((vl (qb a0) (qb a1)).1).mode) = (((vl (qb a0) (qb a1)).2.1).mode)))) then (bif decide ((qb a0).length≤16) then (bif decide ((qb a1).length≤16) then (bif decide (qC (((vl (qb a0) (qb a1)).1).path) = true) then ((some (nmP (((vl (qb a0) (qb a1)).1).path) (YG (qb a0) (qb a1) (((vl (qb a0) (qb a1)).1).path)))).bind fun z84=>bif decide (qC z84 = true) then (some ((QK z84),true)) else none) else none) else none) else none) else (some (([] : List Nd),true)))))) else none) else none) else none) else none) else none) else none
theorem yX.eq (a0 a1 : List Rec) (h0 : (qn a0).2 = 0) (h1 : (qn a1).2 = 0) : yX.sh a0 a1 = some ((Jt a0 a1).1,(Jt a0 a1).2):=by
 obtain ⟨ca,cb,la,lb,fa,fb,hf⟩:=Ya h0 h1
 have l0:=je h0
 have l1:=je h1
 have g1 : decide (a0.length≤1048576) = true:=decide_eq_true (by omega)
 have g2 : decide (a1.length≤1048576) = true:=decide_eq_true (by omega)
 have g3 : decide (∀ x ∈ a0,qC x.path = true) = true:=decide_eq_true (jS h0)
 have g4 : decide (∀ x ∈ a1,qC x.path = true) = true:=decide_eq_true (jS h1)
 have g5 : decide ((qb a0).length≤16) = true:=decide_eq_true la
 have g6 : decide ((qb a1).length≤16) = true:=decide_eq_true lb
 unfold yX.sh Jt vl
 simp only [g1,g2,g3,g4,g5,g6,fa,fb,decide_true,cond_true]
 cases hp : QR (qb a0) (qb a1) with
 | none=>rfl
 | some p=>
  obtain ⟨q1,q2,q3,q4,q5,q6,q7⟩:=hf p hp
  simp only [Bool.not_true,cond_false]
  unfold Jw
  by_cases c1 : (qV (qb a0) p).kind = 4∧(qV (qb a1) p).kind = 0
  ·rw [if_pos (.inl c1),decide_eq_true c1.1,decide_eq_true c1.2]
   rw [q6 (by rw [c1.1]; omega),decide_eq_true q1]; rfl
  ·have e1 : (decide ((qV (qb a0) p).kind = 4) && decide ((qV (qb a1) p).kind = 0)) = false:=by rw [← Bool.decide_and]; exact decide_eq_false c1
   rw [e1]
   by_cases c2 : (qV (qb a1) p).kind = 4∧(qV (qb a0) p).kind = 0
   ·rw [if_pos (.inr ⟨c2.2,c2.1⟩),decide_eq_true c2.1,decide_eq_true c2.2]
    rw [q7 (by rw [c2.1]; omega),decide_eq_true q1]; rfl
   ·have e2 : (decide ((qV (qb a1) p).kind = 4) && decide ((qV (qb a0) p).kind = 0)) = false:=by rw [← Bool.decide_and]; exact decide_eq_false c2
    rw [e2,if_neg (by rintro (h | h); exact c1 h; exact c2 ⟨h.2,h.1⟩)]
    by_cases c3 : (qV (qb a0) p).kind = 3∧(qV (qb a1) p).kind = 3∧(qV (qb a0) p).mode = (qV (qb a1) p).mode
    ·rw [if_pos c3,decide_eq_true c3.1,decide_eq_true c3.2.1,decide_eq_true c3.2.2]
     rw [q6 (by rw [c3.1]; omega),decide_eq_true q1]
     simp only [Bool.and_self,cond_false,cond_true,Option.bind_some,decide_eq_true (q5 c3)]
    ·have e3 : ((decide ((qV (qb a0) p).kind = 3) && decide ((qV (qb a1) p).kind = 3)) && decide ((qV (qb a0) p).mode = (qV (qb a1) p).mode)) = false:=by rw [← Bool.decide_and,← Bool.decide_and]; exact decide_eq_false fun h=>c3 ⟨h.1.1,h.1.2,h.2⟩
     rw [if_neg c3,e3]; rfl
def jE.sh (a0 : List Rec) (a1 : List Rec) : Option (List Nd × Int):=
 bif ((decide (4096 < (a0.length : Int))) || (decide (4096 < (a1.length : Int)))) then (some (([] : List Nd),2)) else (bif decide (a0.length≤1048576) then (bif decide (∀ x ∈ a0,x.path.length≤1048576) then (((bif (!(decide ((qn a0).2 = 0))) then some true else (bif decide (a1.length≤1048576) then (bif decide (∀ x ∈ a1,x.path.length≤1048576) then (some (!(decide ((qn a1).2 = 0)))) else none) else none))).bind fun z19=>bif z19 then (some (([] : List Nd),1)) else (bif decide ((qn a0).2 = 0) then (bif decide ((qn a1).2 = 0) then (bif (!((Jt a0 a1).2)) then (some (([] : List Nd),18)) else (some ((Jt a0 a1).1,0))) else none) else none)) else none) else none)
theorem jE.eq (a0 a1 : List Rec) (h0 : a0.length≤1048576) (h1 : a1.length≤1048576) (h2 : ∀ x ∈ a0,x.path.length≤1048576) (h3 : ∀ x ∈ a1,x.path.length≤1048576) : jE.sh a0 a1 = some ((qD a0 a1).1,(qD a0 a1).2):=by
 unfold jE.sh qD
 rw [pairCode_dec]
 by_cases h : (decide (4096 < a0.length) || decide (4096 < a1.length)) = true
 ·have : pairCode a0 a1 = 2:=by simp only [pairCode,h,if_true]
  simp only [h,cond_true,this]; rfl
 ·have hf : (decide (4096 < a0.length) || decide (4096 < a1.length)) = false:=by simpa using h
  simp only [hf,cond_false,decide_eq_true h0,decide_eq_true h1,decide_eq_true h2,decide_eq_true h3,cond_true]
  by_cases c1 : (qn a0).2 = 0
  ·by_cases c2 : (qn a1).2 = 0
   ·have hc : pairCode a0 a1 = 0:=by simp only [pairCode,h,if_false,c1,c2]; rfl
    simp only [c1,c2,hc,decide_true,Bool.not_true,cond_false,cond_true,Option.bind_some,if_true]
    unfold Jt
    cases QR (qb a0) (qb a1) <;> rfl
   ·have hc : pairCode a0 a1 = 1:=by simp only [pairCode,h,if_false,c1,c2]; rfl
    simp only [c1,c2,hc,decide_true,decide_false,Bool.not_true,Bool.not_false,cond_false,cond_true,Option.bind_some]; rfl
  ·have hc : pairCode a0 a1 = 1:=by simp only [pairCode,h,if_false,c1]; simp
   simp only [c1,hc,decide_false,Bool.not_false,cond_true,Option.bind_some]; rfl
theorem find_loop {α T : Type} [Inhabited α] (q : α → Bool) (g : α → T) (l : List α) {b : Int → Option (Step T Int Unit)} (hb : ∀ i : Nat, i < l.length → (∀ j : Nat, j < i → q (gt l (j : Int)) = false) → b (i : Int) = bif q (gt l (i : Int)) then some (.ret (g (gt l (i : Int)))) else some (.nxt ((i : Int) + 1))) (hn : b (l.length : Int) = some (.brk ())) :
    ∀ (m i k : Nat),i + m = l.length→m < k→(∀ j : Nat,j < i→q (gt l (j : Int)) = false)→qt b k (i : Int) = some (match (l.drop i).find? q with | some x=>.inl (g x) | none=>.inr ()):=by
  intro m
  induction m with
  | zero=>
    intro i k hi hk hj
    obtain ⟨k,rfl⟩ : ∃ j,k = j + 1:=⟨k - 1,by omega⟩
    obtain rfl : i = l.length:=by omega
    rw [qt,hn,List.drop_length]; rfl
  | succ m ih=>
    intro i k hi hk hj
    obtain ⟨k,rfl⟩ : ∃ j,k = j + 1:=⟨k - 1,by omega⟩
    have hlt : i < l.length:=by omega
    rw [qt,hb i hlt hj,List.drop_eq_getElem_cons hlt]
    have e : gt l (i : Int) = l[i]:=by rw [yl,yh hlt]
    rcases qo (q (gt l (i : Int))) with h | h
    · rw [h,List.find?_cons_of_pos (by rw [← e]; exact h),← e]; rfl
    · rw [h,List.find?_cons_of_neg (by rw [← e,h]; simp)]
      have:=ih (i + 1) k (by omega) (by omega) fun j hj2=>by
        by_cases c : j = i
        · subst c; exact h
        · exact hj j (by omega)
      rw [Int.natCast_add] at this
      exact this
def vj.b2 (a0 : List Rec) (a1 : List Rec) (x49_59 : Int) : Int→Option (Step (Step (List Nd × Int) (Int) (Unit)) (Int) (Unit)):=
 fun x15_174=>bif decide ((0 : Int)≤x15_174) then (bif decide ((x15_174 : Int) < 100) then (bif decide (([122] : List UInt8).length + (jH x15_174.toNat).length≤9223372036854775807) then (bif decide ((gt (yw ([(qb a0),(qb a1)] : List (List Rec))) x49_59).length≤1048576) then (bif decide ((([122] : List UInt8) ++ (jH x15_174.toNat)).length≤1048576) then ((some (j4 (gt (yw ([(qb a0),(qb a1)] : List (List Rec))) x49_59) (([122] : List UInt8) ++ (jH x15_174.toNat)))).bind fun z200=>bif decide ((qb a0).length≤1048576) then (((bif (decide ((qJ (qb a0) z200) < 0)) then (bif decide ((qb a1).length≤1048576) then (some (decide ((qJ (qb a1) z200) < 0))) else none) else some false)).bind fun z206=>bif z206 then (bif decide (qC z200 = true) then (some (.ret (.ret ((QK z200),0)))) else none) else (some (.nxt (IntKind.wrap .i64 (x15_174 + 1))))) else none) else none) else none) else none) else none) else none
def vj.b1 (k : Nat) (a0 : List Rec) (a1 : List Rec) : Int→Option (Step (List Nd × Int) (Int) (Unit)):=
  fun x49_59=>bif (decide (x49_59 < ((yw ([(qb a0),(qb a1)] : List (List Rec))).length : Int))) then (bif inR x49_59 (yw ([(qb a0),(qb a1)] : List (List Rec))).length then (bif decide ((qb a0).length≤1048576) then ((bif (decide (0≤(qJ (qb a0) (gt (yw ([(qb a0),(qb a1)] : List (List Rec))) x49_59)))) then (bif inR (qJ (qb a0) (gt (yw ([(qb a0),(qb a1)] : List (List Rec))) x49_59)) (qb a0).length then (some (.inr (gt (qb a0) (qJ (qb a0) (gt (yw ([(qb a0),(qb a1)] : List (List Rec))) x49_59))))) else none) else (some (.inr (⟨0,([] : List UInt8),([] : List UInt8),0,false⟩ : Rec))) : Option ((Step (List Nd × Int) (Int) (Unit)) ⊕ (Rec))).bind fun z=>match z with | .inl t=>some t | .inr y104=>bif decide ((qb a1).length≤1048576) then ((bif (decide (0≤(qJ (qb a1) (gt (yw ([(qb a0),(qb a1)] : List (List Rec))) x49_59)))) then (bif inR (qJ (qb a1) (gt (yw ([(qb a0),(qb a1)] : List (List Rec))) x49_59)) (qb a1).length then (some (.inr (gt (qb a1) (qJ (qb a1) (gt (yw ([(qb a0),(qb a1)] : List (List Rec))) x49_59))))) else none) else (some (.inr (⟨0,([] : List UInt8),([] : List UInt8),0,false⟩ : Rec))) : Option ((Step (List Nd × Int) (Int) (Unit)) ⊕ (Rec))).bind fun z=>match z with | .inl t=>some t | .inr y125=>bif (decide (y104 = y125)) then (some (.nxt (IntKind.wrap .i64 (x49_59 + 1)))) else (bif (((decide (y104.kind = 4)) && (decide (y125.kind = 0))) || ((decide (y104.kind = 0)) && (decide (y125.kind = 4)))) then (bif decide (qC (gt (yw ([(qb a0),(qb a1)] : List (List Rec))) x49_59) = true) then (some (.ret ((QK (gt (yw ([(qb a0),(qb a1)] : List (List Rec))) x49_59)),0))) else none) else (bif (((decide (y104.kind = 3)) && (decide (y125.kind = 3))) && (decide (y104.mode = y125.mode))) then ((qt (vj.b2 a0 a1 x49_59) k 0).bind fun z=>match z with | .inl t=>some t | .inr _=>some (.ret ([],0))) else (some (.ret ([],0)))))) else none) else none) else none) else (some (.brk ()))
def vj.sh (k : Nat) (a0 : List Rec) (a1 : List Rec) : Option (List Nd × Int):=
  bif decide (a0.length≤1048576) then (bif decide (∀ x ∈ a0,x.path.length≤1048576) then (((bif (!(decide ((vf a0).2 = 0))) then some true else (bif decide (a1.length≤1048576) then (bif decide (∀ x ∈ a1,x.path.length≤1048576) then (some (!(decide ((vf a1).2 = 0)))) else none) else none))).bind fun z14=>bif decide (([.inl ((decide (4096 < a0.length)) || (decide (4096 < a1.length))),.inr 2,.inl z14,.inr 1] : List (Bool ⊕ Int)).length≤4611686018427387904) then ((some (vY ([.inl ((decide (4096 < a0.length)) || (decide (4096 < a1.length))),.inr 2,.inl z14,.inr 1] : List (Bool ⊕ Int)))).bind fun z31=>bif (!decide (z31 = 0)) then (some ([],z31)) else (bif decide (a0.length≤1048576) then (bif decide (∀ x ∈ a0,qC x.path = true) then (bif decide (a1.length≤1048576) then (bif decide (∀ x ∈ a1,qC x.path = true) then (bif decide (([(qb a0),(qb a1)] : List (List Rec)).length≤5) then (bif decide (∀ l ∈ ([(qb a0),(qb a1)] : List (List Rec)),l.length≤1048576) then (bif decide (∀ l ∈ ([(qb a0),(qb a1)] : List (List Rec)),∀ x ∈ l,x.path.length≤1048576) then ((qt (vj.b1 k a0 a1) k 0).bind fun z=>match z with | .inl t=>some t | .inr _=>some ([],18)) else none) else none) else none) else none) else none) else none) else none)) else none) else none) else none
theorem GP {a b : List Rec} (ca : Sheet (qb a)) (cb : Sheet (qb b)) (la : (qb a).length≤16) (lb : (qb b).length≤16) : YL [qb a,qb b] = true:=stack_mk (fun l hl=>by
 simp at hl
 rcases hl with rfl | rfl
 ·exact ⟨ca,la⟩
 ·exact ⟨cb,lb⟩) (by simp)
theorem recAt_sh {T : Type} (l : List Rec) (p : List UInt8) : ((bif (decide (0≤qJ l p)) then (bif inR (qJ l p) l.length then (some (.inr (gt l (qJ l p)))) else none) else (some (.inr (⟨0,([] : List UInt8),([] : List UInt8),0,false⟩ : Rec))) : Option (T ⊕ Rec))) = some (.inr (qV l p)):=by
 unfold qV
 by_cases h : 0≤qJ l p
 ·rw [decide_eq_true h,G4 h,if_pos h]; rfl
 ·rw [decide_eq_false h,if_neg h]; rfl
theorem vj.step {a0 a1 : List Rec} (c1 : (qn a0).2 = 0) (c2 : (qn a1).2 = 0) {i : Nat} (hi : i < (yw [qb a0,qb a1]).length) (hj : ∀ j : Nat,j < i→(!decide (qV (qb a0) (gt (yw [qb a0,qb a1]) (j : Int)) = qV (qb a1) (gt (yw [qb a0,qb a1]) (j : Int)))) = false) :
  vj.b1 200 a0 a1 (i : Int) = bif (!decide (qV (qb a0) (gt (yw [qb a0,qb a1]) (i : Int)) = qV (qb a1) (gt (yw [qb a0,qb a1]) (i : Int)))) then some (.ret (Jw (qb a0) (qb a1) (gt (yw [qb a0,qb a1]) (i : Int)),0)) else some (.nxt ((i : Int) + 1)):=by
 obtain ⟨ca,cb,la,lb,fa,fb,hf⟩:=Ya c1 c2
 have hst:=GP ca cb la lb
 have hpl:=paths_len hst
 have hw : IntKind.wrap .i64 ((i : Int) + 1) = (i : Int) + 1:=vX hi (by omega)
 obtain ⟨L,hL⟩ : ∃ L,yw [qb a0,qb a1] = L:=⟨_,rfl⟩
 have hmem : gt L (i : Int) ∈ L:=by rw [← hL]; exact YY (qT hi)
 have hpo:=paths_ok hst (gt L (i : Int)) (by rw [hL]; exact hmem)
 have hr : yu L:=by rw [← hL]; exact YE _
 have d1 : decide ((qb a0).length≤1048576) = true:=decide_eq_true (by omega)
 have d2 : decide ((qb a1).length≤1048576) = true:=decide_eq_true (by omega)
 rw [hL] at hi hj ⊢
 simp only [vj.b1,hL,y6,hi,decide_true,cond_true,qT hi,d1,d2,recAt_sh,Option.bind_some,hw]
 by_cases he : qV (qb a0) (gt L (i : Int)) = qV (qb a1) (gt L (i : Int))
 ·rw [decide_eq_true he]; rfl
 ·have hfp : QR (qb a0) (qb a1) = some (gt L (i : Int)):=by
   unfold QR
   rw [hL]
   refine find_rise hr hmem (by simpa using he) fun q hq hlt=>?_
   obtain ⟨j,hj2,rfl⟩:=List.getElem_of_mem hq
   have e : gt L (j : Int) = L[j]:=by rw [yl,yh hj2]
   rw [← e]
   rcases Nat.lt_or_ge j i with hji | hji
   ·exact hj j hji
   ·rw [← e] at hlt
    by_cases c : j = i
    ·subst c; rw [Qo] at hlt; cases hlt
    ·have:=List.pairwise_iff_getElem.1 hr i j hi hj2 (by omega)
     have ei : gt L (i : Int) = L[i]:=by rw [yl,yh hi]
     rw [← e,← ei,QN hlt] at this; cases this
  obtain ⟨q1,q2,q3,q4,q5,q6,q7⟩:=hf _ hfp
  generalize hgp : gt L (i : Int) = p at *
  rw [decide_eq_false he]
  simp only [cond_false,Bool.not_false,cond_true]
  unfold Jw
  by_cases k1 : (qV (qb a0) p).kind = 4∧(qV (qb a1) p).kind = 0∨(qV (qb a0) p).kind = 0∧(qV (qb a1) p).kind = 4
  ·have e1 : ((decide ((qV (qb a0) p).kind = 4) && decide ((qV (qb a1) p).kind = 0)) || (decide ((qV (qb a0) p).kind = 0) && decide ((qV (qb a1) p).kind = 4))) = true:=by
    rw [← Bool.decide_and,← Bool.decide_and,← Bool.decide_or]; exact decide_eq_true k1
   rw [if_pos k1,e1,decide_eq_true q1]; rfl
  ·have e1 : ((decide ((qV (qb a0) p).kind = 4) && decide ((qV (qb a1) p).kind = 0)) || (decide ((qV (qb a0) p).kind = 0) && decide ((qV (qb a1) p).kind = 4))) = false:=by
    rw [← Bool.decide_and,← Bool.decide_and,← Bool.decide_or]; exact decide_eq_false k1
   rw [if_neg k1,e1]
   by_cases k2 : (qV (qb a0) p).kind = 3∧(qV (qb a1) p).kind = 3∧(qV (qb a0) p).mode = (qV (qb a1) p).mode
   ·rw [if_pos k2,decide_eq_true k2.1,decide_eq_true k2.2.1,decide_eq_true k2.2.2]
    obtain ⟨f1,f2,f3⟩:=freeI_spec (x:=qb a0) (y:=qb a1) (by omega) (VQ q1)
    have hpl2:=Vb q1
    have hq5:=q5 k2
    rw [X6 (T:=Step (List Nd × Int) Int Unit) (q:=VS (qb a0) (qb a1) p) (f:=fun j=>.ret (QK (nmP p j),0)) f3 f2 (fun j hj=>?_) 200 (by omega)]
    ·rfl
    ·have hd:=digs_len j
     have b1 : decide ((0 : Int)≤(j : Int)) = true:=decide_eq_true (by omega)
     have b2 : decide ((j : Int) < 100) = true:=decide_eq_true (by omega)
     have b3 : decide (([122] : List UInt8).length + (jH j).length≤9223372036854775807) = true:=decide_eq_true (by simp; omega)
     have b4 : decide (p.length≤1048576) = true:=decide_eq_true (by omega)
     have b5 : decide ((([122] : List UInt8) ++ jH j).length≤1048576) = true:=decide_eq_true (by simp; omega)
     have hw2 : IntKind.wrap .i64 ((j : Int) + 1) = (j : Int) + 1:=wrap_small (by omega) (by omega)
     have hgi : gt (yw ([qb a0,qb a1] : List (List Rec))) (i : Int) = p:=by rw [hL]; exact hgp
     simp only [vj.b2,hgi,Int.toNat_natCast,b1,b2,b3,b4,b5,d1,d2,cond_true,nm_form,hw2,Option.bind_some]
     unfold VS at f2 f3 ⊢
     by_cases x1 : qJ (qb a0) (nmP p j) < 0
     ·by_cases x2 : qJ (qb a1) (nmP p j) < 0
      ·have hjj : j = YG (qb a0) (qb a1) p:=by
        refine Classical.byContradiction fun hne=>?_
        have:=f3 j (by omega)
        simp [x1,x2] at this
       have hq6 : qC (nmP p j) = true:=by rw [hjj]; exact hq5
       simp [x1,x2,hq6]
      ·simp [x1,x2]
     ·simp [x1]
   ·have e3 : ((decide ((qV (qb a0) p).kind = 3) && decide ((qV (qb a1) p).kind = 3)) && decide ((qV (qb a0) p).mode = (qV (qb a1) p).mode)) = false:=by rw [← Bool.decide_and,← Bool.decide_and]; exact decide_eq_false fun h=>k2 ⟨h.1.1,h.1.2,h.2⟩
    rw [if_neg k2,e3]; rfl
theorem vj.eq (a0 a1 : List Rec) (h0 : a0.length≤1048576) (h1 : a1.length≤1048576) (h2 : ∀ x ∈ a0,x.path.length≤1048576) (h3 : ∀ x ∈ a1,x.path.length≤1048576) : ∃ k,vj.sh k a0 a1 = some ((qD a0 a1).1,(qD a0 a1).2):=by
  refine ⟨200,?_⟩
  unfold vj.sh qD vf
  simp only [h0,h1,decide_true,cond_true,decide_eq_true h2,decide_eq_true h3,JW,List.length_cons,List.length_nil,vY,XA,anyI]
  by_cases hp : pairCode a0 a1 = 0
  · obtain ⟨c1,c2⟩:=Y0 hp
    obtain ⟨ca,cb,la,lb,fa,fb,hf⟩:=Ya c1 c2
    have l0:=je c1
    have l1:=je c2
    have hst:=GP ca cb la lb
    have hpl:=paths_len hst
    have n1 : ¬ 4096 < a0.length:=by omega
    have n2 : ¬ 4096 < a1.length:=by omega
    have g3 : decide (∀ x ∈ a0,qC x.path = true) = true:=decide_eq_true (jS c1)
    have g4 : decide (∀ x ∈ a1,qC x.path = true) = true:=decide_eq_true (jS c2)
    have hL2 : ∀ l ∈ [qb a0,qb a1],Sheet l∧l.length≤16:=fun l hl=>by
      simp at hl
      rcases hl with rfl | rfl
      · exact ⟨ca,la⟩
      · exact ⟨cb,lb⟩
    have g5 : decide (∀ l ∈ ([qb a0,qb a1] : List (List Rec)),l.length≤1048576) = true:=decide_eq_true fun l hl=>by have:=(hL2 l hl).2; omega
    have g6 : decide (∀ l ∈ ([qb a0,qb a1] : List (List Rec)),∀ x ∈ l,x.path.length≤1048576) = true:=decide_eq_true fun l hl=>JD (hL2 l hl).1
    have hlo:=find_loop (fun p=>!decide (qV (qb a0) p = qV (qb a1) p)) (fun p=>(Jw (qb a0) (qb a1) p,(0 : Int))) (yw [qb a0,qb a1]) (b:=vj.b1 200 a0 a1) (fun i hi hj=>vj.step c1 c2 hi hj) (by simp [vj.b1]) (yw [qb a0,qb a1]).length 0 200 (by omega) (by omega) (fun j hj=>by omega)
    rw [List.drop_zero] at hlo
    have hlo2 : qt (vj.b1 200 a0 a1) 200 0 = some (match QR (qb a0) (qb a1) with | some x=>.inl (Jw (qb a0) (qb a1) x,0) | none=>.inr ()):=by
      have h9:=hlo
      unfold QR
      generalize List.find? (fun p=>!decide (qV (qb a0) p = qV (qb a1) p)) (yw [qb a0,qb a1]) = z at h9 ⊢
      cases z <;> exact h9
    simp only [n1,n2,c1,c2,hp,decide_true,decide_false,Bool.not_true,Bool.or_self,cond_true,cond_false,Option.bind_some,g3,g4,g5,g6,hlo2,Nat.reduceAdd,Nat.reduceLeDiff,Bool.false_eq_true,if_true,if_false]
    cases QR (qb a0) (qb a1) <;> rfl
  · have : pairCode a0 a1 ≠ 0:=hp
    unfold pairCode at this ⊢
    by_cases h : 4096 < a0.length
    · by_cases hf : (qn a0).2 = 0 <;> by_cases hg : (qn a1).2 = 0 <;> simp [h,hf,hg]
    · by_cases h' : 4096 < a1.length
      · by_cases hf : (qn a0).2 = 0 <;> by_cases hg : (qn a1).2 = 0 <;> simp [h,h',hf,hg]
      · by_cases hf : (qn a0).2 = 0
        · by_cases hg : (qn a1).2 = 0
          · simp [h,h',hf,hg] at this
          · simp [h,h',hf,hg]
        · simp [h,h',hf]
theorem witness_len (a b : List Rec) : (qD a b).1.length≤4:=by
 unfold qD
 split
 ·rename_i hp
  obtain ⟨c1,c2⟩:=Y0 hp
  obtain ⟨_,_,_,_,_,_,hf⟩:=Ya c1 c2
  cases hc : QR (qb a) (qb b) with
  | none=>simp
  | some p=>exact (hf p hc).2.1
 ·simp
def vu.sh (a0 : Int) : Option (List UInt8):=
 bif (decide (a0 = (-9223372036854775808))) then (some ([45,57,50,50,51,51,55,50,48,51,54,56,53,52,55,55,53,56,48,56] : List UInt8)) else (bif (decide (a0 < 0)) then (bif decide (False) then (bif decide (([45] : List UInt8).length + ([] : List UInt8).length≤9223372036854775807) then (some (([45] : List UInt8) ++ ([] : List UInt8))) else none) else none) else (bif (decide (a0 < 10)) then (some (Qg ([IntKind.wrap .u8 (IntKind.wrap .i64 (48 + a0))] : List Int))) else (bif decide (False) then (bif decide (([] : List UInt8).length + (Qg ([IntKind.wrap .u8 (IntKind.wrap .i64 (48 + (a0.tmod 10)))] : List Int)).length≤9223372036854775807) then (some (([] : List UInt8) ++ (Qg ([IntKind.wrap .u8 (IntKind.wrap .i64 (48 + (a0.tmod 10)))] : List Int)))) else none) else none)))
theorem digits1_all : (List.range 10).all (fun i=>decide (vu.sh (i : Int) = some (jH i))) = true:=by decide +kernel
theorem vu.eq (a0 : Int) (h0 : (0 : Int)≤a0) (h1 : (a0 : Int) < 10) : vu.sh a0 = some (jH a0.toNat):=by
 obtain ⟨i,rfl⟩:=Int.eq_ofNat_of_zero_le h0
 have:=List.all_eq_true.1 digits1_all i (List.mem_range.2 (by omega))
 exact of_decide_eq_true this
def vI.sh (a0 : Int) : Option (List UInt8):=
 bif (decide (a0 = (-9223372036854775808))) then (some ([45,57,50,50,51,51,55,50,48,51,54,56,53,52,55,55,53,56,48,56] : List UInt8)) else (bif (decide (a0 < 0)) then (bif decide ((0 : Int)≤(IntKind.wrap .i64 (0 - a0))) then (bif decide (((IntKind.wrap .i64 (0 - a0)) : Int) < 10) then (bif decide (([45] : List UInt8).length + (jH (IntKind.wrap .i64 (0 - a0)).toNat).length≤9223372036854775807) then (some (([45] : List UInt8) ++ (jH (IntKind.wrap .i64 (0 - a0)).toNat))) else none) else none) else none) else (bif (decide (a0 < 10)) then (some (Qg ([IntKind.wrap .u8 (IntKind.wrap .i64 (48 + a0))] : List Int))) else (bif decide ((0 : Int)≤(IntKind.wrap .i64 (a0.tdiv 10))) then (bif decide (((IntKind.wrap .i64 (a0.tdiv 10)) : Int) < 10) then (bif decide ((jH (IntKind.wrap .i64 (a0.tdiv 10)).toNat).length + (Qg ([IntKind.wrap .u8 (IntKind.wrap .i64 (48 + (a0.tmod 10)))] : List Int)).length≤9223372036854775807) then (some ((jH (IntKind.wrap .i64 (a0.tdiv 10)).toNat) ++ (Qg ([IntKind.wrap .u8 (IntKind.wrap .i64 (48 + (a0.tmod 10)))] : List Int)))) else none) else none) else none)))
theorem digits_all : (List.range 100).all (fun i=>decide (vI.sh (i : Int) = some (jH i))) = true:=by decide +kernel
theorem vI.eq (a0 : Int) (h0 : (0 : Int)≤a0) (h1 : (a0 : Int) < 100) : vI.sh a0 = some (jH a0.toNat):=by
 obtain ⟨i,rfl⟩:=Int.eq_ofNat_of_zero_le h0
 have:=List.all_eq_true.1 digits_all i (List.mem_range.2 (by omega))
 exact of_decide_eq_true this
def law_FnWitness.sh (a0 : List Int) (a1 : List Int) : Option (Bool):=
 ((bif (decide (1048576 < (a0.length : Int))) then some true else (some (decide (1048576 < (a1.length : Int)))))).bind fun z2=>bif z2 then (some true) else (((ya.sh a0)).bind fun z11=>((yo.sh a1 z11)).bind fun z17=>bif decide (z11.length≤1048576) then (bif decide (z17.length≤1048576) then (bif decide (∀ x ∈ z11,x.path.length≤1048576) then (bif decide (∀ x ∈ z17,x.path.length≤1048576) then (bif decide (z11.length≤1048576) then (bif decide (z17.length≤1048576) then (bif decide (∀ x ∈ z11,x.path.length≤1048576) then (bif decide (∀ x ∈ z17,x.path.length≤1048576) then (bif decide (z11.length≤1048576) then (bif decide (z17.length≤1048576) then (bif decide (∀ x ∈ z11,x.path.length≤1048576) then (bif decide (∀ x ∈ z17,x.path.length≤1048576) then (bif decide (z11.length≤1048576) then (bif decide (z17.length≤1048576) then (bif decide (∀ x ∈ z11,x.path.length≤1048576) then (bif decide (∀ x ∈ z17,x.path.length≤1048576) then (((bif (!decide (((jL z11 z17).2) = 0)) then some true else (some (!decide (((jL z11 z17).1) = ((jL z11 z17).1)))))).bind fun z52=>((bif z52 then some true else (some (!decide (((qD z11 z17).2) = ((qD z11 z17).2)))))).bind fun z61=>((bif z61 then some true else (bif decide (((qD z11 z17).1).length≤4611686018427387904) then (some (!(decide (((qD z11 z17).1) = ((qD z11 z17).1))))) else none))).bind fun z70=>((bif z70 then some true else (some (!decide ((decide (((qD z11 z17).2) = 18)) = ((jL z11 z17).1)))))).bind fun z79=>bif z79 then (some false) else (bif ((jL z11 z17).1) then (((yn.sh a1)).bind fun z89=>bif decide (z11.length≤1048576) then (bif decide (z89.length≤1048576) then (bif decide (∀ x ∈ z11,x.path.length≤1048576) then (bif decide (∀ x ∈ z89,x.path.length≤1048576) then (bif decide (z17.length≤1048576) then (bif decide (z89.length≤1048576) then (bif decide (∀ x ∈ z17,x.path.length≤1048576) then (bif decide (∀ x ∈ z89,x.path.length≤1048576) then (bif decide (z11.length≤1048576) then (bif decide (z89.length≤1048576) then (bif decide (∀ x ∈ z11,x.path.length≤1048576) then (bif decide (∀ x ∈ z89,x.path.length≤1048576) then (((bif (decide (((qE z11 z89).2) = ((qE z11 z89).2))) then (some (decide (((qE z17 z89).2) = ((qE z11 z89).2)))) else some false)).bind fun z120=>((bif z120 then (bif decide (((qE z11 z89).1).length≤4611686018427387904) then (some (decide (((qE z11 z89).1) = ((qE z11 z89).1)))) else none) else some false)).bind fun z129=>((bif z129 then (bif decide (((qE z17 z89).1).length≤4611686018427387904) then (some (decide (((qE z17 z89).1) = ((qE z11 z89).1)))) else none) else some false)).bind fun z138=>some z138) else none) else none) else none) else none) else none) else none) else none) else none) else none) else none) else none) else none) else (bif decide (((qD z11 z17).1).length≤1048576) then (bif decide (∀ x ∈ ((qD z11 z17).1),x.path.length≤1048576) then (bif (!(j5 ((qD z11 z17).1))) then (some false) else (bif decide (z11.length≤1048576) then (bif decide (((qD z11 z17).1).length≤1048576) then (bif decide (∀ x ∈ z11,x.path.length≤1048576) then (bif decide (∀ x ∈ ((qD z11 z17).1),x.path.length≤1048576) then (bif decide (z17.length≤1048576) then (bif decide (((qD z11 z17).1).length≤1048576) then (bif decide (∀ x ∈ z17,x.path.length≤1048576) then (bif decide (∀ x ∈ ((qD z11 z17).1),x.path.length≤1048576) then (bif decide (z11.length≤1048576) then (bif decide (((qD z11 z17).1).length≤1048576) then (bif decide (∀ x ∈ z11,x.path.length≤1048576) then (bif decide (∀ x ∈ ((qD z11 z17).1),x.path.length≤1048576) then (bif decide (z17.length≤1048576) then (bif decide (((qD z11 z17).1).length≤1048576) then (bif decide (∀ x ∈ z17,x.path.length≤1048576) then (bif decide (∀ x ∈ ((qD z11 z17).1),x.path.length≤1048576) then (((bif (decide (((qE z11 ((qD z11 z17).1)).2) = ((qE z11 ((qD z11 z17).1)).2))) then (some (decide (((qE z17 ((qD z11 z17).1)).2) = ((qE z17 ((qD z11 z17).1)).2)))) else some false)).bind fun z184=>((bif z184 then (some (decide (((qE z11 ((qD z11 z17).1)).2) = 0))) else some false)).bind fun z193=>((bif z193 then (some (decide (((qE z17 ((qD z11 z17).1)).2) = 0))) else some false)).bind fun z202=>((bif z202 then (bif decide (((qE z11 ((qD z11 z17).1)).1).length≤4611686018427387904) then (some (decide (((qE z11 ((qD z11 z17).1)).1) = ((qE z11 ((qD z11 z17).1)).1)))) else none) else some false)).bind fun z211=>((bif z211 then (bif decide (((qE z17 ((qD z11 z17).1)).1).length≤4611686018427387904) then (some (decide (((qE z17 ((qD z11 z17).1)).1) = ((qE z17 ((qD z11 z17).1)).1)))) else none) else some false)).bind fun z220=>((bif z220 then (bif decide (((qE z11 ((qD z11 z17).1)).1).length≤4611686018427387904) then (some (!(decide (((qE z11 ((qD z11 z17).1)).1) = ((qE z17 ((qD z11 z17).1)).1))))) else none) else some false)).bind fun z229=>some z229) else none) else none) else none) else none) else none) else none) else none) else none) else none) else none) else none) else none) else none) else none) else none) else none)) else none) else none))) else none) else none) else none) else none) else none) else none) else none) else none) else none) else none) else none) else none) else none) else none) else none) else none)
theorem alike_ok {a b : List Rec} (ha : Sheet a) (ha16 : a.length≤16) (hb : Sheet b) (hb16 : b.length≤16) : jL a b = (decide (qb a = qb b),0):=by simp [jL,pair_ok ha ha16 hb hb16]
theorem law_FnWitness.eq (a0 a1 : List Int) (h2 : ∀ x ∈ a0,okB x) (h3 : a0.length≤9223372036854775807) (h4 : ∀ x ∈ a1,okB x) (h5 : a1.length≤9223372036854775807) : law_FnWitness.sh a0 a1 = some true:=by
 unfold law_FnWitness.sh
 rcases guard_of a0 a1 with hg | ⟨hg,l0,l1⟩
 ·rw [hg]; rfl
 ·rw [hg]
  obtain ⟨a,e1,hL⟩:=layerDrawn_ok h2 (by omega)
  obtain ⟨b,e2,hb,hb16⟩:=akinDrawn_ok h4 (by omega) hL
  have ha:=hL.sheet
  have ha16:=hL.len
  have da : decide (a.length≤1048576) = true:=decide_eq_true (by omega)
  have db : decide (b.length≤1048576) = true:=decide_eq_true (by omega)
  have pa : decide (∀ x ∈ a,x.path.length≤1048576) = true:=decide_eq_true (JD ha)
  have pb : decide (∀ x ∈ b,x.path.length≤1048576) = true:=decide_eq_true (JD hb)
  have fa:=QC ha ha16
  have fb:=QC hb hb16
  obtain ⟨ca,cb,la,lb,_,_,hf⟩:=Ya fa fb
  have hwl:=witness_len a b
  have dw : decide ((qD a b).1.length≤4611686018427387904) = true:=decide_eq_true (by omega)
  simp only [e1,e2,cond_false,Option.bind_some,da,db,pa,pb,cond_true,alike_ok ha ha16 hb hb16,decide_true,Bool.not_true,dw]
  cases hp : QR (qb a) (qb b) with
  | none=>
   have hc : qb a = qb b:=(JC ca cb).1 hp
   have hw : qD a b = ([],18):=by unfold qD; rw [pair_ok ha ha16 hb hb16,if_pos rfl,hp]
   obtain ⟨t,e3,ht,ht16⟩:=treeDrawn_ok h4 (by omega)
   have dt : decide (t.length≤1048576) = true:=decide_eq_true (by omega)
   have pt : decide (∀ x ∈ t,x.path.length≤1048576) = true:=decide_eq_true (GC ht)
   have hs : qE b t = qE a t:=by rw [JL ha ha16 ht (by omega),JL hb hb16 ht (by omega),apply_same ha hb ht hc]
   have hl24 : (qE a t).1.length≤24:=by rw [JL ha ha16 ht (by omega)]; exact fitT_len _
   have dl : decide ((qE a t).1.length≤4611686018427387904) = true:=decide_eq_true (by omega)
   simp only [hw,decide_eq_true hc,decide_true,Bool.not_true,cond_false,cond_true,Option.bind_some,e3,da,db,pa,pb,dt,pt,hs,dl]
  | some p=>
   have hc : ¬ qb a = qb b:=fun h=>by
    have:=(JC ca cb).2 h
    rw [hp] at this; cases this
   obtain ⟨_,w1,w2,w3,_⟩:=hf p hp
   obtain ⟨W,hWe⟩ : ∃ W,Jw (qb a) (qb b) p = W:=⟨_,rfl⟩
   have hw : qD a b = (W,0):=by unfold qD; rw [pair_ok ha ha16 hb hb16,if_pos rfl,hp,← hWe]
   rw [hWe] at w1 w2 w3
   rw [YB ha w2,YB hb w2] at w3
   have s1:=(J9 fa w2).2
   have s2:=(J9 fb w2).2
   have x1 : qE a W = (vd a W,0):=by rw [JL ha ha16 w2 (by omega),fit_ok (by omega)]
   have x2 : qE b W = (vd b W,0):=by rw [JL hb hb16 w2 (by omega),fit_ok (by omega)]
   have dW : decide (W.length≤1048576) = true:=decide_eq_true (by omega)
   have pW : decide (∀ x ∈ W,x.path.length≤1048576) = true:=decide_eq_true (GC w2)
   have y1 : decide ((vd a W).length≤4611686018427387904) = true:=decide_eq_true (by omega)
   have y2 : decide ((vd b W).length≤4611686018427387904) = true:=decide_eq_true (by omega)
   have z0 : decide ((0 : Int) = 18) = false:=rfl
   simp only [hw,decide_eq_false hc,z0,decide_true,Bool.not_true,Bool.not_false,cond_false,cond_true,Option.bind_some,da,db,pa,pb,dW,pW,treeOK_of w2 (by omega : W.length≤24),x1,x2,y1,y2,decide_eq_false w3]
end Go.UL
