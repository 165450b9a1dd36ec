import Derived.Test.YtdhmlillkbjjjaaGreatDoorvP4
set_option linter.unusedVariables false
set_option linter.unusedSimpArgs false
namespace Go.UL
open Go.RowKit
theorem find_agree_lt {β : Type} {f g : Nat→Option β} (n : Nat) : ∀ (m i : Nat),i + m = n→(∀ j,j < i→f j = none)→(∀ i,i < n→(∀ j,j < i→f j = none)→g i = f i)→(List.range' i m).findSome? g = (List.range' i m).findSome? f:=by
  intro m
  induction m with
  | zero=>intro i _ _ _; rfl
  | succ m ih=>
    intro i hn hp h
    simp only [List.range'_succ,List.findSome?_cons,h i (by omega) hp]
    cases hf : f i with
    | some t=>rfl
    | none => exact ih (i + 1) (by omega) (fun j hj => by by_cases e : j = i
                                                          · subst e; exact hf
                                                          · exact hp j (by omega)) h
def jg {α : Type} (q : α→Bool) : List α→Int
 | []=>-1
 | x :: l=>if q x then 0 else if jg q l = -1 then -1 else jg q l + 1
theorem Yr {α : Type} {p : α→Option Bool} {q : α→Bool} : ∀ {l : List α},(∀ x ∈ l,p x = some (q x))→YP p l = some (jg q l):=by
 intro l
 induction l with
 | nil=>intro _; rfl
 | cons x l ih=>
  intro h
  simp only [YP,jg,h x (by simp),Option.bind_some]
  rw [ih fun y hy=>h y (by simp [hy])]
  cases q x <;> simp
theorem XR {α : Type} (q : α→Bool) (l : List α) : -1≤jg q l:=(Gq (p:=fun x=>some (q x)) (Yr (fun _ _=>rfl))).1
theorem JJ {α : Type} (q : α→Bool) : ∀ (l : List α),jg q l < l.length:=by
  intro l
  induction l with
  | nil=>simp [jg]
  | cons x l ih => simp only [jg, List.length_cons]; split
                   · omega
                   · split <;> omega
theorem findI_any {α : Type} (q : α→Bool) (l : List α) : decide (0≤jg q l) = l.any q:=by
 have h1:=(Gq (p:=fun x=>some (q x)) (l:=l) (Yr (fun _ _=>rfl))).2
 have h2:=anyO_some (p:=fun x=>some (q x)) (q:=q) (l:=l) (fun _ _=>rfl)
 rw [h1] at h2; exact Option.some.inj h2
theorem findI_get {α : Type} [Inhabited α] (q : α→Bool) : ∀ (l : List α),0≤jg q l→inR (jg q l) l.length = true∧q (gt l (jg q l)) = true:=by
 intro l h
 refine ⟨Vl h (JJ q l),?_⟩
 induction l with
 | nil=>simp [jg] at h
 | cons x l ih=>
  simp only [jg] at h ⊢
  by_cases hq : q x = true
  ·simp [hq,gt]
  ·simp only [hq] at h ⊢
   by_cases hm : jg q l = -1
   ·simp [hm] at h
   ·have hge:=XR q l
    have:=ih (by omega)
    simp only [hm,if_false,Bool.false_eq_true]
    have e : (jg q l + 1).toNat = (jg q l).toNat + 1:=by omega
    simpa [gt,e] using this
theorem findI_run {α : Type} [Inhabited α] (q : α→Bool) (l : List α) (b : Int→Option (Step Int Int Unit)) (hb : ∀ i : Nat,i < l.length→b i = bif q (l.getD i default) then some (.ret (i : Int)) else some (.nxt ((i : Int) + 1))) (hn : b l.length = some (.brk ())) :
  qt b (l.length + 1) 0 = some (if jg q l = -1 then .inr () else .inl (jg q l)):=by
 have:=J1 (p:=fun x=>some (q x)) l l.length 0 (by omega) (jg q l) (by simpa using Yr (p:=fun x=>some (q x)) (q:=q) (l:=l) (fun _ _=>rfl)) b (fun i hi=>by rw [hb i hi]; rfl) hn (l.length + 1) (by omega)
 simpa using this
def Ye : Rec:=⟨0,[],[],0,false⟩
def made (r : Rec) : Rec × Int:=if qx r = 0 then (r,0) else (Ye,qx r)
def vB : List UInt8→Int
 | []=>-1
 | b :: l=>if vB l = -1 then (if bn b = 47 then 0 else -1) else vB l + 1
theorem VC (t : List UInt8) : (vB t = -1∧∀ j,j < t.length→bn (t.getD j 0) ≠ 47)∨∃ i : Nat,i < t.length∧vB t = i∧bn (t.getD i 0) = 47∧∀ j,i < j→j < t.length→bn (t.getD j 0) ≠ 47:=by
 induction t with
 | nil=>left; exact ⟨rfl,by simp⟩
 | cons b l ih=>
  rcases ih with ⟨h1,h2⟩ | ⟨i,hi,h1,h2,h3⟩
  ·by_cases hb : bn b = 47
   ·right
    refine ⟨0,by simp,by simp [vB,h1,hb],by simpa using hb,?_⟩
    intro j hj hl
    obtain ⟨j,rfl⟩ : ∃ k,j = k + 1:=⟨j - 1,by omega⟩
    simpa using h2 j (by simpa using hl)
   ·left
    refine ⟨by simp [vB,h1,hb],?_⟩
    intro j hl
    cases j with
    | zero=>simpa using hb
    | succ j=>simpa using h2 j (by simpa using hl)
  ·right
   refine ⟨i + 1,by simpa using hi,?_,by simpa using h2,?_⟩
   ·have : vB l ≠ -1:=by rw [h1]; omega
    simp only [vB,this,if_false,h1]; omega
   ·intro j hj hl
    obtain ⟨j,rfl⟩ : ∃ k,j = k + 1:=⟨j - 1,by omega⟩
    simpa using h3 j (by omega) (by simpa using hl)
theorem Jp {t : List UInt8} (h : ∀ j,j < t.length→bn (t.getD j 0) ≠ 47) : vB t = -1:=by
 rcases VC t with ⟨h1,_⟩ | ⟨i,hi,_,h2,_⟩
 ·exact h1
 ·exact absurd h2 (h i hi)
theorem Jj {t : List UInt8} {i : Nat} (hi : i < t.length) (h : bn (t.getD i 0) = 47) (hn : ∀ j,i < j→j < t.length→bn (t.getD j 0) ≠ 47) : vB t = i:=by
 rcases VC t with ⟨_,h2⟩ | ⟨k,hk,h1,h2,h3⟩
 ·exact absurd h (h2 i hi)
 ·by_cases e : i = k
  ·rw [h1,e]
  ·by_cases hlt : i < k
   ·exact absurd h2 (hn k hlt hk)
   ·exact absurd h (h3 i (by omega) hi)
theorem Gw (t : List UInt8) : -1≤vB t:=by
 rcases VC t with ⟨h,_⟩ | ⟨i,_,h,_⟩ <;> omega
theorem Gz (t : List UInt8) : vB t < t.length:=by
 rcases VC t with ⟨h,_⟩ | ⟨i,hi,h,_⟩ <;> omega
def qd (t : List UInt8) : List UInt8:=t.take (vB t).toNat
theorem Jz (t : List UInt8) : (qd t).length≤t.length:=by simp [qd]; omega
def vr.b1 (a0 : List UInt8) : Int→Option (Step (List UInt8) (Int) (Unit)):=
 fun x3_1=>bif (decide (0≤x3_1)) then (bif inR x3_1 a0.length then (bif (decide ((byt a0 x3_1) = 47)) then (bif inS 0 x3_1 (a0.length : Int) then (some (.ret (sub a0 0 x3_1))) else none) else (some (.nxt (IntKind.wrap .i64 (x3_1 - 1))))) else none) else (some (.brk ()))
def vr.sh (k : Nat) (a0 : List UInt8) : Option (List UInt8):=
  (qt (vr.b1 a0) k (IntKind.wrap .i64 ((a0.length : Int) - 1))).bind fun z=>match z with | .inl t=>some t | .inr _=>some ([] : List UInt8)
theorem vr.eq (a0 : List UInt8) (h : a0.length≤4611686018427387904) : ∃ k,vr.sh k a0 = some (qd a0):=by
 refine ⟨a0.length + 1,?_⟩
 unfold vr.sh
 rw [wrap_small (n:=(a0.length : Int) - 1) (by omega) (by omega)]
 have key : ∀ (m k : Nat),m≤a0.length→m < k→(∀ j,m≤j→j < a0.length→bn (a0.getD j 0) ≠ 47)→
   qt (vr.b1 a0) k ((m : Int) - 1) = some (if vB a0 = -1 then .inr () else .inl (qd a0)):=by
  intro m
  induction m with
  | zero=>
   intro k _ hk hn
   obtain ⟨k,rfl⟩ : ∃ j,k = j + 1:=⟨k - 1,by omega⟩
   have:=Jp fun j hj=>hn j (by omega) hj
   have h0 : ¬ (0 : Int)≤((0 : Nat) : Int) - 1:=by omega
   simp [qt,vr.b1,this]
  | succ m ih=>
   intro k hm hk hn
   obtain ⟨k,rfl⟩ : ∃ j,k = j + 1:=⟨k - 1,by omega⟩
   have hlt : m < a0.length:=by omega
   have e : ((m + 1 : Nat) : Int) - 1 = (m : Int):=by omega
   rw [e]
   have h0 : (0 : Int)≤(m : Int):=by omega
   simp only [qt,vr.b1,h0,decide_true,cond_true,qT hlt,XI]
   by_cases hb : bn (a0.getD m 0) = 47
   ·have hl:=Jj hlt hb fun j hj hj2=>hn j (by omega) hj2
    have hne : vB a0 ≠ -1:=by omega
    simp only [hb,decide_true,cond_true,Vf (l:=0) (h:=(m : Int)) (n:=(a0.length : Int)) (by omega) (by omega) (by omega),Option.bind_some,hne,if_false]
    simp [sub,qd,hl]
   ·simp only [hb,decide_false,cond_false,Option.bind_some]
    rw [wrap_small (n:=(m : Int) - 1) (by omega) (by omega)]
    exact ih k (by omega) (by omega) fun j hj hj2=>by
     by_cases e : j = m
     ·subst e; exact hb
     ·exact hn j (by omega) hj2
 rw [key a0.length (a0.length + 1) (by omega) (by omega) (fun j h1 h2=>by omega)]
 by_cases hl : vB a0 = -1
 ·simp [hl,qd]
 ·simp [hl]
def jG.sh (a0 : List UInt8) : Option (List UInt8):=
 bif decide (a0.length≤1048576) then (bif decide (([47] : List UInt8) = [47]) then (bif inS 0 (if ((vB a0) < 0 : Prop) then 0 else (vB a0)) (a0.length : Int) then (some (sub a0 0 (if ((vB a0) < 0 : Prop) then 0 else (vB a0)))) else none) else none) else none
theorem jG.eq (a0 : List UInt8) (h : a0.length≤1048576) : jG.sh a0 = some (qd a0):=by
 unfold jG.sh
 have hge:=Gw a0
 have hlt:=Gz a0
 have hm : (if (vB a0 < 0 : Prop) then 0 else vB a0) = ((vB a0).toNat : Int):=by split <;> omega
 simp only [h,decide_true,cond_true,hm]
 rw [Vf (l:=0) (h:=((vB a0).toNat : Int)) (n:=(a0.length : Int)) (by omega) (by omega) (by omega)]
 simp [sub,qd]
 omega
def qJ (l : List Rec) (p : List UInt8) : Int:=jg (fun r=>decide (r.path = p)) l
def yK.b1 (a0 : List Rec) (a1 : List UInt8) : Int→Option (Step (Int) (Int) (Unit)):=
 fun x5_1=>bif (decide (x5_1 < (a0.length : Int))) then (bif inR x5_1 a0.length then (bif (decide (((gt a0 x5_1).path) = a1)) then (some (.ret x5_1)) else (some (.nxt (IntKind.wrap .i64 (x5_1 + 1))))) else none) else (some (.brk ()))
def yK.sh (k : Nat) (a0 : List Rec) (a1 : List UInt8) : Option (Int):=
  (qt (yK.b1 a0 a1) k 0).bind fun z=>match z with | .inl t=>some t | .inr _=>some (-1)
theorem yK.eq (a0 : List Rec) (a1 : List UInt8) (h : a0.length≤1048576) : ∃ k,yK.sh k a0 a1 = some (qJ a0 a1):=by
 refine ⟨a0.length + 1,?_⟩
 unfold yK.sh qJ
 rw [findI_run (fun r : Rec=>decide (r.path = a1)) a0 (yK.b1 a0 a1) (fun i hi=>by
  simp only [yK.b1,y6,hi,decide_true,cond_true,qT hi,yl,vX hi (by omega)]
  rfl) (by simp [yK.b1])]
 by_cases hm : jg (fun r : Rec=>decide (r.path = a1)) a0 = -1
 ·simp [hm]
 ·simp [hm]
def yk.sh (a0 : List Rec) : Option (Bool):=
 some (decide (4096 < (a0.length : Int)))
theorem yk.eq (a0 : List Rec) : yk.sh a0 = some (decide (4096 < a0.length)):=by
 have : (4096 : Int) < (a0.length : Int) ↔ 4096 < a0.length:=by omega
 simp [yk.sh,this]
def Vu.sh (a0 : Rec) (a1 : List UInt8) : Option (Bool):=
 some (decide (a0.path = a1))
theorem Vu.eq (a0 : Rec) (a1 : List UInt8) : Vu.sh a0 a1 = some (decide (a0.path = a1)):=rfl
def vk.b1 (a0 : List Rec) (a1 : Rec→Option Bool) : Int→Option (Step (Int) (Int) (Unit)):=
 fun x8_1=>bif (decide (x8_1 < (a0.length : Int))) then (bif inR x8_1 a0.length then ((a1 (gt a0 x8_1)).bind fun z22=>bif z22 then (some (.ret x8_1)) else (some (.nxt (IntKind.wrap .i64 (x8_1 + 1))))) else none) else (some (.brk ()))
def vk.sh (k : Nat) (a0 : List Rec) (a1 : Rec→Option Bool) : Option (Int):=
  (qt (vk.b1 a0 a1) k 0).bind fun z=>match z with | .inl t=>some t | .inr _=>some (-1)
theorem vk.eq (a0 : List Rec) (a1 : Rec→Option Bool) (h : a0.length≤4611686018427387904) {r : Int} (H : YP a1 a0 = some r) : ∃ k,vk.sh k a0 a1 = some r:=by
 refine ⟨a0.length + 1,?_⟩
 have:=J1 a0 a0.length 0 (by omega) r (by simpa using H) (vk.b1 a0 a1) (fun i hi=>by
  simp only [vk.b1,y6,hi,decide_true,cond_true,qT hi,yl,vX hi h]) (by simp [vk.b1]) (a0.length + 1) (by omega)
 simp only [Int.natCast_zero] at this
 unfold vk.sh
 rw [this]
 by_cases hr : r = -1
 ·simp [hr]
 ·simp [hr]
def Qa.sh (a0 : List Rec) (a1 : List UInt8) : Option (Int):=
 bif decide (a0.length≤4611686018427387904) then (((YP (fun (x0_ : Rec)=>some (decide (x0_.path = a1))) a0)).bind fun z12=>some z12) else none
theorem Qa.eq (a0 : List Rec) (a1 : List UInt8) (h : a0.length≤1048576) : Qa.sh a0 a1 = some (qJ a0 a1):=by
 have h1 : a0.length≤4611686018427387904:=by omega
 have h2:=Yr (p:=fun (x0_ : Rec)=>some (decide (x0_.path = a1))) (q:=fun r=>decide (r.path = a1)) (l:=a0) (fun _ _=>rfl)
 simp only [Qa.sh,h1,decide_true,cond_true,h2,Option.bind_some,qJ]
theorem eq_run {α : Type} [DecidableEq α] [Inhabited α] (a b : List α) (f : Int→Option (Step Bool Int Unit)) (hl : a.length = b.length)
  (hb : ∀ i : Nat,i < a.length→f i = some (if a.getD i default = b.getD i default then .nxt ((i : Int) + 1) else .ret false)) (hn : f a.length = some (.brk ())) :
  qt f (a.length + 1) 0 = some (if a = b then .inr () else .inl false):=by
 have hb' : ∀ i : Nat,i < a.length→f i = some (sc (if !decide (a.getD i default = b.getD i default) then some false else none : Option Bool) ((i : Int) + 1)):=by
  intro i hi
  rw [hb i hi]
  by_cases he : a.getD i default = b.getD i default
  ·simp only [he,if_true,decide_true,Bool.not_true,Bool.false_eq_true,if_false,JT]
  ·simp only [he,if_false,decide_false,Bool.not_false,if_true,JP]
 rw [jx a.length _ hb' hn (a.length + 1) (by omega),Xn a b hl]
 by_cases he : a = b <;> simp [he]
def yQ.b1 (a0 : List Rec) (a1 : List Rec) : Int→Option (Step (Bool) (Int) (Unit)):=
 fun x5_2=>bif (decide (x5_2 < (a0.length : Int))) then (bif inR x5_2 a0.length then (bif inR x5_2 a1.length then (bif (!decide ((gt a0 x5_2) = (gt a1 x5_2))) then (some (.ret false)) else (some (.nxt (IntKind.wrap .i64 (x5_2 + 1))))) else none) else none) else (some (.brk ()))
def yQ.sh (k : Nat) (a0 : List Rec) (a1 : List Rec) : Option (Bool):=
  bif (!decide ((a0.length : Int) = (a1.length : Int))) then (some false) else ((qt (yQ.b1 a0 a1) k 0).bind fun z=>match z with | .inl t=>some t | .inr _=>some true)
theorem yQ.eq (a0 a1 : List Rec) (h : a0.length≤1048576) : ∃ k,yQ.sh k a0 a1 = some (decide (a0 = a1)):=by
 refine ⟨a0.length + 1,?_⟩
 unfold yQ.sh
 by_cases hl : a0.length = a1.length
 ·rw [eq_run a0 a1 (yQ.b1 a0 a1) hl (fun i hi=>by
   have hi2 : i < a1.length:=by omega
   simp only [yQ.b1,y6,hi,decide_true,cond_true,qT hi,qT hi2,yl,vX hi (by omega)]
   by_cases he : a0.getD i default = a1.getD i default
   ·simp only [he,decide_true,Bool.not_true,cond_false,if_true]
   ·simp only [he,decide_false,Bool.not_false,cond_true,if_false]) (by simp [yQ.b1])]
  have : (a0.length : Int) = (a1.length : Int):=by omega
  by_cases he : a0 = a1 <;> simp [this,he]
 ·have h1 : ¬ (a0.length : Int) = (a1.length : Int):=by omega
  have h2 : a0 ≠ a1:=fun e=>hl (by rw [e])
  simp [h1,h2]
def yE.b1 (a0 : List Rec) (a1 : List Rec) : Int→Option (Step (Bool) (Int) (Unit)):=
 fun x13_2=>bif (decide (x13_2 < (a0.length : Int))) then (bif inR x13_2 a0.length then (bif inR x13_2 a1.length then (bif (!decide ((gt a0 x13_2) = (gt a1 x13_2))) then (some (.ret false)) else (some (.nxt (IntKind.wrap .i64 (x13_2 + 1))))) else none) else none) else (some (.brk ()))
def yE.sh (k : Nat) (a0 : List Rec) (a1 : List Rec) : Option (Bool):=
  bif (!decide ((a0.length : Int) = (a1.length : Int))) then (some false) else ((qt (yE.b1 a0 a1) k 0).bind fun z=>match z with | .inl t=>some t | .inr _=>some true)
theorem yE.eq (a0 a1 : List Rec) (h : a0.length≤1048576) : ∃ k,yE.sh k a0 a1 = some (decide (a0 = a1)):=by
 refine ⟨a0.length + 1,?_⟩
 unfold yE.sh
 by_cases hl : a0.length = a1.length
 ·rw [eq_run a0 a1 (yE.b1 a0 a1) hl (fun i hi=>by
   have hi2 : i < a1.length:=by omega
   simp only [yE.b1,y6,hi,decide_true,cond_true,qT hi,qT hi2,yl,vX hi (by omega)]
   by_cases he : a0.getD i default = a1.getD i default
   ·simp only [he,decide_true,Bool.not_true,cond_false,if_true]
   ·simp only [he,decide_false,Bool.not_false,cond_true,if_false]) (by simp [yE.b1])]
  have : (a0.length : Int) = (a1.length : Int):=by omega
  by_cases he : a0 = a1 <;> simp [this,he]
 ·have h1 : ¬ (a0.length : Int) = (a1.length : Int):=by omega
  have h2 : a0 ≠ a1:=fun e=>hl (by rw [e])
  simp [h1,h2]
def jk (l : List Rec) (i : Nat) : Int:=
 if i = 16 then 6 else if qx (l.getD i default) ≠ 0 then qx (l.getD i default)
 else if 0 < i∧(l.getD i default).path = (l.getD (i - 1) default).path then 18
 else if 0 < i∧vy (cut 47 (l.getD (i - 1) default).path) (cut 47 (l.getD i default).path) = false then 11
 else if qd (l.getD i default).path = [] then 0
 else if qJ (l.take i) (qd (l.getD i default).path) < 0 then 12
 else if (gt l (qJ (l.take i) (qd (l.getD i default).path))).kind ≠ 3 then 13 else 0
def qn (l : List Rec) : Int × Int:=match (List.range l.length).findSome? (fun i=>if jk l i = 0 then none else some ((i : Int),jk l i)) with
 | some x=>x
 | none=>(0,0)
def vf (l : List Rec) : Int × Int:=if 4096 < l.length then (0,2) else qn l
theorem YZ {α : Type} [Inhabited α] (l : List α) (i : Nat) : gt l (i : Int) = l.getD i default:=rfl
theorem getD_mem {l : List Rec} {i : Nat} (h : i < l.length) : l.getD i default ∈ l:=by
 have : l.getD i default = l[i]:=by simp [List.getD_eq_getElem?_getD,List.getElem?_eq_getElem h]
 rw [this]; exact List.getElem_mem h
theorem findR_take {l : List Rec} {p : List UInt8} {i : Nat} (hi : i≤l.length) (h : ¬ qJ (l.take i) p < 0) : inR (qJ (l.take i) p) l.length = true:=by
 have h1 : qJ (l.take i) p < (l.take i).length:=JJ _ _
 have h2 : (l.take i).length≤i:=by simp; omega
 exact Vl (by omega) (by omega)
def vP.b1 (a0 : List Rec) : Int→Option (Step (Int × Int) (Int) (Unit)):=
 fun x4_1=>bif (decide (x4_1 < (a0.length : Int))) then (bif (decide (x4_1 = 16)) then (some (.ret (x4_1,6))) else (bif inR x4_1 a0.length then (bif (!decide ((qx (gt a0 x4_1)) = 0)) then (some (.ret (x4_1,(qx (gt a0 x4_1))))) else (bif (!(decide (0 < x4_1)) || (inR x4_1 a0.length)) then (bif (!(decide (0 < x4_1)) || (inR (IntKind.wrap .i64 (x4_1 - 1)) a0.length)) then (bif ((decide (0 < x4_1)) && (decide (((gt a0 x4_1).path) = ((gt a0 (IntKind.wrap .i64 (x4_1 - 1))).path)))) then (some (.ret (x4_1,18))) else (bif (!(decide (0 < x4_1)) || (inR (IntKind.wrap .i64 (x4_1 - 1)) a0.length)) then (bif (!(decide (0 < x4_1)) || (inR x4_1 a0.length)) then (bif (!(decide (0 < x4_1)) || (decide (((gt a0 (IntKind.wrap .i64 (x4_1 - 1))).path).length≤1048576))) then (bif (!(decide (0 < x4_1)) || (decide (((gt a0 x4_1).path).length≤1048576))) then (bif ((decide (0 < x4_1)) && (!(vy (cut 47 ((gt a0 (IntKind.wrap .i64 (x4_1 - 1))).path)) (cut 47 ((gt a0 x4_1).path))))) then (some (.ret (x4_1,11))) else (bif inR x4_1 a0.length then (bif decide (((gt a0 x4_1).path).length≤4611686018427387904) then (bif (decide ((qd ((gt a0 x4_1).path)) = ([] : List UInt8))) then (some (.nxt (IntKind.wrap .i64 (x4_1 + 1)))) else (bif inS 0 x4_1 (a0.length : Int) then (bif decide ((sub a0 0 x4_1).length≤1048576) then (bif (decide ((qJ (sub a0 0 x4_1) (qd ((gt a0 x4_1).path))) < 0)) then (some (.ret (x4_1,12))) else (bif inR (qJ (sub a0 0 x4_1) (qd ((gt a0 x4_1).path))) a0.length then (bif (!decide (((gt a0 (qJ (sub a0 0 x4_1) (qd ((gt a0 x4_1).path)))).kind) = 3)) then (some (.ret (x4_1,13))) else (some (.nxt (IntKind.wrap .i64 (x4_1 + 1))))) else none)) else none) else none)) else none) else none)) else none) else none) else none) else none)) else none) else none)) else none)) else (some (.brk ()))
def vP.sh (k : Nat) (a0 : List Rec) : Option (Int × Int):=
  (qt (vP.b1 a0) k 0).bind fun z=>match z with | .inl t=>some t | .inr _=>some (0,0)
theorem vP.eq (a0 : List Rec) (h0 : a0.length≤1048576) (h1 : ∀ x ∈ a0,x.path.length≤1048576) : ∃ k,vP.sh k a0 = some ((qn a0).1,(qn a0).2):=by
 refine ⟨a0.length + 1,?_⟩
 unfold vP.sh
 have hb : ∀ i : Nat,i < a0.length→vP.b1 a0 i = some (sc (if jk a0 i = 0 then none else some ((i : Int),jk a0 i) : Option (Int × Int)) ((i : Int) + 1)):=by
  intro i hi
  have hp:=h1 _ (getD_mem hi)
  have hp2 : (a0.getD i default).path.length≤4611686018427387904:=by omega
  simp only [vP.b1,y6,hi,decide_true,cond_true,qT hi,YZ,vX hi (by omega),Bool.or_true,hp,hp2]
  have e16 : decide ((i : Int) = 16) = decide (i = 16):=by rw [decide_eq_decide]; omega
  rw [e16]
  unfold jk
  obtain ⟨r,hr⟩ : ∃ r,a0.getD i default = r:=⟨_,rfl⟩
  simp only [hr] at hp hp2 ⊢
  by_cases h16 : i = 16
  ·subst h16; simp
  ·simp only [h16,decide_false,cond_false,if_false]
   by_cases hf : qx r = 0
   ·simp only [hf,decide_true,Bool.not_true,cond_false,ne_eq,not_true_eq_false,if_false]
    by_cases hz : i = 0
    ·subst hz
     simp only [Int.natCast_zero,Int.lt_irrefl,decide_false,Bool.not_false,Bool.true_or,cond_true,Bool.false_and,cond_false,Nat.lt_irrefl,false_and,if_false]
     by_cases hpp : qd r.path = []
     ·simp [hpp]
     ·simp only [hpp,decide_false,cond_false,if_false]
      have hs : sub a0 0 ((0 : Nat) : Int) = a0.take 0:=rfl
      simp only [Int.natCast_zero] at hs
      rw [Vf (l:=0) (h:=0) (n:=(a0.length : Int)) (by omega) (by omega) (by omega)]
      simp only [hs]
      simp [qJ,jg]
    ·have hi1 : i - 1 < a0.length:=by omega
     have hw : IntKind.wrap .i64 ((i : Int) - 1) = ((i - 1 : Nat) : Int):=by rw [wrap_small (by omega) (by omega)]; omega
     have hpos : (0 : Int) < (i : Int):=by omega
     have hpos' : 0 < i:=by omega
     have hp3:=h1 _ (getD_mem hi1)
     simp only [hw,YZ,qT hi1,hpos,hpos',hp3,decide_true,Bool.not_true,Bool.false_or,Bool.or_true,cond_true,Bool.true_and,true_and]
     obtain ⟨q,hq0⟩ : ∃ q,a0.getD (i - 1) default = q:=⟨_,rfl⟩
     simp only [hq0]
     by_cases hq : r.path = q.path
     ·simp [hq]
     ·simp only [hq,decide_false,cond_false,if_false]
      cases hL : vy (cut 47 q.path) (cut 47 r.path) with
      | false=>simp
      | true=>
       simp only [Bool.not_true,cond_false,Bool.true_eq_false,if_false]
       by_cases hpp : qd r.path = []
       ·simp [hpp]
       ·simp only [hpp,decide_false,cond_false,if_false]
        have hs : sub a0 0 (i : Int) = a0.take i:=by simp [sub]
        have hl : (a0.take i).length≤1048576:=by simp; omega
        rw [Vf (l:=0) (h:=(i : Int)) (n:=(a0.length : Int)) (by omega) (by omega) (by omega)]
        simp only [hs,cond_true,hl,decide_true]
        by_cases hk : qJ (a0.take i) (qd r.path) < 0
        ·simp [hk]
        ·simp only [hk,decide_false,cond_false,if_false,findR_take (Nat.le_of_lt hi) hk,cond_true]
         by_cases hd : (gt a0 (qJ (a0.take i) (qd r.path))).kind = 3
         ·simp [hd]
         ·simp [hd]
   ·simp [hf]
 have hn : vP.b1 a0 a0.length = some (.brk ()):=by simp [vP.b1]
 rw [jx a0.length _ hb hn _ (by omega)]
 unfold qn
 cases (List.range a0.length).findSome? _ <;> rfl
theorem len4096 (l : List Rec) : decide ((4096 : Int) < (l.length : Int)) = decide (4096 < l.length):=by rw [decide_eq_decide]; omega
def j7.sh (a0 : List Rec) : Option (Bool):=
 bif decide (a0.length≤1048576) then (bif decide (∀ x ∈ a0,x.path.length≤1048576) then (some (decide (((qn a0).2) = 0))) else none) else none
theorem j7.eq (a0 : List Rec) (h0 : a0.length≤1048576) (h1 : ∀ x ∈ a0,x.path.length≤1048576) : j7.sh a0 = some (decide ((qn a0).2 = 0)):=by
 simp only [j7.sh,h0,decide_true,cond_true,decide_eq_true h1]
def faultAt (l : List Rec) (i : Int) : Int:=
 if 16≤i then 6 else if qx (gt l i) ≠ 0 then qx (gt l i) else if 0 < i∧(gt l (i - 1)).path = (gt l i).path then 18
 else if 0 < i∧vO (gt l (i - 1)).path (gt l i).path = false then 11 else if qd (gt l i).path = [] then 0
 else if qJ (l.take i.toNat) (qd (gt l i).path) < 0 then 12 else if (gt l (qJ (l.take i.toNat) (qd (gt l i).path))).kind ≠ 3 then 13 else 0
def qB.sh (a0 : List Rec) (a1 : Int) : Option (Int):=
  bif inR a1 a0.length then (bif decide (((gt a0 a1).path).length≤1048576) then ((bif (!decide ((qd ((gt a0 a1).path)) = ([] : List UInt8))) then (bif inS 0 a1 (a0.length : Int) then (bif decide ((sub a0 0 a1).length≤1048576) then (some (.inr (qJ (sub a0 0 a1) (qd ((gt a0 a1).path))))) else none) else none) else (some (.inr 0)) : Option ((Int) ⊕ (Int))).bind fun z=>match z with | .inl t=>some t | .inr x6_19=>bif (!(decide (0 < a1)) || (inR (if ((IntKind.wrap .i64 (a1 - 1)) < 0 : Prop) then 0 else (IntKind.wrap .i64 (a1 - 1))) a0.length)) then (bif (!(decide (0 < a1)) || (inR (if ((IntKind.wrap .i64 (a1 - 1)) < 0 : Prop) then 0 else (IntKind.wrap .i64 (a1 - 1))) a0.length)) then (bif decide (((gt a0 a1).path).length≤1048576) then (bif (!(!decide ((qd ((gt a0 a1).path)) = ([] : List UInt8))) || (inR (if (x6_19 < 0 : Prop) then 0 else x6_19) a0.length)) then (bif decide (([.inl (!(decide (qx (gt a0 a1) = 0))),.inr (qx (gt a0 a1)),.inl ((decide (0 < a1)) && (decide (((gt a0 (if ((IntKind.wrap .i64 (a1 - 1)) < 0 : Prop) then 0 else (IntKind.wrap .i64 (a1 - 1)))).path) = ((gt a0 a1).path)))),.inr 18,.inl ((decide (0 < a1)) && (!(vO ((gt a0 (if ((IntKind.wrap .i64 (a1 - 1)) < 0 : Prop) then 0 else (IntKind.wrap .i64 (a1 - 1)))).path) ((gt a0 a1).path)))),.inr 11,.inl (decide (x6_19 < 0)),.inr 12,.inl ((!decide ((qd ((gt a0 a1).path)) = ([] : List UInt8))) && (!decide (((gt a0 (if (x6_19 < 0 : Prop) then 0 else x6_19)).kind) = 3))),.inr 13] : List (Bool ⊕ Int)).length≤4611686018427387904) then (bif decide (([.inl (decide (16≤a1)),.inr 6,.inl true,.inr (vY ([.inl (!(decide (qx (gt a0 a1) = 0))),.inr (qx (gt a0 a1)),.inl ((decide (0 < a1)) && (decide (((gt a0 (if ((IntKind.wrap .i64 (a1 - 1)) < 0 : Prop) then 0 else (IntKind.wrap .i64 (a1 - 1)))).path) = ((gt a0 a1).path)))),.inr 18,.inl ((decide (0 < a1)) && (!(vO ((gt a0 (if ((IntKind.wrap .i64 (a1 - 1)) < 0 : Prop) then 0 else (IntKind.wrap .i64 (a1 - 1)))).path) ((gt a0 a1).path)))),.inr 11,.inl (decide (x6_19 < 0)),.inr 12,.inl ((!decide ((qd ((gt a0 a1).path)) = ([] : List UInt8))) && (!decide (((gt a0 (if (x6_19 < 0 : Prop) then 0 else x6_19)).kind) = 3))),.inr 13] : List (Bool ⊕ Int)))] : List (Bool ⊕ Int)).length≤4611686018427387904) then (some (vY ([.inl (decide (16≤a1)),.inr 6,.inl true,.inr (vY ([.inl (!(decide (qx (gt a0 a1) = 0))),.inr (qx (gt a0 a1)),.inl ((decide (0 < a1)) && (decide (((gt a0 (if ((IntKind.wrap .i64 (a1 - 1)) < 0 : Prop) then 0 else (IntKind.wrap .i64 (a1 - 1)))).path) = ((gt a0 a1).path)))),.inr 18,.inl ((decide (0 < a1)) && (!(vO ((gt a0 (if ((IntKind.wrap .i64 (a1 - 1)) < 0 : Prop) then 0 else (IntKind.wrap .i64 (a1 - 1)))).path) ((gt a0 a1).path)))),.inr 11,.inl (decide (x6_19 < 0)),.inr 12,.inl ((!decide ((qd ((gt a0 a1).path)) = ([] : List UInt8))) && (!decide (((gt a0 (if (x6_19 < 0 : Prop) then 0 else x6_19)).kind) = 3))),.inr 13] : List (Bool ⊕ Int)))] : List (Bool ⊕ Int)))) else none) else none) else none) else none) else none) else none) else none) else none
theorem JW (b : Bool) (n : Int) (l : List (Bool ⊕ Int)) : vY (.inl b :: .inr n :: l) = if b then n else vY l:=rfl
theorem qB.eq (a0 : List Rec) (a1 : Int) (h0 : a0.length≤1048576) (h1 : ∀ x ∈ a0,x.path.length≤1048576) (h2 : inR a1 a0.length = true) : qB.sh a0 a1 = some (faultAt a0 a1):=by
 obtain ⟨i,rfl⟩ : ∃ i : Nat,a1 = i:=⟨a1.toNat,by have:=Qv h2; omega⟩
 have hi : i < a0.length:=by have:=j9 h2; omega
 have hp:=h1 _ (getD_mem hi)
 obtain ⟨r,hr⟩ : ∃ r,a0.getD i default = r:=⟨_,rfl⟩
 have hs : sub a0 0 (i : Int) = a0.take i:=by simp [sub]
 have hl : (a0.take i).length≤1048576:=by simp; omega
 have hm : (if (IntKind.wrap .i64 ((i : Int) - 1) < 0 : Prop) then (0 : Int) else IntKind.wrap .i64 ((i : Int) - 1)) = ((i - 1 : Nat) : Int):=by
  rw [wrap_small (by omega) (by omega)]; split <;> omega
 have hi1 : i - 1 < a0.length:=by omega
 obtain ⟨q,hq⟩ : ∃ q,a0.getD (i - 1) default = q:=⟨_,rfl⟩
 have hq2 : ∀ _ : 0 < i,gt a0 ((i : Int) - 1) = q:=fun h=>by
  have : ((i : Int) - 1) = ((i - 1 : Nat) : Int):=by omega
  rw [this,YZ,hq]
 rw [hr] at hp
 have e16 : decide ((16 : Int)≤(i : Int)) = decide (16≤i):=by rw [decide_eq_decide]; omega
 have epos : decide ((0 : Int) < (i : Int)) = decide (0 < i):=by rw [decide_eq_decide]; omega
 have e16' : ((16 : Int)≤(i : Int)) = (16≤i):=propext (by omega)
 have epos' : ((0 : Int) < (i : Int)) = (0 < i):=propext (by omega)
 unfold qB.sh faultAt
 simp only [qT hi,YZ,hr,hp,hs,hl,hm,hq,qT hi1,e16,epos,decide_true,cond_true,Bool.or_true,Int.toNat_natCast,Vf (l:=0) (h:=(i : Int)) (n:=(a0.length : Int)) (by omega) (by omega) (by omega),JW,List.length_cons,List.length_nil]
 simp only [e16',epos']
 by_cases hpp : qd r.path = []
 ·have h00 : inR (if (0 : Int) < 0 then 0 else 0) a0.length = true:=Vl (by omega) (by simp; omega)
  by_cases c0 : 0 < i
  ·simp only [hq2 c0]
   by_cases c16 : 16≤i <;> by_cases cf : qx r = 0 <;> by_cases cq : q.path = r.path <;> cases cl : vO q.path r.path <;> simp [hpp,c16,cf,cq,cl,c0,vY]
  ·by_cases c16 : 16≤i <;> by_cases cf : qx r = 0 <;> simp [hpp,c16,cf,c0,vY]
 ·by_cases ck : qJ (a0.take i) (qd r.path) < 0
  ·have h00 : inR 0 a0.length = true:=Vl (by omega) (by omega)
   by_cases c0 : 0 < i
   ·simp only [hq2 c0]
    by_cases c16 : 16≤i <;> by_cases cf : qx r = 0 <;> by_cases cq : q.path = r.path <;> cases cl : vO q.path r.path <;> simp [hpp,c16,cf,cq,cl,c0,ck,h00]
   ·by_cases c16 : 16≤i <;> by_cases cf : qx r = 0 <;> simp [hpp,c16,cf,c0,ck,h00]
  ·have hk:=findR_take (Nat.le_of_lt hi) ck
   by_cases cd : (gt a0 (qJ (a0.take i) (qd r.path))).kind = 3
   ·by_cases c0 : 0 < i
    ·simp only [hq2 c0]
     by_cases c16 : 16≤i <;> by_cases cf : qx r = 0 <;> by_cases cq : q.path = r.path <;> cases cl : vO q.path r.path <;> simp [hpp,c16,cf,cq,cl,c0,ck,hk,cd,vY]
    ·by_cases c16 : 16≤i <;> by_cases cf : qx r = 0 <;> simp [hpp,c16,cf,c0,ck,hk,cd,vY]
   ·by_cases c0 : 0 < i
    ·simp only [hq2 c0]
     by_cases c16 : 16≤i <;> by_cases cf : qx r = 0 <;> by_cases cq : q.path = r.path <;> cases cl : vO q.path r.path <;> simp [hpp,c16,cf,cq,cl,c0,ck,hk,cd,vY]
    ·by_cases c16 : 16≤i <;> by_cases cf : qx r = 0 <;> simp [hpp,c16,cf,c0,ck,hk,cd,vY]
theorem vV {r : Rec} (h : qx r = 0) : qC r.path = true:=by
 unfold qx at h
 split at h
 ·cases h
 ·split at h
  ·cases h
  ·rename_i h2; simpa using h2
theorem XU {l : List Rec} {i : Nat} (h : jk l i = 0) : qx (l.getD i default) = 0:=by
 unfold jk at h
 split at h
 ·cases h
 ·split at h
  ·rename_i h1; exact absurd h h1
  ·rename_i h1; simpa using h1
theorem faultAt_code (l : List Rec) (i : Nat) (hp : ∀ j,j < i→jk l j = 0) : faultAt l (i : Int) = jk l i:=by
 have h16 : ¬ 16 < i:=fun h=>by have:=hp 16 h; simp [jk] at this
 unfold faultAt jk
 have e : ((16 : Int)≤(i : Int)) = (i = 16):=propext (by omega)
 have epos : ((0 : Int) < (i : Int)) = (0 < i):=propext (by omega)
 simp only [e,epos,YZ,Int.toNat_natCast]
 by_cases c16 : i = 16
 ·simp [c16]
 ·simp only [c16,if_false]
  obtain ⟨r,hr⟩ : ∃ r,l.getD i default = r:=⟨_,rfl⟩
  simp only [hr]
  by_cases cf : qx r = 0
  ·simp only [cf,ne_eq,not_true_eq_false,if_false]
   by_cases c0 : 0 < i
   ·have hg : gt l ((i : Int) - 1) = l.getD (i - 1) default:=by
     have : ((i : Int) - 1) = ((i - 1 : Nat) : Int):=by omega
     rw [this,YZ]
    obtain ⟨q,hq⟩ : ∃ q,l.getD (i - 1) default = q:=⟨_,rfl⟩
    have hqok : qC q.path = true:=by rw [← hq]; exact vV (XU (hp (i - 1) (by omega)))
    have hrok:=vV cf
    have e1 : vO q.path r.path = vy (cut 47 q.path) (cut 47 r.path):=by simp [vO,hqok,hrok]
    have e2 : (q.path = r.path) = (r.path = q.path):=propext ⟨Eq.symm,Eq.symm⟩
    simp only [hg,hq,e1,e2,c0,true_and]
   ·simp only [c0,false_and,if_false]
  ·simp only [cf,ne_eq,not_false_eq_true,if_true]
def yM.b1 (a0 : List Rec) : Int→Option (Step (Int × Int) (Int) (Unit)):=
 fun x8_1=>bif (decide (x8_1 < (a0.length : Int))) then (bif decide (a0.length≤1048576) then (bif decide (∀ x ∈ a0,x.path.length≤1048576) then (bif decide (inR x8_1 a0.length = true) then (bif (!decide ((faultAt a0 x8_1) = 0)) then (some (.ret (x8_1,(faultAt a0 x8_1)))) else (some (.nxt (IntKind.wrap .i64 (x8_1 + 1))))) else none) else none) else none) else (some (.brk ()))
def yM.sh (k : Nat) (a0 : List Rec) : Option (Int × Int):=
  (qt (yM.b1 a0) k 0).bind fun z=>match z with | .inl t=>some t | .inr _=>some (0,0)
theorem yM.eq (a0 : List Rec) (h0 : a0.length≤1048576) (h1 : ∀ x ∈ a0,x.path.length≤1048576) : ∃ k,yM.sh k a0 = some ((qn a0).1,(qn a0).2):=by
 refine ⟨a0.length + 1,?_⟩
 unfold yM.sh
 have hb : ∀ i : Nat,i < a0.length→yM.b1 a0 i = some (sc (if faultAt a0 i = 0 then none else some ((i : Int),faultAt a0 i) : Option (Int × Int)) ((i : Int) + 1)):=by
  intro i hi
  simp only [yM.b1,y6,hi,decide_true,cond_true,qT hi,h0,decide_eq_true h1,vX hi (by omega)]
  by_cases hf : faultAt a0 i = 0 <;> simp [hf]
 have hn : yM.b1 a0 a0.length = some (.brk ()):=by simp [yM.b1]
 rw [jx a0.length _ hb hn _ (by omega)]
 have hag:=find_agree_lt (f:=fun i=>if jk a0 i = 0 then none else some ((i : Int),jk a0 i)) (g:=fun i=>if faultAt a0 i = 0 then none else some ((i : Int),faultAt a0 i)) a0.length a0.length 0 (by omega) (fun j hj=>by omega) (fun i _ hp=>by
  have : faultAt a0 i = jk a0 i:=faultAt_code a0 i fun j hj=>by
   have:=hp j hj
   by_cases h : jk a0 j = 0
   ·exact h
   ·simp [h] at this
  simp only [this])
 rw [List.range_eq_range',hag,← List.range_eq_range']
 unfold qn
 cases (List.range a0.length).findSome? _ <;> rfl
def yY.sh (a0 : List Rec) : Option (Int × Int):=
 bif (decide (4096 < a0.length)) then (some (0,2)) else (bif decide (a0.length≤1048576) then (bif decide (∀ x ∈ a0,x.path.length≤1048576) then (some ((qn a0).1,(qn a0).2)) else none) else none)
theorem yY.eq (a0 : List Rec) (h0 : a0.length≤1048576) (h1 : ∀ x ∈ a0,x.path.length≤1048576) : yY.sh a0 = some ((vf a0).1,(vf a0).2):=by
 unfold yY.sh vf
 by_cases h : 4096 < a0.length
 ·simp [h]
 ·simp only [h,h0,decide_false,decide_true,cond_false,cond_true,if_false,decide_eq_true h1]
def jm.sh (a0 : List Rec) : Option (Bool):=
 bif decide (a0.length≤1048576) then (bif decide (∀ x ∈ a0,x.path.length≤1048576) then (some (decide (((vf a0).2) = 0))) else none) else none
theorem jm.eq (a0 : List Rec) (h0 : a0.length≤1048576) (h1 : ∀ x ∈ a0,x.path.length≤1048576) : jm.sh a0 = some (decide ((vf a0).2 = 0)):=by
 simp only [jm.sh,h0,decide_true,cond_true,decide_eq_true h1]
theorem findR_in {l : List Rec} {p : List UInt8} (h : ¬ qJ l p < 0) : inR (qJ l p) l.length = true:=(findI_get _ l (by unfold qJ at h; omega)).1
def qU (l : List Nd) (p : List UInt8) : Int:=jg (fun r=>decide (r.path = p)) l
def jb.b1 (a0 : List Nd) (a1 : List UInt8) : Int→Option (Step (Int) (Int) (Unit)):=
 fun x5_1=>bif (decide (x5_1 < (a0.length : Int))) then (bif inR x5_1 a0.length then (bif (decide (((gt a0 x5_1).path) = a1)) then (some (.ret x5_1)) else (some (.nxt (IntKind.wrap .i64 (x5_1 + 1))))) else none) else (some (.brk ()))
def jb.sh (k : Nat) (a0 : List Nd) (a1 : List UInt8) : Option (Int):=
  (qt (jb.b1 a0 a1) k 0).bind fun z=>match z with | .inl t=>some t | .inr _=>some (-1)
theorem jb.eq (a0 : List Nd) (a1 : List UInt8) (h : a0.length≤1048576) : ∃ k,jb.sh k a0 a1 = some (qU a0 a1):=by
 refine ⟨a0.length + 1,?_⟩
 unfold jb.sh qU
 rw [findI_run (fun r : Nd=>decide (r.path = a1)) a0 (jb.b1 a0 a1) (fun i hi=>by
  simp only [jb.b1,y6,hi,decide_true,cond_true,qT hi,yl,vX hi (by omega)]
  rfl) (by simp [jb.b1])]
 by_cases hm : jg (fun r : Nd=>decide (r.path = a1)) a0 = -1
 ·simp [hm]
 ·simp [hm]
def Yp.sh (a0 : Nd) (a1 : List UInt8) : Option (Bool):=
 some (decide (a0.path = a1))
theorem Yp.eq (a0 : Nd) (a1 : List UInt8) : Yp.sh a0 a1 = some (decide (a0.path = a1)):=rfl
def vb.b1 (a0 : List Nd) (a1 : Nd→Option Bool) : Int→Option (Step (Int) (Int) (Unit)):=
 fun x8_1=>bif (decide (x8_1 < (a0.length : Int))) then (bif inR x8_1 a0.length then ((a1 (gt a0 x8_1)).bind fun z22=>bif z22 then (some (.ret x8_1)) else (some (.nxt (IntKind.wrap .i64 (x8_1 + 1))))) else none) else (some (.brk ()))
def vb.sh (k : Nat) (a0 : List Nd) (a1 : Nd→Option Bool) : Option (Int):=
  (qt (vb.b1 a0 a1) k 0).bind fun z=>match z with | .inl t=>some t | .inr _=>some (-1)
theorem vb.eq (a0 : List Nd) (a1 : Nd→Option Bool) (h : a0.length≤4611686018427387904) {r : Int} (H : YP a1 a0 = some r) : ∃ k,vb.sh k a0 a1 = some r:=by
 refine ⟨a0.length + 1,?_⟩
 have:=J1 a0 a0.length 0 (by omega) r (by simpa using H) (vb.b1 a0 a1) (fun i hi=>by
  simp only [vb.b1,y6,hi,decide_true,cond_true,qT hi,yl,vX hi h]) (by simp [vb.b1]) (a0.length + 1) (by omega)
 simp only [Int.natCast_zero] at this
 unfold vb.sh
 rw [this]
 by_cases hr : r = -1
 ·simp [hr]
 ·simp [hr]
def YN.sh (a0 : List Nd) (a1 : List UInt8) : Option (Int):=
 bif decide (a0.length≤4611686018427387904) then (((YP (fun (x0_ : Nd)=>some (decide (x0_.path = a1))) a0)).bind fun z12=>some z12) else none
theorem YN.eq (a0 : List Nd) (a1 : List UInt8) (h : a0.length≤1048576) : YN.sh a0 a1 = some (qU a0 a1):=by
 have h1 : a0.length≤4611686018427387904:=by omega
 have h2:=Yr (p:=fun (x0_ : Nd)=>some (decide (x0_.path = a1))) (q:=fun r=>decide (r.path = a1)) (l:=a0) (fun _ _=>rfl)
 simp only [YN.sh,h1,decide_true,cond_true,h2,Option.bind_some,qU]
end Go.UL
