import Derived.Test.YtdhmlillkbjjjaaGreatDooryP6
set_option linter.unusedVariables false
set_option linter.unusedSimpArgs false
namespace Go.UL
open Go.RowKit
def yR (l : List Rec) (p : List UInt8) : Int:=yC (fun r=>decide (r.path = p)) l
def yf.b1 (a0 : List Rec) (a1 : List UInt8) : Int→Option (Step (Int) (Int) (Unit)):=
 fun x5_1=>bif (decide (x5_1 < (a0.length : Int))) then (bif inR x5_1 a0.length then (bif (decide (((gt a0 x5_1).path) = a1)) then (some (.ret x5_1)) else (some (.nxt (IntKind.wrap .i64 (x5_1 + 1))))) else none) else (some (.brk ()))
def yf.sh (k : Nat) (a0 : List Rec) (a1 : List UInt8) : Option (Int):=
  (ql (yf.b1 a0 a1) k 0).bind fun z=>match z with | .inl t=>some t | .inr _=>some (-1)
theorem yf.eq (a0 : List Rec) (a1 : List UInt8) (h : a0.length≤1048576) : ∃ k,yf.sh k a0 a1 = some (yR a0 a1):=by
 refine ⟨a0.length + 1,?_⟩
 unfold yf.sh yR
 rw [JP (fun r : Rec=>decide (r.path = a1)) a0 (yf.b1 a0 a1) (fun i hi=>by
  simp only [yf.b1,ye,hi,decide_true,cond_true,qW hi,vr,vj hi (by omega)]
  rfl) (by simp [yf.b1])]
 by_cases hm : yC (fun r : Rec=>decide (r.path = a1)) a0 = -1
 ·simp [hm]
 ·simp [hm]
def jC.sh (a0 : Rec) (a1 : List UInt8) : Option (Bool):=
 some (decide (a0.path = a1))
theorem jC.eq (a0 : Rec) (a1 : List UInt8) : jC.sh a0 a1 = some (decide (a0.path = a1)):=rfl
def qO.b1 (a0 : List Rec) (a1 : Rec→Option Bool) : Int→Option (Step (Int) (Int) (Unit)):=
 fun x8_1=>bif (decide (x8_1 < (a0.length : Int))) then (bif inR x8_1 a0.length then ((a1 (gt a0 x8_1)).bind fun z22=>bif z22 then (some (.ret x8_1)) else (some (.nxt (IntKind.wrap .i64 (x8_1 + 1))))) else none) else (some (.brk ()))
def qO.sh (k : Nat) (a0 : List Rec) (a1 : Rec→Option Bool) : Option (Int):=
  (ql (qO.b1 a0 a1) k 0).bind fun z=>match z with | .inl t=>some t | .inr _=>some (-1)
theorem qO.eq (a0 : List Rec) (a1 : Rec→Option Bool) (h : a0.length≤4611686018427387904) {r : Int} (H : QD a1 a0 = some r) : ∃ k,qO.sh k a0 a1 = some r:=by
 refine ⟨a0.length + 1,?_⟩
 have:=Vq a0 a0.length 0 (by omega) r (by simpa using H) (qO.b1 a0 a1) (fun i hi=>by
  simp only [qO.b1,ye,hi,decide_true,cond_true,qW hi,vr,vj hi h]) (by simp [qO.b1]) (a0.length + 1) (by omega)
 simp only [Int.natCast_zero] at this
 unfold qO.sh
 rw [this]
 by_cases hr : r = -1
 ·simp [hr]
 ·simp [hr]
def jN.sh (a0 : List Rec) (a1 : List UInt8) : Option (Int):=
 bif decide (a0.length≤4611686018427387904) then (((QD (fun (x0_ : Rec)=>some (decide (x0_.path = a1))) a0)).bind fun z12=>some z12) else none
theorem jN.eq (a0 : List Rec) (a1 : List UInt8) (h : a0.length≤1048576) : jN.sh a0 a1 = some (yR a0 a1):=by
 have h1 : a0.length≤4611686018427387904:=by omega
 have h2:=Vs (p:=fun (x0_ : Rec)=>some (decide (x0_.path = a1))) (q:=fun r=>decide (r.path = a1)) (l:=a0) (fun _ _=>rfl)
 simp only [jN.sh,h1,decide_true,cond_true,h2,Option.bind_some,yR]
def vf.b1 (a0 : List Rec) (a1 : List Rec) : Int→Option (Step (Bool) (Int) (Unit)):=
 fun x5_2=>bif (decide (x5_2 < (a0.length : Int))) then (bif inR x5_2 a0.length then (bif inR x5_2 a1.length then (bif (!(decide ((gt a0 x5_2) = (gt a1 x5_2)))) then (some (.ret false)) else (some (.nxt (IntKind.wrap .i64 (x5_2 + 1))))) else none) else none) else (some (.brk ()))
def vf.sh (k : Nat) (a0 : List Rec) (a1 : List Rec) : Option (Bool):=
  bif (!decide ((a0.length : Int) = (a1.length : Int))) then (some false) else ((ql (vf.b1 a0 a1) k 0).bind fun z=>match z with | .inl t=>some t | .inr _=>some true)
theorem eq_run {α : Type} [DecidableEq α] [Inhabited α] (a b : List α) (f : Int→Option (Step Bool Int Unit)) (hl : a.length = b.length)
  (hb : ∀ i : Nat,i < a.length→f i = some (if a.getD i default = b.getD i default then .nxt ((i : Int) + 1) else .ret false)) (hn : f a.length = some (.brk ())) :
  ql f (a.length + 1) 0 = some (if a = b then .inr () else .inl false):=by
 have hb' : ∀ i : Nat,i < a.length→f i = some (sc (if !decide (a.getD i default = b.getD i default) then some false else none : Option Bool) ((i : Int) + 1)):=by
  intro i hi
  rw [hb i hi]
  by_cases he : a.getD i default = b.getD i default
  ·simp only [he,if_true,decide_true,Bool.not_true,Bool.false_eq_true,if_false,VR]
  ·simp only [he,if_false,decide_false,Bool.not_false,if_true,V7]
 rw [yO a.length _ hb' hn (a.length + 1) (by omega),GG a b hl]
 by_cases he : a = b <;> simp [he]
theorem vf.eq (a0 a1 : List Rec) (h : a0.length≤4611686018427387904) : ∃ k,vf.sh k a0 a1 = some (decide (a0 = a1)):=by
 refine ⟨a0.length + 1,?_⟩
 unfold vf.sh
 by_cases hl : a0.length = a1.length
 ·rw [eq_run a0 a1 (vf.b1 a0 a1) hl (fun i hi=>by
   have hi2 : i < a1.length:=by omega
   simp only [vf.b1,ye,hi,decide_true,cond_true,qW hi,qW hi2,vr,vj hi h]
   by_cases he : a0.getD i default = a1.getD i default
   ·simp only [he,decide_true,Bool.not_true,cond_false,if_true]
   ·simp only [he,decide_false,Bool.not_false,cond_true,if_false]) (by simp [vf.b1])]
  have : (a0.length : Int) = (a1.length : Int):=by omega
  by_cases he : a0 = a1 <;> simp [this,he]
 ·have h1 : ¬ (a0.length : Int) = (a1.length : Int):=by omega
  have h2 : a0 ≠ a1:=fun e=>hl (by rw [e])
  simp [h1,h2]
def Yi (l : List Rec) (i : Nat) : Int:=
 if i = 16 then 6 else if qR (l.getD i default) ≠ 0 then qR (l.getD i default)
 else if 0 < i∧(l.getD i default).path = (l.getD (i - 1) default).path then 18
 else if 0 < i∧vC (cut 47 (l.getD (i - 1) default).path) (cut 47 (l.getD i default).path) = false then 11
 else if qe (l.getD i default).path = [] then 0
 else if yR (l.take i) (qe (l.getD i default).path) < 0 then 12
 else if (gt l (yR (l.take i) (qe (l.getD i default).path))).kind ≠ 3 then 13 else 0
def jU (l : List Rec) : Int × Int:=match (List.range l.length).findSome? (fun i=>if Yi l i = 0 then none else some ((i : Int),Yi l i)) with
 | some x=>x
 | none=>(0,0)
theorem JW {α : Type} [Inhabited α] (l : List α) (i : Nat) : gt l (i : Int) = l.getD i default:=rfl
theorem jW {r : Rec} (h : qR r = 0) : qI r.path = true:=by
 unfold qR at h
 split at h
 ·cases h
 ·split at h
  ·cases h
  ·rename_i h2; simpa using h2
def QF (r : Nd) (left : Int) : Int:=if left - (r.path.length : Int) < 0 then -1 else if left - (r.path.length : Int) - (r.body.length : Int) < 0 then -1 else left - (r.path.length : Int) - (r.body.length : Int)
def jn.sh (a0 : Nd) (a1 : Int) : Option (Int):=
 bif (decide ((IntKind.wrap .i64 (a1 - (a0.path.length : Int))) < 0)) then (some (-1)) else (bif (decide ((IntKind.wrap .i64 ((IntKind.wrap .i64 (a1 - (a0.path.length : Int))) - (a0.body.length : Int))) < 0)) then (some (-1)) else (some (IntKind.wrap .i64 ((IntKind.wrap .i64 (a1 - (a0.path.length : Int))) - (a0.body.length : Int)))))
theorem jn.eq (a0 : Nd) (a1 : Int) (h0 : 0≤a1) (h1 : a1≤1048576) (h2 : a0.path.length≤9223372036854775807) (h3 : a0.body.length≤9223372036854775807) : jn.sh a0 a1 = some (QF a0 a1):=by
 unfold jn.sh QF
 rw [wrap_small (n:=a1 - (a0.path.length : Int)) (by omega) (by omega)]
 by_cases h : a1 - (a0.path.length : Int) < 0
 ·simp [h]
 ·rw [wrap_small (n:=a1 - (a0.path.length : Int) - (a0.body.length : Int)) (by omega) (by omega)]
  by_cases h' : a1 - (a0.path.length : Int) - (a0.body.length : Int) < 0
  ·simp [h,h']
  ·simp [h,h']
def yK.sh (a0 : Nd) : Option (Nd):=
 some a0
theorem yK.eq (a0 : Nd) : yK.sh a0 = some a0:=rfl
def QY : List Nd→Int→Int
 | [],a=>a
 | x :: l,a=>if QF x a < 0 then -1 else QY l (QF x a)
def yX (l : List Nd) (left : Int) : Int:=if left - (l.length : Int) < 0 then -1 else QY l (left - (l.length : Int))
theorem XF {r : Nd} {a : Int} (h : 0≤QF r a) : QF r a≤a∧(r.path.length : Int)≤a∧(r.body.length : Int)≤a:=by
 unfold QF at *
 split at h
 ·omega
 ·split at h
  ·omega
  ·rename_i h1 h2; simp only [h1,h2,if_false]; omega
theorem XK : ∀ {l : List Nd} {a : Int},0≤QY l a→0≤a→QY l a≤a∧∀ x ∈ l,(x.path.length : Int)≤a∧(x.body.length : Int)≤a:=by
 intro l
 induction l with
 | nil=>intro a _ _; exact ⟨Int.le_refl _,by simp⟩
 | cons x l ih=>
  intro a h h0
  simp only [QY] at h ⊢
  by_cases hx : QF x a < 0
  ·simp [hx] at h
  ·simp only [hx,if_false] at h ⊢
   have h1:=XF (r:=x) (a:=a) (by omega)
   have h2:=ih h (by omega)
   refine ⟨by omega,?_⟩
   intro y hy
   rcases List.mem_cons.1 hy with rfl | hy
   ·omega
   ·have:=h2.2 y hy; omega
theorem szNdS_le {l : List Nd} {a : Int} (h : ¬ yX l a < 0) (h0 : 0≤a) : 0≤yX l a∧yX l a≤a∧(l.length : Int)≤a∧∀ x ∈ l,(x.path.length : Int)≤a∧(x.body.length : Int)≤a:=by
 unfold yX at *
 by_cases hl : a - (l.length : Int) < 0
 ·simp [hl] at h
 ·simp only [hl,if_false] at h ⊢
  have:=XK (l:=l) (a:=a - (l.length : Int)) (by omega) (by omega)
  refine ⟨by omega,by omega,by omega,fun x hx=>?_⟩
  have:=this.2 x hx; omega
def vB.b1 (a0 : List Nd) : Int × Int→Option (Step (Int) (Int × Int) (Int)):=
 fun q=>match q with
 | (x1_2,x5_3)=>bif (decide (x5_3 < (a0.length : Int))) then (bif inR x5_3 a0.length then (bif decide ((0 : Int)≤x1_2) then (bif decide ((x1_2 : Int)≤1048576) then (bif decide ((gt a0 x5_3).path.length≤9223372036854775807) then (bif decide ((gt a0 x5_3).body.length≤9223372036854775807) then (bif (decide ((QF (gt a0 x5_3) x1_2) < 0)) then (some (.ret (-1))) else (some (.nxt ((QF (gt a0 x5_3) x1_2),IntKind.wrap .i64 (x5_3 + 1))))) else none) else none) else none) else none) else none) else (some (.brk x1_2))
def vB.sh (k : Nat) (a0 : List Nd) (a1 : Int) : Option (Int):=
  bif (decide ((IntKind.wrap .i64 (a1 - (a0.length : Int))) < 0)) then (some (-1)) else ((ql (vB.b1 a0) k (IntKind.wrap .i64 (a1 - (a0.length : Int)),0)).bind fun z=>match z with | .inl t=>some t | .inr x1_7=>some x1_7)
theorem G9 (l : List Nd) (b : Int × Int → Option (Step Int (Int × Int) Int)) (hb : ∀ (i : Nat) (a : Int), i < l.length → 0 ≤ a → a ≤ 1048576 → b (a, i) = some (if QF (l.getD i default) a < 0 then .ret (-1) else .nxt (QF (l.getD i default) a, (i : Int) + 1))) (hn : ∀ a, b (a, l.length) = some (.brk a)) :
    ∀ (d i : Nat) (a : Int) (k : Nat),i + d = l.length→d < k→0≤a→a≤1048576→∃ z,ql b k (a,i) = some z∧(match z with | .inl t=>some t | .inr x=>some x) = some (QY (l.drop i) a):=by
  intro d
  induction d with
  | zero=>
    intro i a k hi hk _ _
    obtain ⟨k,rfl⟩ : ∃ j,k = j + 1:=⟨k - 1,by omega⟩
    have : i = l.length:=by omega
    subst this
    exact ⟨.inr a,by rw [ql,hn]; rfl,by simp [QY]⟩
  | succ d ih=>
    intro i a k hi hk h0 h1
    obtain ⟨k,rfl⟩ : ∃ j,k = j + 1:=⟨k - 1,by omega⟩
    have hlt : i < l.length:=by omega
    have hg : l.getD i default = l[i]:=by simp [List.getD_eq_getElem?_getD,List.getElem?_eq_getElem hlt]
    rw [List.drop_eq_getElem_cons hlt,ql,hb i a hlt h0 h1,hg]
    by_cases hx : QF l[i] a < 0
    · exact ⟨.inl (-1),by simp [hx],by simp [QY,hx]⟩
    · have hle:=XF (r:=l[i]) (a:=a) (by omega)
      obtain ⟨z,hz,hP⟩:=ih (i + 1) (QF l[i] a) k (by omega) (by omega) (by omega) (by omega)
      rw [Int.natCast_add,Int.natCast_one] at hz
      exact ⟨z,by simp only [hx,if_false,Option.bind_some]; exact hz,by simp only [QY,hx,if_false]; exact hP⟩
theorem vB.eq (a0 : List Nd) (a1 : Int) (h0 : 0≤a1) (h1 : a1≤1048576) (h2 : a0.length≤9223372036854775807) (h3 : ∀ x ∈ a0,YG x) : ∃ k,vB.sh k a0 a1 = some (yX a0 a1):=by
 refine ⟨a0.length + 1,?_⟩
 unfold vB.sh yX
 rw [wrap_small (n:=a1 - (a0.length : Int)) (by omega) (by omega)]
 by_cases hl : a1 - (a0.length : Int) < 0
 ·simp [hl]
 ·simp only [hl,decide_false,cond_false,if_false]
  obtain ⟨z,hz,hP⟩:=G9 a0 (vB.b1 a0) (fun i a hi ha0 ha1=>by
   have hg : a0.getD i default = a0[i]:=by simp [List.getD_eq_getElem?_getD,List.getElem?_eq_getElem hi]
   have ho:=h3 a0[i] (List.getElem_mem hi)
   simp only [vB.b1,ye,hi,decide_true,cond_true,qW hi,vr,hg,ha0,ha1,ho.1,ho.2,vj hi (by omega)]
   by_cases hx : QF a0[i] a < 0 <;> simp [hx]) (fun a=>by simp [vB.b1]) a0.length 0 (a1 - (a0.length : Int)) (a0.length + 1) (by omega) (by omega) (by omega) (by omega)
  simp only [Int.natCast_zero] at hz
  rw [hz]
  simpa using hP
def qV.b1 (a0 : List Nd) : Int × List Nd→Option (Step (List Nd) (Int × List Nd) (List Nd)):=
 fun q=>match q with
 | (x4_8,y9)=>bif (decide (x4_8 < (a0.length : Int))) then (bif inR x4_8 a0.length then (bif inR x4_8 y9.length then (some (.nxt (IntKind.wrap .i64 (x4_8 + 1),j4 y9 x4_8 (gt a0 x4_8)))) else none) else none) else (some (.brk y9))
def qV.sh (k : Nat) (a0 : List Nd) : Option (List Nd):=
  bif decide (a0.length * 48≤281474976710656) then ((ql (qV.b1 a0) k (0,List.replicate a0.length (⟨0,[],[],0⟩ : Nd))).bind fun z=>match z with | .inl t=>some t | .inr y13=>some y13) else none
theorem qV.eq (a0 : List Nd) (h : a0.length≤1048576) : ∃ k,qV.sh k a0 = some a0:=by
 refine ⟨a0.length + 1,?_⟩
 unfold qV.sh
 have h1 : a0.length * 48≤281474976710656:=by omega
 simp only [h1,decide_true,cond_true]
 have:=fill_run (List.replicate a0.length (⟨0,[],[],0⟩ : Nd)) (fun i=>a0.getD i default) (qV.b1 a0) (fun i hi y hy=>by
  have hi' : i < a0.length:=by simpa using hi
  have hy' : y.length = a0.length:=by simpa using hy
  simp only [qV.b1,hy',ye,hi',decide_true,cond_true,qW hi',vr,vj hi' (by omega)]) (fun y hy=>by
  have hy' : y.length = a0.length:=by simpa using hy
  simp [qV.b1])
 simp only [List.length_replicate,map_getD] at this
 rw [this]; rfl
def qC (l : List Nd) (p : List UInt8) : Int:=yC (fun r=>decide (r.path = p)) l
def vD.b1 (a0 : List Nd) (a1 : List UInt8) : Int→Option (Step (Int) (Int) (Unit)):=
 fun x5_1=>bif (decide (x5_1 < (a0.length : Int))) then (bif inR x5_1 a0.length then (bif (decide (((gt a0 x5_1).path) = a1)) then (some (.ret x5_1)) else (some (.nxt (IntKind.wrap .i64 (x5_1 + 1))))) else none) else (some (.brk ()))
def vD.sh (k : Nat) (a0 : List Nd) (a1 : List UInt8) : Option (Int):=
  (ql (vD.b1 a0 a1) k 0).bind fun z=>match z with | .inl t=>some t | .inr _=>some (-1)
theorem vD.eq (a0 : List Nd) (a1 : List UInt8) (h : a0.length≤1048576) : ∃ k,vD.sh k a0 a1 = some (qC a0 a1):=by
 refine ⟨a0.length + 1,?_⟩
 unfold vD.sh qC
 rw [JP (fun r : Nd=>decide (r.path = a1)) a0 (vD.b1 a0 a1) (fun i hi=>by
  simp only [vD.b1,ye,hi,decide_true,cond_true,qW hi,vr,vj hi (by omega)]
  rfl) (by simp [vD.b1])]
 by_cases hm : yC (fun r : Nd=>decide (r.path = a1)) a0 = -1
 ·simp [hm]
 ·simp [hm]
def Qc.sh (a0 : Nd) (a1 : List UInt8) : Option (Bool):=
 some (decide (a0.path = a1))
theorem Qc.eq (a0 : Nd) (a1 : List UInt8) : Qc.sh a0 a1 = some (decide (a0.path = a1)):=rfl
def qN.b1 (a0 : List Nd) (a1 : Nd→Option Bool) : Int→Option (Step (Int) (Int) (Unit)):=
 fun x8_1=>bif (decide (x8_1 < (a0.length : Int))) then (bif inR x8_1 a0.length then ((a1 (gt a0 x8_1)).bind fun z22=>bif z22 then (some (.ret x8_1)) else (some (.nxt (IntKind.wrap .i64 (x8_1 + 1))))) else none) else (some (.brk ()))
def qN.sh (k : Nat) (a0 : List Nd) (a1 : Nd→Option Bool) : Option (Int):=
  (ql (qN.b1 a0 a1) k 0).bind fun z=>match z with | .inl t=>some t | .inr _=>some (-1)
theorem qN.eq (a0 : List Nd) (a1 : Nd→Option Bool) (h : a0.length≤4611686018427387904) {r : Int} (H : QD a1 a0 = some r) : ∃ k,qN.sh k a0 a1 = some r:=by
 refine ⟨a0.length + 1,?_⟩
 have:=Vq a0 a0.length 0 (by omega) r (by simpa using H) (qN.b1 a0 a1) (fun i hi=>by
  simp only [qN.b1,ye,hi,decide_true,cond_true,qW hi,vr,vj hi h]) (by simp [qN.b1]) (a0.length + 1) (by omega)
 simp only [Int.natCast_zero] at this
 unfold qN.sh
 rw [this]
 by_cases hr : r = -1
 ·simp [hr]
 ·simp [hr]
def Qx.sh (a0 : List Nd) (a1 : List UInt8) : Option (Int):=
 bif decide (a0.length≤4611686018427387904) then (((QD (fun (x0_ : Nd)=>some (decide (x0_.path = a1))) a0)).bind fun z12=>some z12) else none
theorem Qx.eq (a0 : List Nd) (a1 : List UInt8) (h : a0.length≤1048576) : Qx.sh a0 a1 = some (qC a0 a1):=by
 have h1 : a0.length≤4611686018427387904:=by omega
 have h2:=Vs (p:=fun (x0_ : Nd)=>some (decide (x0_.path = a1))) (q:=fun r=>decide (r.path = a1)) (l:=a0) (fun _ _=>rfl)
 simp only [Qx.sh,h1,decide_true,cond_true,h2,Option.bind_some,qC]
def vA.b1 (a0 : List Nd) (a1 : List Nd) : Int→Option (Step (Bool) (Int) (Unit)):=
 fun x5_2=>bif (decide (x5_2 < (a0.length : Int))) then (bif inR x5_2 a0.length then (bif inR x5_2 a1.length then (bif (!(decide ((gt a0 x5_2) = (gt a1 x5_2)))) then (some (.ret false)) else (some (.nxt (IntKind.wrap .i64 (x5_2 + 1))))) else none) else none) else (some (.brk ()))
def vA.sh (k : Nat) (a0 : List Nd) (a1 : List Nd) : Option (Bool):=
  bif (!decide ((a0.length : Int) = (a1.length : Int))) then (some false) else ((ql (vA.b1 a0 a1) k 0).bind fun z=>match z with | .inl t=>some t | .inr _=>some true)
theorem vA.eq (a0 a1 : List Nd) (h : a0.length≤4611686018427387904) : ∃ k,vA.sh k a0 a1 = some (decide (a0 = a1)):=by
 refine ⟨a0.length + 1,?_⟩
 unfold vA.sh
 by_cases hl : a0.length = a1.length
 ·rw [eq_run a0 a1 (vA.b1 a0 a1) hl (fun i hi=>by
   have hi2 : i < a1.length:=by omega
   simp only [vA.b1,ye,hi,decide_true,cond_true,qW hi,qW hi2,vr,vj hi h]
   by_cases he : a0.getD i default = a1.getD i default
   ·simp only [he,decide_true,Bool.not_true,cond_false,if_true]
   ·simp only [he,decide_false,Bool.not_false,cond_true,if_false]) (by simp [vA.b1])]
  have : (a0.length : Int) = (a1.length : Int):=by omega
  by_cases he : a0 = a1 <;> simp [this,he]
 ·have h1 : ¬ (a0.length : Int) = (a1.length : Int):=by omega
  have h2 : a0 ≠ a1:=fun e=>hl (by rw [e])
  simp [h1,h2]
def qM (n : Nd) : Rec:=⟨n.kind,n.path,n.body,n.mode,false⟩
def ndOf (r : Rec) : Nd:=⟨r.kind,r.path,r.body,r.mode⟩
def nodeOK (n : Nd) : Bool:=decide (qR (qM n) = 0) && !decide (n.kind = 4)
def yd (t : List Nd) (p : List UInt8) : Bool:=decide (p = []) || (decide (0≤qC t p) && decide ((gt t (qC t p)).kind = 3))
def yo (l : List Nd) (i : Nat) : Bool:=
 nodeOK (l.getD i default) && (decide (i = 0) || vC (cut 47 (l.getD (i - 1) default).path) (cut 47 (l.getD i default).path)) && yd (l.take i) (qe (l.getD i default).path)
def qX (l : List Nd) : Bool:=decide (l.length≤24) && (List.range l.length).all (yo l)
theorem Jd (n : Nat) (bad : Nat→Bool) : (List.range n).findSome? (fun i=>if bad i then some false else none) = if (List.range n).all (fun i=>!bad i) then none else some false:=by
 generalize List.range n = l
 induction l with
 | nil=>rfl
 | cons x l ih=>
  rcases qH (bad x) with hb | hb
  ·simp [hb]
  ·have : List.findSome? (fun i=>if bad i = true then some false else none) (x :: l) = List.findSome? (fun i=>if bad i = true then some false else none) l:=by simp [hb]
   rw [this,ih]
   simp [hb]
theorem yY {n : Nd} (h : nodeOK n = true) : qI n.path = true:=by
 simp only [nodeOK,Bool.and_eq_true,decide_eq_true_eq] at h
 exact jW h.1
theorem gtake {α : Type} [Inhabited α] (l : List α) (i : Nat) (k : Int) (h0 : 0≤k) (h : k < (l.take i).length) : gt (l.take i) k = gt l k:=by
 obtain ⟨n,rfl⟩ : ∃ n : Nat,k = n:=⟨k.toNat,by omega⟩
 have : n < i∧n < l.length:=by simp at h; omega
 simp only [vr,List.getD_eq_getElem?_getD,List.getElem?_take,this.1,if_true]
theorem Yg (l : List Nd) (p : List UInt8) : qC l p < l.length:=G2 _ _
theorem Xb {l : List Nd} {p : List UInt8} {i : Nat} (hi : i≤l.length) (h : ¬ qC (l.take i) p < 0) : inR (qC (l.take i) p) l.length = true:=by
 have h1:=Yg (l.take i) p
 have h2 : (l.take i).length≤i:=by simp; omega
 exact Ym (by omega) (by omega)
theorem Je {l : List Nd} {i : Nat} (h : i < l.length) : l.getD i default ∈ l:=by
 have : l.getD i default = l[i]:=by simp [List.getD_eq_getElem?_getD,List.getElem?_eq_getElem h]
 rw [this]; exact List.getElem_mem h
def yy.sh (a0 : Nd) : Option (Rec):=
 some (⟨a0.kind,a0.path,a0.body,a0.mode,false⟩ : Rec)
theorem yy.eq (a0 : Nd) : yy.sh a0 = some (qM a0):=rfl
def qx.b1 (a0 : List Nd) : Int→Option (Step (Bool) (Int) (Unit)):=
 fun x3_2=>bif (decide (x3_2 < (a0.length : Int))) then (bif inR x3_2 a0.length then (bif (!(!(decide (((gt a0 x3_2).kind) = 4))) || (inR x3_2 a0.length)) then (bif (!((!((decide (((gt a0 x3_2).kind) = 4)) || (!(decide (qR (qM (gt a0 x3_2)) = 0))))) && (decide (0 < x3_2))) || (inR (IntKind.wrap .i64 (x3_2 - 1)) a0.length)) then (bif (!((!((decide (((gt a0 x3_2).kind) = 4)) || (!(decide (qR (qM (gt a0 x3_2)) = 0))))) && (decide (0 < x3_2))) || (inR x3_2 a0.length)) then (bif (!((!((decide (((gt a0 x3_2).kind) = 4)) || (!(decide (qR (qM (gt a0 x3_2)) = 0))))) && (decide (0 < x3_2))) || (decide (((gt a0 (IntKind.wrap .i64 (x3_2 - 1))).path).length≤1048576))) then (bif (!((!((decide (((gt a0 x3_2).kind) = 4)) || (!(decide (qR (qM (gt a0 x3_2)) = 0))))) && (decide (0 < x3_2))) || (decide (((gt a0 x3_2).path).length≤1048576))) then (bif (((decide (((gt a0 x3_2).kind) = 4)) || (!(decide (qR (qM (gt a0 x3_2)) = 0)))) || ((decide (0 < x3_2)) && (!(vC (cut 47 ((gt a0 (IntKind.wrap .i64 (x3_2 - 1))).path)) (cut 47 ((gt a0 x3_2).path)))))) then (some (.ret false)) else (bif inR x3_2 a0.length then (bif decide (((gt a0 x3_2).path).length≤4611686018427387904) then (bif (!decide ((qe ((gt a0 x3_2).path)) = ([] : List UInt8))) then (bif inS 0 x3_2 (a0.length : Int) then (bif decide ((sub a0 0 x3_2).length≤1048576) then (((bif (decide ((qC (sub a0 0 x3_2) (qe ((gt a0 x3_2).path))) < 0)) then some true else (bif inR (qC (sub a0 0 x3_2) (qe ((gt a0 x3_2).path))) a0.length then (some (!decide (((gt a0 (qC (sub a0 0 x3_2) (qe ((gt a0 x3_2).path)))).kind) = 3))) else none))).bind fun z103=>bif z103 then (some (.ret false)) else (some (.nxt (IntKind.wrap .i64 (x3_2 + 1))))) else none) else none) else (some (.nxt (IntKind.wrap .i64 (x3_2 + 1))))) else none) else none)) else none) else none) else none) else none) else none) else none) else (some (.brk ()))
def qx.sh (k : Nat) (a0 : List Nd) : Option (Bool):=
  bif (decide (24 < (a0.length : Int))) then (some false) else ((ql (qx.b1 a0) k 0).bind fun z=>match z with | .inl t=>some t | .inr _=>some true)
theorem qx.eq (a0 : List Nd) (h1 : ∀ x ∈ a0,x.path.length≤1048576) : ∃ k,qx.sh k a0 = some (qX a0):=by
  refine ⟨a0.length + 1,?_⟩
  unfold qx.sh
  by_cases hl : a0.length≤24
  · have hl' : ¬ (24 : Int) < (a0.length : Int):=by omega
    simp only [hl',decide_false,cond_false]
    have hb : ∀ i : Nat,i < a0.length→qx.b1 a0 i = some (sc (if !yo a0 i then some false else none : Option Bool) ((i : Int) + 1)):=by
      intro i hi
      have hp:=h1 _ (Je hi)
      have hp2 : (a0.getD i default).path.length≤4611686018427387904:=by omega
      have hs : sub a0 0 ((i : Nat) : Int) = a0.take i:=by simp [sub]
      have hle : (a0.take i).length≤1048576:=by simp; omega
      simp only [qx.b1,ye,hi,decide_true,cond_true,qW hi,JW,vj hi (by omega),Bool.or_true,hp,hp2,hs,hle,Vc (l:=0) (h:=(i : Int)) (n:=(a0.length : Int)) (by omega) (by omega) (by omega)]
      unfold yo yd nodeOK
      obtain ⟨r,hr⟩ : ∃ r,a0.getD i default = r:=⟨_,rfl⟩
      simp only [hr] at hp hp2 ⊢
      cases c4 : decide (r.kind = 4) with
      | true=>simp
      | false=>
        by_cases cf : qR (qM r) = 0
        · have key : ∀ q : Nd, (bif (decide (0 < (i : Int)) && !vC (cut 47 q.path) (cut 47 r.path)) then some (Step.ret false) else
              bif !decide (qe r.path = []) then
                ((bif decide (qC (a0.take i) (qe r.path) < 0) then some true else bif inR (qC (a0.take i) (qe r.path)) a0.length then some (!decide ((gt a0 (qC (a0.take i) (qe r.path))).kind = 3)) else none).bind fun z=>bif z then some (Step.ret false) else some (Step.nxt ((i : Int) + 1)))
              else some (Step.nxt ((i : Int) + 1))) =
              some (sc (if !((decide (i = 0) || vC (cut 47 q.path) (cut 47 r.path)) && (decide (qe r.path = []) || (decide (0≤qC (a0.take i) (qe r.path)) && decide ((gt (a0.take i) (qC (a0.take i) (qe r.path))).kind = 3)))) then some false else none : Option Bool) ((i : Int) + 1) : Step Bool Int Unit):=by
            intro q
            have e0 : decide (0 < (i : Int)) = !decide (i = 0):=by by_cases h : i = 0 <;> simp [h]; omega
            rw [e0]
            cases vC (cut 47 q.path) (cut 47 r.path) <;> cases decide (i = 0) <;> try simp
            all_goals
              by_cases hpp : qe r.path = []
              · simp [hpp]
              · by_cases hk : qC (a0.take i) (qe r.path) < 0
                · have hk2 : ¬ 0≤qC (a0.take i) (qe r.path):=by omega
                  simp [hpp,hk,hk2]
                · have hk2 : 0≤qC (a0.take i) (qe r.path):=by omega
                  rw [gtake a0 i _ hk2 (Yg _ _)]
                  by_cases h3 : (gt a0 (qC (a0.take i) (qe r.path))).kind = 3 <;> simp [hpp,hk,hk2,Xb (by omega : i≤a0.length) hk,h3]
          by_cases hz : i = 0
          · subst hz
            have:=key default
            simpa [cf] using this
          · have hi1 : i - 1 < a0.length:=by omega
            have hw : IntKind.wrap .i64 ((i : Int) - 1) = ((i - 1 : Nat) : Int):=by rw [wrap_small (by omega) (by omega)]; omega
            have hp3:=h1 _ (Je hi1)
            have:=key (a0.getD (i - 1) default)
            simp only [hw,JW,qW hi1,hp3,cf,decide_true,Bool.not_true,Bool.or_true,Bool.or_false,Bool.false_or,cond_true,cond_false,Bool.not_false,Bool.true_and]
            exact this
        · simp [cf]
    rw [yO a0.length _ hb (by simp [qx.b1]) _ (by omega),Jd]
    have e : (fun i=>!!yo a0 i) = yo a0:=by funext i; simp
    simp only [qX,hl,decide_true,Bool.true_and,e]
    cases (List.range a0.length).all (yo a0) <;> simp
  · have hl' : (24 : Int) < (a0.length : Int):=by omega
    simp [hl',qX,hl]
def vN.sh (a0 : Nd) : Option (Rec):=
 some (⟨a0.kind,a0.path,a0.body,a0.mode,false⟩ : Rec)
theorem vN.eq (a0 : Nd) : vN.sh a0 = some (qM a0):=rfl
def jF.sh (a0 : Nd) : Option (Bool):=
 some ((decide (qR (qM a0) = 0)) && (!decide (a0.kind = 4)))
theorem jF.eq (a0 : Nd) : jF.sh a0 = some (nodeOK a0):=rfl
def jk.sh (a0 : List Nd) (a1 : List UInt8) : Option (Bool):=
 bif decide (a0.length≤1048576) then (((bif (decide (a1 = ([] : List UInt8))) then some true else (((bif (decide (0≤(qC a0 a1))) then (bif inR (qC a0 a1) a0.length then (some (decide (((gt a0 (qC a0 a1)).kind) = 3))) else none) else some false)).bind fun z6=>some z6))).bind fun z5=>some z5) else none
theorem jk.eq (a0 : List Nd) (a1 : List UInt8) (h0 : a0.length≤1048576) : jk.sh a0 a1 = some (yd a0 a1):=by
 unfold jk.sh yd
 simp only [h0,decide_true,cond_true]
 by_cases hp : a1 = []
 ·simp [hp]
 ·by_cases hk : 0≤qC a0 a1
  ·simp [hp,hk,Ym hk (Yg a0 a1)]
  ·simp [hp,hk]
def qA.b1 (a0 : List Nd) : Int→Option (Step (Bool) (Int) (Unit)):=
 fun x7_1=>bif (decide (x7_1 < (a0.length : Int))) then (bif inR x7_1 a0.length then (bif (!((!((decide (24≤x7_1)) || (!(nodeOK (gt a0 x7_1))))) && (decide (0 < x7_1))) || (inR (IntKind.wrap .i64 (x7_1 - 1)) a0.length)) then (bif (!(!(((decide (24≤x7_1)) || (!(nodeOK (gt a0 x7_1)))) || ((decide (0 < x7_1)) && (!(yk ((gt a0 (IntKind.wrap .i64 (x7_1 - 1))).path) ((gt a0 x7_1).path)))))) || (inS 0 x7_1 (a0.length : Int))) then (bif (!(!(((decide (24≤x7_1)) || (!(nodeOK (gt a0 x7_1)))) || ((decide (0 < x7_1)) && (!(yk ((gt a0 (IntKind.wrap .i64 (x7_1 - 1))).path) ((gt a0 x7_1).path)))))) || (decide (((gt a0 x7_1).path).length≤1048576))) then (bif (!(!(((decide (24≤x7_1)) || (!(nodeOK (gt a0 x7_1)))) || ((decide (0 < x7_1)) && (!(yk ((gt a0 (IntKind.wrap .i64 (x7_1 - 1))).path) ((gt a0 x7_1).path)))))) || (decide ((sub a0 0 x7_1).length≤1048576))) then (bif ((((decide (24≤x7_1)) || (!(nodeOK (gt a0 x7_1)))) || ((decide (0 < x7_1)) && (!(yk ((gt a0 (IntKind.wrap .i64 (x7_1 - 1))).path) ((gt a0 x7_1).path))))) || (!(yd (sub a0 0 x7_1) (qe ((gt a0 x7_1).path))))) then (some (.ret false)) else (some (.nxt (IntKind.wrap .i64 (x7_1 + 1))))) else none) else none) else none) else none) else none) else (some (.brk ()))
def qA.sh (k : Nat) (a0 : List Nd) : Option (Bool):=
  (ql (qA.b1 a0) k 0).bind fun z=>match z with | .inl t=>some t | .inr _=>some true
theorem qA.eq (a0 : List Nd) (h0 : a0.length≤1048576) (h1 : ∀ x ∈ a0,x.path.length≤1048576) : ∃ k,qA.sh k a0 = some (qX a0):=by
 refine ⟨a0.length + 1,?_⟩
 unfold qA.sh
 have hb : ∀ i : Nat,i < a0.length→qA.b1 a0 i = some (sc (if (decide (24≤i) || !nodeOK (a0.getD i default)) || (!decide (i = 0) && !yk (a0.getD (i - 1) default).path (a0.getD i default).path) || !yd (a0.take i) (qe (a0.getD i default).path) then some false else none : Option Bool) ((i : Int) + 1)):=by
  intro i hi
  have hp:=h1 _ (Je hi)
  have hs : sub a0 0 ((i : Nat) : Int) = a0.take i:=by simp [sub]
  have hle : (a0.take i).length≤1048576:=by simp; omega
  have e24 : decide ((24 : Int)≤(i : Int)) = decide (24≤i):=by rw [decide_eq_decide]; omega
  have e0 : decide (0 < (i : Int)) = !decide (i = 0):=by by_cases h : i = 0 <;> simp [h]; omega
  simp only [qA.b1,ye,hi,decide_true,cond_true,qW hi,JW,vj hi (by omega),Bool.or_true,hp,hs,hle,Vc (l:=0) (h:=(i : Int)) (n:=(a0.length : Int)) (by omega) (by omega) (by omega),e24,e0]
  by_cases hz : i = 0
  ·subst hz
   simp only [Bool.not_true,Bool.false_and,Bool.and_false,Bool.not_false,Bool.true_or,cond_true,Bool.or_false,decide_true]
   cases (decide (24≤0) || !nodeOK (a0.getD 0 default)) || !yd (a0.take 0) (qe (a0.getD 0 default).path) <;> simp
  ·have hi1 : i - 1 < a0.length:=by omega
   have hw : IntKind.wrap .i64 ((i : Int) - 1) = ((i - 1 : Nat) : Int):=by rw [wrap_small (by omega) (by omega)]; omega
   simp only [hw,JW,qW hi1,Bool.or_true,cond_true]
   cases (decide (24≤i) || !nodeOK (a0.getD i default)) || (!decide (i = 0) && !yk (a0.getD (i - 1) default).path (a0.getD i default).path) || !yd (a0.take i) (qe (a0.getD i default).path) <;> simp
 rw [yO a0.length _ hb (by simp [qA.b1]) _ (by omega),Jd]
 have e : (List.range a0.length).all (fun i=>!((decide (24≤i) || !nodeOK (a0.getD i default)) || (!decide (i = 0) && !yk (a0.getD (i - 1) default).path (a0.getD i default).path) || !yd (a0.take i) (qe (a0.getD i default).path))) = qX a0:=by
  unfold qX
  rw [Bool.eq_iff_iff]
  simp only [List.all_eq_true,List.mem_range,Bool.and_eq_true,decide_eq_true_eq,Bool.not_eq_true',Bool.or_eq_false_iff,decide_eq_false_iff_not,Bool.not_eq_false',Bool.and_eq_false_iff]
  constructor
  ·intro h
   have hn : ∀ i,i < a0.length→nodeOK (a0.getD i default) = true:=fun i hi=>(h i hi).1.1.2
   refine ⟨?_,fun i hi=>?_⟩
   ·by_cases hc : a0.length≤24
    ·exact hc
    ·exact absurd (h 24 (by omega)).1.1.1 (by omega)
   ·have hi':=h i hi
    unfold yo
    rw [hi'.1.1.2,hi'.2]
    rcases hi'.1.2 with h2 | h2
    ·simp [h2]
    ·simp only [yk,Bool.and_eq_true] at h2
     rw [h2.2]; simp
  ·rintro ⟨hl,h⟩ i hi
   have hi':=h i hi
   unfold yo at hi'
   simp only [Bool.and_eq_true,Bool.or_eq_true,decide_eq_true_eq] at hi'
   refine ⟨⟨⟨by omega,hi'.1.1⟩,?_⟩,hi'.2⟩
   by_cases hz : i = 0
   ·exact Or.inl hz
   ·right
    have hprev:=h (i - 1) (by omega)
    unfold yo at hprev
    simp only [Bool.and_eq_true] at hprev
    rcases hi'.1.2 with h2 | h2
    ·exact absurd h2 hz
    ·rw [yk,yY hprev.1.1,yY hi'.1.1,h2]; rfl
 rw [e]
 cases qX a0 <;> simp
theorem szN_of {l : List Nd} {a : Int} (h : ¬ yX l a < 0) (h0 : 0≤a) (ha : a≤1048576) : l.length≤1048576∧(∀ x ∈ l,x.path.length≤1048576)∧(∀ x ∈ l,x.body.length≤1048576)∧0≤yX l a∧yX l a≤1048576:=by
 have:=szNdS_le h h0
 refine ⟨by omega,fun x hx=>?_,fun x hx=>?_,by omega,by omega⟩
 ·have:=(this.2.2.2 x hx).1; omega
 ·have:=(this.2.2.2 x hx).2; omega
theorem Q6 {α β T : Type} (xs : List α) (g : α→Option β) (b : List β × Int→Option (Step T (List β × Int) (List β)))
  (hb : ∀ (i : Nat) (h : i < xs.length) (acc : List β),acc.length≤i→b (acc,(i : Int)) = some (.nxt (acc ++ (g xs[i]).toList,(i : Int) + 1))) (hn : ∀ acc : List β,b (acc,(xs.length : Int)) = some (.brk acc)) :
  ql b (xs.length + 1) ([],0) = some (.inr (xs.filterMap g)):=by
 have key : ∀ d i k (acc : List β),i + d = xs.length→d < k→acc.length≤i→ql b k (acc,(i : Int)) = some (.inr (acc ++ (xs.drop i).filterMap g)):=by
  intro d
  induction d with
  | zero=>
   intro i k acc hi hk _
   obtain ⟨k,rfl⟩ : ∃ j,k = j + 1:=⟨k - 1,by omega⟩
   have : i = xs.length:=by omega
   subst this
   simp [ql,hn]
  | succ d ih=>
   intro i k acc hi hk ha
   obtain ⟨k,rfl⟩ : ∃ j,k = j + 1:=⟨k - 1,by omega⟩
   have hlt : i < xs.length:=by omega
   rw [ql,hb i hlt acc ha]
   simp only [Option.bind_some]
   have hl : (acc ++ (g xs[i]).toList).length≤i + 1:=by cases g xs[i] <;> simp <;> omega
   have:=ih (i + 1) k (acc ++ (g xs[i]).toList) (by omega) (by omega) hl
   rw [Int.natCast_add,Int.natCast_one] at this
   have e : (xs.drop i).filterMap g = (g xs[i]).toList ++ (xs.drop (i + 1)).filterMap g:=by
    rw [List.drop_eq_getElem_cons hlt,List.filterMap_cons]
    cases g xs[i] <;> rfl
   rw [e,← List.append_assoc]
   exact this
 have:=key xs.length 0 (xs.length + 1) [] (by omega) (by omega) (by simp)
 simpa using this
theorem Y0 {α β : Type} (f : α→β) (l : List α) : l.filterMap (fun x=>some (f x)) = l.map f:=by
 induction l with
 | nil=>rfl
 | cons x l ih=>simp [ih]
theorem J8 {α β : Type} (q : α→Bool) (f : α→β) (l : List α) : l.filterMap (fun x=>if q x then some (f x) else none) = (l.filter q).map f:=by
 induction l with
 | nil=>rfl
 | cons x l ih=>
  rcases qH (q x) with h | h <;> simp [h,ih]
theorem vS {α : Type} [Inhabited α] {l : List α} {i : Nat} (h : i < l.length) : l.getD i default = l[i]:=by simp [List.getD_eq_getElem?_getD,List.getElem?_eq_getElem h]
theorem jl {t : List UInt8} (h : t ≠ []) : (qe t).length < t.length:=by
 have h1:=V2 t
 have h2:=VU t
 have h3 : 0 < t.length:=by cases t with | nil=>exact absurd rfl h | cons _ _=>simp
 simp [qe]; omega
def VQ : Nat→List UInt8→List (List UInt8)
 | 0,_=>[]
 | n + 1,t=>if qe t = [] then [] else qe t :: VQ n (qe t)
def yv (t : List UInt8) : List (List UInt8):=VQ t.length t
theorem yt : qe [] = []:=rfl
theorem Xj : ∀ (c : Nat) (v : List UInt8),v.length≤c→VQ c v = VQ (c + 1) v:=by
 intro c
 induction c with
 | zero=>intro v hv; have : v = []:=List.eq_nil_of_length_eq_zero (by omega); subst this; simp [VQ,yt]
 | succ c ihc=>
  intro v hv
  rw [VQ,VQ]
  by_cases hpv : qe v = []
  ·simp [hpv]
  ·simp only [hpv,if_false]
   have hvne : v ≠ []:=by intro e; subst e; exact hpv yt
   have:=jl hvne
   rw [ihc (qe v) (by omega)]
theorem VW (d : Nat) (t : List UInt8) : VQ (t.length + d) t = yv t:=by
 induction d with
 | zero=>rfl
 | succ d ih=>rw [← ih,show t.length + (d + 1) = (t.length + d) + 1 by omega]; exact (Xj _ _ (by omega)).symm
theorem y4 (t : List UInt8) : yv t = if qe t = [] then [] else qe t :: yv (qe t):=by
 have h:=VW 1 t
 rw [← h,VQ]
 by_cases hp : qe t = []
 ·simp [hp]
 ·simp only [hp,if_false]
  have hne : t ≠ []:=by intro e; subst e; exact hp yt
  have:=jl hne
  have h2:=VW (t.length - (qe t).length) (qe t)
  rw [show (qe t).length + (t.length - (qe t).length) = t.length by omega] at h2
  rw [h2]
theorem Xr : ∀ (n : Nat) (t : List UInt8),t.length≤n→(yv t).length≤t.length∧∀ x ∈ yv t,x.length≤t.length∧x ≠ []:=by
 intro n
 induction n with
 | zero=>intro t h; have : t = []:=List.eq_nil_of_length_eq_zero (by omega); subst this; exact ⟨by decide,by intro x hx; have e : yv [] = []:=rfl; rw [e] at hx; cases hx⟩
 | succ n ih=>
  intro t h
  rw [y4]
  by_cases hp : qe t = []
  ·simp [hp]
  ·have hne : t ≠ []:=by intro e; subst e; exact hp yt
   have hlt:=jl hne
   obtain ⟨h1,h2⟩:=ih (qe t) (by omega)
   simp only [hp,if_false,List.length_cons,List.mem_cons]
   refine ⟨by omega,?_⟩
   rintro x (rfl | hx)
   ·exact ⟨by omega,hp⟩
   ·have:=h2 x hx; exact ⟨by omega,this.2⟩
theorem G5 (t : List UInt8) : (yv t).length≤t.length:=(Xr _ t (Nat.le_refl _)).1
def stopsR (r : Rec) : Bool:=!decide (r.kind = 3) || r.opq
def underO (l : List Rec) (p : List UInt8) : Bool:=(yv p).any fun x=>decide (0≤yR l x) && (gt l (yR l x)).opq
def cutsR (l : List Rec) (p : List UInt8) : Bool:=(yv p).any fun x=>decide (0≤yR l x) && stopsR (gt l (yR l x))
def ve.b1  : List UInt8 × List (List UInt8)→Option (Step (List (List UInt8)) (List UInt8 × List (List UInt8)) (List (List UInt8))):=
 fun q=>match q with
 | (x0_10,x3_11)=>bif (!decide (x0_10 = ([] : List UInt8))) then (bif decide ((x3_11.length + ([x0_10] : List (List UInt8)).length) * 16≤140737488355328) then (bif decide (x0_10.length≤1048576) then (some (.nxt ((qe x0_10),x3_11 ++ ([x0_10] : List (List UInt8))))) else none) else none) else (some (.brk x3_11))
def ve.sh (k : Nat) (a0 : List UInt8) : Option (List (List UInt8)):=
  bif decide (a0.length≤1048576) then ((ql (ve.b1) k ((qe a0),([] : List (List UInt8)))).bind fun z=>match z with | .inl t=>some t | .inr x3_16=>some x3_16) else none
theorem ve.eq (a0 : List UInt8) (h0 : a0.length≤1048576) : ∃ k,ve.sh k a0 = some (yv a0):=by
 refine ⟨a0.length + 1,?_⟩
 have key : ∀ (n : Nat) (t : List UInt8) (k : Nat) (acc : List (List UInt8)),(qe t).length≤n→n < k→acc.length + (qe t).length≤1048576→ql ve.b1 k (qe t,acc) = some (.inr (acc ++ yv t)):=by
  intro n
  induction n with
  | zero=>
   intro t k acc h hk _
   obtain ⟨k,rfl⟩ : ∃ j,k = j + 1:=⟨k - 1,by omega⟩
   have hp : qe t = []:=List.eq_nil_of_length_eq_zero (by omega)
   rw [y4,hp,ql]; simp [ve.b1]
  | succ n ih=>
   intro t k acc h hk hl
   obtain ⟨k,rfl⟩ : ∃ j,k = j + 1:=⟨k - 1,by omega⟩
   by_cases hp : qe t = []
   ·rw [y4,hp,ql]; simp [ve.b1]
   ·have hlt:=jl hp
    have e1 : (acc.length + ([qe t] : List (List UInt8)).length) * 16≤140737488355328:=by simp; omega
    have e2 : (qe t).length≤1048576:=by omega
    rw [y4 t,ql]
    simp only [ve.b1,hp,decide_false,Bool.not_false,cond_true,e1,e2,decide_true,if_false,Option.bind_some]
    have:=ih (qe t) k (acc ++ [qe t]) (by omega) (by omega) (by simp; omega)
    rw [show ql ve.b1 k (qe (qe t),acc ++ [qe t]) = _ from this]
    simp
 have hl:=GK a0
 unfold ve.sh
 rw [key a0.length a0 (a0.length + 1) [] hl (by omega) (by simp; omega)]
 simp [h0]
theorem jG {p : List UInt8} (h : qI p = true) : p.length≤1048576:=by have:=jQ h; omega
end Go.UL
