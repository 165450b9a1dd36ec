import Derived.Test.YtdhmlillkbjjjaaGreatDooryP12
set_option linter.unusedVariables false
set_option linter.unusedSimpArgs false
namespace Go.UL
open Go.RowKit
theorem Jt {l : List Rec} (h : ∀ i,i < l.length→Yi l i = 0) : jU l = (0,0):=by
 unfold jU
 have : (List.range l.length).findSome? (fun i=>if Yi l i = 0 then none else some ((i : Int),Yi l i)) = none:=by
  apply List.findSome?_eq_none_iff.2
  intro i hi
  simp [h i (List.mem_range.1 hi)]
 rw [this]
def canonR (l : List Rec) (r : Rec) : Option Rec:=
 if underO l r.path then (if r.kind = 4 then none else some ⟨r.kind,r.path,r.body,r.mode,false⟩) else some ⟨r.kind,r.path,r.body,r.mode,r.opq && decide ((cut 47 r.path).length < 4)⟩
def Yn (l : List Rec) : List Rec:=l.filterMap (canonR l)
def GM (a b : List Rec) : Int:=if decide (4096 < a.length) || decide (4096 < b.length) then 2 else if !decide ((jU a).2 = 0) || !decide ((jU b).2 = 0) then 1 else 0
def vx.b1 (a0 : List Nd) : List Rec × Int→Option (Step (List Rec) (List Rec × Int) (List Rec)):=
 fun q=>match q with
 | (x3_7,x9_9)=>bif (decide (x9_9 < (a0.length : Int))) then (bif inR x9_9 a0.length then (bif decide ((x3_7.length + ([(qM (gt a0 x9_9))] : List Rec).length) * 56≤140737488355328) then (some (.nxt (x3_7 ++ ([(qM (gt a0 x9_9))] : List Rec),IntKind.wrap .i64 (x9_9 + 1)))) else none) else none) else (some (.brk x3_7))
def vx.sh (k : Nat) (a0 : List Nd) : Option (List Rec):=
  (ql (vx.b1 a0) k (([] : List Rec),0)).bind fun z=>match z with | .inl t=>some t | .inr x3_13=>some x3_13
theorem vx.eq (a0 : List Nd) (h0 : a0.length≤1048576) : ∃ k,vx.sh k a0 = some (a0.map qM):=by
 refine ⟨a0.length + 1,?_⟩
 unfold vx.sh
 rw [Q6 a0 (fun x=>some (qM x)) (vx.b1 a0) (fun i hi acc ha=>by
  have e1 : ∀ z : Rec,(acc.length + ([z] : List Rec).length) * 56≤140737488355328:=fun z=>by simp; omega
  simp only [vx.b1,ye,hi,decide_true,cond_true,qW hi,vr,vS hi,e1,vj hi (by omega),Option.toList_some]) (fun acc=>by simp [vx.b1])]
 simp [Y0]
theorem GF (l : List Nd) : decide ((4096 : Int) < (l.length : Int)) = decide (4096 < l.length):=by rw [decide_eq_decide]; omega
def vW.sh (a0 : List Nd) : Option (Bool):=
 some (decide (4096 < (a0.length : Int)))
theorem vW.eq (a0 : List Nd) : vW.sh a0 = some (decide (4096 < a0.length)):=by
 have : (4096 : Int) < (a0.length : Int) ↔ 4096 < a0.length:=by omega
 simp [vW.sh,this]
def markN (k : Int) : Nd:=⟨k,vU (k + 1),vU (k + 2),k + 3⟩
def JD (k : Int) : Rec:=⟨k,vU (k + 1),vU (k + 2),k + 3,decide ((k + 4).tmod 3 = 0)⟩
def Xl (n : Nat) (k : Int) : List Nd:=(List.range n).map fun (i : Nat)=>markN (k + ((i * 4 : Nat) : Int))
def yp (n : Nat) (k : Int) : List Rec:=(List.range n).map fun (i : Nat)=>JD (k + ((i * 5 : Nat) : Int))
def j6 (xs : List Rec) (k : Int) : Int:=if xs = yp xs.length k then k + 5 * (xs.length : Int) else -1
theorem VC (n : Nat) (k : Int) : (yp n k).length = n:=by simp [yp]
theorem G0 (n : Nat) (k : Int) : j6 (yp n k) k = k + 5 * (n : Int):=by
 unfold j6; rw [VC]; simp
def qD.b1  : Int × Int × List Nd→Option (Step (Int × List Nd) (Int × Int × List Nd) (Int × List Nd)):=
 fun q=>match q with
 | (x1_1,x5_2,y3)=>bif (decide (x5_2 < (y3.length : Int))) then (bif inR x5_2 y3.length then (bif decide (((IntKind.wrap .i64 (x1_1 + 1)) : Int)≤4611686018427387904) then (bif decide (((IntKind.wrap .i64 ((IntKind.wrap .i64 (x1_1 + 1)) + 1)) : Int)≤4611686018427387904) then (some (.nxt (IntKind.wrap .i64 ((IntKind.wrap .i64 ((IntKind.wrap .i64 ((IntKind.wrap .i64 (x1_1 + 1)) + 1)) + 1)) + 1),IntKind.wrap .i64 (x5_2 + 1),j4 y3 x5_2 (⟨x1_1,(vU (IntKind.wrap .i64 (x1_1 + 1))),(vU (IntKind.wrap .i64 ((IntKind.wrap .i64 (x1_1 + 1)) + 1))),IntKind.wrap .i64 ((IntKind.wrap .i64 ((IntKind.wrap .i64 (x1_1 + 1)) + 1)) + 1)⟩ : Nd)))) else none) else none) else none) else (some (.brk (x1_1,y3)))
def qD.sh (k : Nat) (a0 : List Nd) (a1 : Int) : Option (Int × List Nd):=
  (ql (qD.b1) k (a1,0,a0)).bind fun z=>match z with | .inl t=>some t | .inr (x1_7,y8)=>some (x1_7,y8)
theorem qD.eq (a0 : List Nd) (a1 : Int) (h0 : a0.length≤1152921504606846976) (h1 : 0≤a1) (h2 : a1≤4611686018427387904 - 4 * a0.length) : ∃ k,qD.sh k a0 a1 = some (a1 + 4 * (a0.length : Int),Xl a0.length a1):=by
 refine ⟨a0.length + 1,?_⟩
 have:=GU a0 (fun (i : Nat)=>markN (a1 + ((i * 4 : Nat) : Int))) a1 4 qD.b1 (fun i hi y hy=>by
  have e2 : a1 + (((i + 1) * 4 : Nat) : Int) = a1 + ((i * 4 : Nat) : Int) + 4:=by omega
  obtain ⟨c,hc⟩ : ∃ c,a1 + ((i * 4 : Nat) : Int) = c:=⟨_,rfl⟩
  have h3 : 0≤c∧c + 4≤4611686018427387904:=by omega
  have h4 : c + 1≤4611686018427387904:=by omega
  have h5 : c + 1 + 1≤4611686018427387904:=by omega
  rw [e2,hc]
  simp only [qD.b1,hy,ye,hi,decide_true,cond_true,qW hi,vj hi (by omega)]
  rw [wrap_small (n:=c + 1) (by omega) (by omega),wrap_small (n:=c + 1 + 1) (by omega) (by omega),wrap_small (n:=c + 1 + 1 + 1) (by omega) (by omega),wrap_small (n:=c + 1 + 1 + 1 + 1) (by omega) (by omega)]
  simp only [h4,h5,decide_true,cond_true,markN]
  have : c + 1 + 1 = c + 2:=by omega
  rw [this]
  have : c + 2 + 1 = c + 3:=by omega
  rw [this]
  have : c + 3 + 1 = c + 4:=by omega
  rw [this]) (fun y hy=>by simp [qD.b1,hy])
 unfold qD.sh
 rw [this]
 simp only [Option.bind_some,Xl]
 congr 2; omega
def qq.b1  : Int × Int × List Rec→Option (Step (Int × List Rec) (Int × Int × List Rec) (Int × List Rec)):=
 fun q=>match q with
 | (x1_1,x5_2,y3)=>bif (decide (x5_2 < (y3.length : Int))) then (bif inR x5_2 y3.length then (bif decide (((IntKind.wrap .i64 (x1_1 + 1)) : Int)≤4611686018427387904) then (bif decide (((IntKind.wrap .i64 ((IntKind.wrap .i64 (x1_1 + 1)) + 1)) : Int)≤4611686018427387904) then (some (.nxt (IntKind.wrap .i64 ((IntKind.wrap .i64 ((IntKind.wrap .i64 ((IntKind.wrap .i64 ((IntKind.wrap .i64 (x1_1 + 1)) + 1)) + 1)) + 1)) + 1),IntKind.wrap .i64 (x5_2 + 1),j4 y3 x5_2 (⟨x1_1,(vU (IntKind.wrap .i64 (x1_1 + 1))),(vU (IntKind.wrap .i64 ((IntKind.wrap .i64 (x1_1 + 1)) + 1))),IntKind.wrap .i64 ((IntKind.wrap .i64 ((IntKind.wrap .i64 (x1_1 + 1)) + 1)) + 1),(decide (((IntKind.wrap .i64 ((IntKind.wrap .i64 ((IntKind.wrap .i64 ((IntKind.wrap .i64 (x1_1 + 1)) + 1)) + 1)) + 1)).tmod 3) = 0))⟩ : Rec)))) else none) else none) else none) else (some (.brk (x1_1,y3)))
def qq.sh (k : Nat) (a0 : List Rec) (a1 : Int) : Option (Int × List Rec):=
  (ql (qq.b1) k (a1,0,a0)).bind fun z=>match z with | .inl t=>some t | .inr (x1_7,y8)=>some (x1_7,y8)
theorem qq.eq (a0 : List Rec) (a1 : Int) (h0 : a0.length≤576460752303423488) (h1 : 0≤a1) (h2 : a1≤4611686018427387904 - 5 * a0.length) : ∃ k,qq.sh k a0 a1 = some (a1 + 5 * (a0.length : Int),yp a0.length a1):=by
 refine ⟨a0.length + 1,?_⟩
 have:=GU a0 (fun (i : Nat)=>JD (a1 + ((i * 5 : Nat) : Int))) a1 5 qq.b1 (fun i hi y hy=>by
  have e2 : a1 + (((i + 1) * 5 : Nat) : Int) = a1 + ((i * 5 : Nat) : Int) + 5:=by omega
  obtain ⟨c,hc⟩ : ∃ c,a1 + ((i * 5 : Nat) : Int) = c:=⟨_,rfl⟩
  have h3 : 0≤c∧c + 5≤4611686018427387904:=by omega
  have h4 : c + 1≤4611686018427387904:=by omega
  have h5 : c + 1 + 1≤4611686018427387904:=by omega
  rw [e2,hc]
  simp only [qq.b1,hy,ye,hi,decide_true,cond_true,qW hi,vj hi (by omega)]
  rw [wrap_small (n:=c + 1) (by omega) (by omega),wrap_small (n:=c + 1 + 1) (by omega) (by omega),wrap_small (n:=c + 1 + 1 + 1) (by omega) (by omega),wrap_small (n:=c + 1 + 1 + 1 + 1) (by omega) (by omega),wrap_small (n:=c + 1 + 1 + 1 + 1 + 1) (by omega) (by omega)]
  simp only [h4,h5,decide_true,cond_true,JD]
  have : c + 1 + 1 = c + 2:=by omega
  rw [this]
  have : c + 2 + 1 = c + 3:=by omega
  rw [this]
  have : c + 3 + 1 = c + 4:=by omega
  rw [this]
  have : c + 4 + 1 = c + 5:=by omega
  rw [this]) (fun y hy=>by simp [qq.b1,hy])
 unfold qq.sh
 rw [this]
 simp only [Option.bind_some,yp]
 congr 2; omega
def vd.b1 (a0 : List Rec) : Int × Int→Option (Step (Int) (Int × Int) (Int)):=
 fun q=>match q with
 | (x1_1,x5_2)=>bif (decide (x5_2 < (a0.length : Int))) then (bif inR x5_2 a0.length then (bif (!decide (((gt a0 x5_2).kind) = x1_1)) then (some (.ret (-1))) else (bif inR x5_2 a0.length then (bif decide (((IntKind.wrap .i64 (x1_1 + 1)) : Int)≤4611686018427387904) then (bif (!decide (((gt a0 x5_2).path) = (vU (IntKind.wrap .i64 (x1_1 + 1))))) then (some (.ret (-1))) else (bif inR x5_2 a0.length then (bif decide (((IntKind.wrap .i64 ((IntKind.wrap .i64 (x1_1 + 1)) + 1)) : Int)≤4611686018427387904) then (bif (!decide (((gt a0 x5_2).body) = (vU (IntKind.wrap .i64 ((IntKind.wrap .i64 (x1_1 + 1)) + 1))))) then (some (.ret (-1))) else (bif inR x5_2 a0.length then (bif (!decide (((gt a0 x5_2).mode) = (IntKind.wrap .i64 ((IntKind.wrap .i64 ((IntKind.wrap .i64 (x1_1 + 1)) + 1)) + 1)))) then (some (.ret (-1))) else (bif inR x5_2 a0.length then (bif (!decide (((gt a0 x5_2).opq) = (decide (((IntKind.wrap .i64 ((IntKind.wrap .i64 ((IntKind.wrap .i64 ((IntKind.wrap .i64 (x1_1 + 1)) + 1)) + 1)) + 1)).tmod 3) = 0)))) then (some (.ret (-1))) else (some (.nxt (IntKind.wrap .i64 ((IntKind.wrap .i64 ((IntKind.wrap .i64 ((IntKind.wrap .i64 ((IntKind.wrap .i64 (x1_1 + 1)) + 1)) + 1)) + 1)) + 1),IntKind.wrap .i64 (x5_2 + 1))))) else none)) else none)) else none) else none)) else none) else none)) else none) else (some (.brk x1_1))
def vd.sh (k : Nat) (a0 : List Rec) (a1 : Int) : Option (Int):=
  (ql (vd.b1 a0) k (a1,0)).bind fun z=>match z with | .inl t=>some t | .inr x1_6=>some x1_6
theorem vd.eq (a0 : List Rec) (a1 : Int) (h0 : a0.length≤576460752303423488) (h1 : 0≤a1) (h2 : a1≤4611686018427387904 - 5 * a0.length) : ∃ k,vd.sh k a0 a1 = some (j6 a0 a1):=by
 refine ⟨a0.length + 1,?_⟩
 have:=held_run a0 (fun (i : Nat)=>JD (a1 + ((i * 5 : Nat) : Int))) a1 5 (vd.b1 a0) (fun i hi=>by
  have e2 : a1 + (((i + 1) * 5 : Nat) : Int) = a1 + ((i * 5 : Nat) : Int) + 5:=by omega
  obtain ⟨c,hc⟩ : ∃ c,a1 + ((i * 5 : Nat) : Int) = c:=⟨_,rfl⟩
  have h3 : 0≤c∧c + 5≤4611686018427387904:=by omega
  have h4 : c + 1≤4611686018427387904:=by omega
  have h5 : c + 2≤4611686018427387904:=by omega
  rw [e2,hc]
  simp only [vd.b1,ye,hi,decide_true,cond_true,qW hi,vr,vj hi (by omega)]
  obtain ⟨x,hx⟩ : ∃ x,a0.getD i default = x:=⟨_,rfl⟩
  obtain ⟨f1,f2,f3,f4,f5⟩:=x
  simp only [hx,JD,Rec.mk.injEq]
  rw [wrap_small (n:=c + 1) (by omega) (by omega),wrap_small (n:=c + 1 + 1) (by omega) (by omega),wrap_small (n:=c + 1 + 1 + 1) (by omega) (by omega),wrap_small (n:=c + 1 + 1 + 1 + 1) (by omega) (by omega),wrap_small (n:=c + 1 + 1 + 1 + 1 + 1) (by omega) (by omega)]
  have : c + 1 + 1 = c + 2:=by omega
  rw [this]
  have : c + 2 + 1 = c + 3:=by omega
  rw [this]
  have : c + 3 + 1 = c + 4:=by omega
  rw [this]
  have : c + 4 + 1 = c + 5:=by omega
  rw [this]
  simp only [h4,h5,decide_true,cond_true]
  generalize decide ((c + 4).tmod 3 = 0) = o
  by_cases g1 : f1 = c
  ·by_cases g2 : f2 = vU (c + 1)
   ·by_cases g3 : f3 = vU (c + 2)
    ·by_cases g4 : f4 = c + 3
     ·by_cases g5 : f5 = o
      ·simp [g1,g2,g3,g4,g5]
      ·simp [g1,g2,g3,g4,g5]
     ·simp [g1,g2,g3,g4]
    ·simp [g1,g2,g3]
   ·simp [g1,g2]
  ·simp [g1]) (by simp [vd.b1])
 unfold vd.sh
 rw [this]
 unfold j6 yp
 by_cases he : a0 = (List.range a0.length).map fun (i : Nat)=>JD (a1 + ((i * 5 : Nat) : Int))
 ·rw [if_pos he,if_pos he]
  simp only [Option.bind_some]
  congr 1; omega
 ·rw [if_neg he,if_neg he]; simp
def JZ (l : List (List Rec)) : Bool:=decide (l.length≤5) && l.all fun x=>decide ((jU x).2 = 0)
def Qw (t : List Nd) (p : List UInt8) (i : Nat) : Option (Int × Int):=
 if qC t p < 0 then some (0,5) else if i = 0 then some (qC t p,0) else if (gt t (qC t p)).kind ≠ 3 then some (0,13) else none
def YC (t : List Nd) (way : List (List UInt8)) : Nat→Int × Int
 | 0=>(0,5)
 | n + 1=>match Qw t (way.getD n []) n with
  | some x=>x
  | none=>YC t way n
def QP (t : List Nd) (p : List UInt8) : Int × Int:=YC t ([p] ++ yv p) ([p] ++ yv p).length
theorem Xz {t : List Nd} {way : List (List UInt8)} {i : Nat} {x : Int × Int} : ∀ m,i < m→Qw t (way.getD i []) i = some x→(∀ j,i < j→j < m→Qw t (way.getD j []) j = none)→YC t way m = x:=by
 intro m
 induction m with
 | zero=>intro h; omega
 | succ m ih=>
  intro h hc hj
  rw [YC]
  by_cases e : i = m
  ·subst e; rw [hc]
  ·rw [hj m (by omega) (by omega)]; exact ih (by omega) hc fun j h1 h2=>hj j h1 (by omega)
def YQ (t : List Nd) : List UInt8→List (List UInt8)→Nd × Int
 | _,[]=>(⟨0,[],[],0⟩,5)
 | p,x :: l=>if qC t (VY p x) < 0 then (⟨0,[],[],0⟩,5) else if l = [] then (gt t (qC t (VY p x)),0) else if (gt t (qC t (VY p x))).kind ≠ 3 then (⟨0,[],[],0⟩,13) else YQ t (VY p x) l
def Xg (t : List Nd) (p : List UInt8) : Nd × Int:=YQ t [] (cut 47 p)
theorem Qb {t : List Nd} {p : List UInt8} (h : ¬ qC t p < 0) : inR (qC t p) t.length = true:=Ym (by omega) (Yg t p)
theorem JO (p x : List UInt8) (l : List (List UInt8)) : preL p (x :: l) = (p ++ x) :: l:=rfl
theorem jE {b : UInt8} {l : List UInt8} (h : bn b ≠ 47) : cut 47 (b :: l) = preL [b] (cut 47 l):=by rw [cut,if_neg h]
theorem jD {b : UInt8} {l : List UInt8} (h : bn b = 47) : cut 47 (b :: l) = [] :: cut 47 l:=by rw [cut,if_pos h]
theorem Y9 : bn (47 : UInt8) = 47:=rfl
def vO : List (List UInt8)→List UInt8
 | []=>[]
 | [x]=>x
 | x :: y :: l=>x ++ 47 :: vO (y :: l)
theorem jM (x : List UInt8) {l : List (List UInt8)} (h : l ≠ []) : vO (x :: l) = x ++ 47 :: vO l:=by
 cases l with
 | nil=>exact absurd rfl h
 | cons y l=>rfl
theorem Xp (p : List UInt8) (l : List (List UInt8)) (h : l ≠ []) : vO (preL p l) = p ++ vO l:=by
 cases l with
 | nil=>exact absurd rfl h
 | cons x l=>
  rw [JO]
  cases l with
  | nil=>rfl
  | cons y l=>simp [vO]
theorem jT (t : List UInt8) : vO (cut 47 t) = t:=by
 induction t with
 | nil=>rfl
 | cons b l ih=>
  by_cases h : bn b = 47
  ·have hb : b = 47:=by
    apply UInt8.toNat.inj
    show b.toNat = 47
    unfold bn at h; omega
   rw [jD h,jM _ (yZ 47 l),ih,hb]; rfl
  ·rw [jE h,Xp _ _ (yZ 47 l),ih]; rfl
theorem cut_free {x : List UInt8} (h : ∀ b ∈ x,bn b ≠ 47) : cut 47 x = [x]:=by
 induction x with
 | nil=>rfl
 | cons b l ih=>
  rw [jE (h b (by simp)),ih (fun c hc=>h c (by simp [hc]))]; rfl
theorem cut_app {x t : List UInt8} (h : ∀ b ∈ x,bn b ≠ 47) : cut 47 (x ++ 47 :: t) = x :: cut 47 t:=by
 induction x with
 | nil=>exact jD Y9
 | cons b l ih=>
  rw [List.cons_append,jE (h b (by simp)),ih (fun c hc=>h c (by simp [hc]))]; rfl
theorem Vv (t : List UInt8) : ∀ x ∈ cut 47 t,∀ b ∈ x,bn b ≠ 47:=by
 induction t with
 | nil=>intro x hx; simp [cut] at hx; subst hx; simp
 | cons b l ih=>
  by_cases h : bn b = 47
  ·rw [jD h]
   intro x hx
   rcases List.mem_cons.1 hx with rfl | hx
   ·simp
   ·exact ih x hx
  ·rw [jE h]
   cases hc : cut 47 l with
   | nil=>exact absurd hc (yZ 47 l)
   | cons y r=>
    rw [hc] at ih
    rw [JO]
    intro x hx
    rcases List.mem_cons.1 hx with rfl | hx
    ·intro c hcx
     rcases List.mem_append.1 hcx with h2 | h2
     ·simp at h2; subst h2; exact h
     ·exact ih y (by simp) c h2
    ·exact ih x (by simp [hx])
theorem Yv {l : List (List UInt8)} (hn : l ≠ []) (h : ∀ x ∈ l,∀ b ∈ x,bn b ≠ 47) : cut 47 (vO l) = l:=by
 induction l with
 | nil=>exact absurd rfl hn
 | cons x l ih=>
  by_cases hl : l = []
  ·subst hl; exact cut_free (h x (by simp))
  ·rw [jM x hl,cut_app (h x (by simp)),ih hl (fun y hy=>h y (by simp [hy]))]
theorem XB {a b : List UInt8} (h : cut 47 a = cut 47 b) : a = b:=by rw [← jT a,← jT b,h]
theorem Jr (x t : List UInt8) (ht : ∀ b ∈ t,bn b ≠ 47) : va (x ++ 47 :: t) = x.length:=by
 apply QR (by simp) (by simp [List.getD_eq_getElem?_getD]; exact Y9)
 intro j h1 h2
 obtain ⟨m,rfl⟩ : ∃ m,j = x.length + 1 + m:=⟨j - x.length - 1,by omega⟩
 have h3 : m < t.length:=by simp at h2; omega
 have : (x ++ 47 :: t).getD (x.length + 1 + m) 0 = t[m]:=by
  have e : x.length + 1 + m - x.length = m + 1:=by omega
  rw [List.getD_eq_getElem?_getD,List.getElem?_append_right (by omega),e,List.getElem?_cons_succ,List.getElem?_eq_getElem h3]; rfl
 rw [this]
 exact ht _ (List.getElem_mem h3)
theorem V4 {l : List (List UInt8)} (x : List UInt8) (h : l ≠ []) : vO (l ++ [x]) = vO l ++ 47 :: x:=by
 induction l with
 | nil=>exact absurd rfl h
 | cons y l ih=>
  by_cases hl : l = []
  ·subst hl; rfl
  ·rw [List.cons_append,jM y (by simp),ih hl,jM y hl]; simp
theorem Vx {l : List (List UInt8)} {x : List UInt8} (h : ∀ y ∈ l ++ [x],∀ b ∈ y,bn b ≠ 47) : qe (vO (l ++ [x])) = vO l:=by
 by_cases hl : l = []
 ·subst hl
  have : va x = -1:=QU fun j hj=>h x (by simp) _ (by rw [List.getD_eq_getElem?_getD,List.getElem?_eq_getElem hj]; exact List.getElem_mem hj)
  simp [qe,vO,this]
 ·rw [V4 x hl,qe,Jr _ _ (fun b hb=>h x (by simp) b hb)]
  simp
theorem GE (t : List UInt8) : qe t = vO (cut 47 t).dropLast:=by
 obtain ⟨l,x,hlx⟩ : ∃ l x,cut 47 t = l ++ [x]:=⟨(cut 47 t).dropLast,(cut 47 t).getLast (yZ 47 t),(List.dropLast_concat_getLast (yZ 47 t)).symm⟩
 have hp:=Vv t
 have:=Vx (l:=l) (x:=x) (by rw [← hlx]; exact hp)
 rw [hlx,List.dropLast_concat,← this,← hlx,jT]
theorem Ya {t : List UInt8} (h : qI t = true) : ∀ x ∈ cut 47 t,x ≠ []:=by
 simp only [qI,Bool.and_eq_true,decide_eq_true_eq,List.all_eq_true] at h
 intro x hx he
 have:=h.2.2 x hx
 rw [he] at this
 revert this; decide
theorem G4 {l : List (List UInt8)} (h : l ≠ []) (hp : ∀ x ∈ l,x ≠ []) : vO l ≠ []:=by
 cases l with
 | nil=>exact absurd rfl h
 | cons x l=>
  have:=hp x (by simp)
  cases l with
  | nil=>simpa [vO] using this
  | cons y l=>simp [vO]
theorem GX {l : List (List UInt8)} (x : List UInt8) (hp : ∀ y ∈ l,y ≠ []) : VY (vO l) x = vO (l ++ [x]):=by
 by_cases hl : l = []
 ·subst hl; simp [VY,vO]
 ·rw [VY,if_neg (G4 hl hp),V4 x hl]; simp
theorem Xq : ∀ (n : Nat) (l : List (List UInt8)),l.length = n→(∀ y ∈ l,∀ b ∈ y,bn b ≠ 47)→(∀ y ∈ l,y ≠ [])→yv (vO l) = ((List.range (l.length - 1)).map fun k=>vO (l.take (k + 1))).reverse:=by
 intro n
 induction n with
 | zero=>intro l hl _ _; have : l = []:=List.eq_nil_of_length_eq_zero hl; subst this; rfl
 | succ n ih=>
  intro l hl hp hn
  have hne : l ≠ []:=by intro e; subst e; simp at hl
  obtain ⟨m,x,rfl⟩ : ∃ m x,l = m ++ [x]:=⟨l.dropLast,l.getLast hne,(List.dropLast_concat_getLast hne).symm⟩
  rw [y4,Vx hp]
  have hm : m.length = n:=by simpa using hl
  by_cases hm0 : m = []
  ·subst hm0; simp [vO]
  ·have hpm : ∀ y ∈ m,y ≠ []:=fun y hy=>hn y (by simp [hy])
   rw [if_neg (G4 hm0 hpm),ih m hm (fun y hy=>hp y (by simp [hy])) hpm]
   have hml : 0 < m.length:=List.length_pos_iff.2 hm0
   have e1 : (m ++ [x]).length - 1 = (m.length - 1) + 1:=by simp; omega
   rw [e1,List.range_succ,List.map_append,List.reverse_append]
   simp only [List.map_cons,List.map_nil,List.reverse_cons,List.reverse_nil,List.nil_append,List.cons_append]
   congr 1
   ·have e2 : m.length - 1 + 1 = m.length:=by omega
    rw [e2,List.take_left]
   ·congr 1
    apply List.map_congr_left
    intro k hk
    have:=List.mem_range.1 hk
    rw [List.take_append_of_le_length (by omega)]
theorem Gt {t : List UInt8} (h : qI t = true) : yv t = ((List.range ((cut 47 t).length - 1)).map fun k=>vO ((cut 47 t).take (k + 1))).reverse:=by
 have:=Xq _ (cut 47 t) rfl (Vv t) (Ya h)
 rwa [jT] at this
theorem way_cut {t : List UInt8} (h : qI t = true) : [t] ++ yv t = ((List.range (cut 47 t).length).map fun k=>vO ((cut 47 t).take (k + 1))).reverse:=by
 have hl : 0 < (cut 47 t).length:=List.length_pos_iff.2 (yZ 47 t)
 have e : (cut 47 t).length = ((cut 47 t).length - 1) + 1:=by omega
 rw [Gt h]
 conv=>rhs; rw [e,List.range_succ,List.map_append,List.reverse_append]
 simp only [List.map_cons,List.map_nil,List.reverse_cons,List.reverse_nil,List.nil_append,List.cons_append]
 congr 1
 have e2 : (cut 47 t).length - 1 + 1 = (cut 47 t).length:=by omega
 rw [e2,List.take_length,jT]
theorem Gj {t : List Nd} {p : List UInt8} (h : qI p = true) : Xg t p = (if (QP t p).2 = 0 then gt t (QP t p).1 else ⟨0,[],[],0⟩,(QP t p).2):=by
 have hway:=way_cut h
 have hparts:=Ya h
 unfold Xg QP
 rw [hway]
 have hlen : (((List.range (cut 47 p).length).map fun k=>vO ((cut 47 p).take (k + 1))).reverse).length = (cut 47 p).length:=by simp
 rw [hlen]
 have key : ∀ (d i : Nat),i + d = (cut 47 p).length→0 < d∨i = 0→YQ t (vO ((cut 47 p).take i)) ((cut 47 p).drop i) =
   (if (YC t (((List.range (cut 47 p).length).map fun k=>vO ((cut 47 p).take (k + 1))).reverse) d).2 = 0 then gt t (YC t (((List.range (cut 47 p).length).map fun k=>vO ((cut 47 p).take (k + 1))).reverse) d).1 else ⟨0,[],[],0⟩,
    (YC t (((List.range (cut 47 p).length).map fun k=>vO ((cut 47 p).take (k + 1))).reverse) d).2):=by
  intro d
  induction d with
  | zero=>
   intro i hi h0
   exfalso
   have:=List.length_pos_iff.2 (yZ 47 p)
   omega
  | succ d ih=>
   intro i hi _
   have hlt : i < (cut 47 p).length:=by omega
   have hw : (((List.range (cut 47 p).length).map fun k=>vO ((cut 47 p).take (k + 1))).reverse).getD d [] = vO ((cut 47 p).take (i + 1)):=by
    have h1 : d < (((List.range (cut 47 p).length).map fun k=>vO ((cut 47 p).take (k + 1))).reverse).length:=by rw [hlen]; omega
    rw [List.getD_eq_getElem?_getD,List.getElem?_eq_getElem h1]
    simp only [List.getElem_reverse,List.getElem_map,List.getElem_range,List.length_map,List.length_range,Option.getD_some]
    congr 2; omega
   have hj : VY (vO ((cut 47 p).take i)) (cut 47 p)[i] = vO ((cut 47 p).take (i + 1)):=by
    rw [GX _ (fun y hy=>hparts y (List.mem_of_mem_take hy)),List.take_succ_eq_append_getElem hlt]
   rw [List.drop_eq_getElem_cons hlt,YQ,hj,YC,hw]
   obtain ⟨q,hq⟩ : ∃ q,vO ((cut 47 p).take (i + 1)) = q:=⟨_,rfl⟩
   rw [hq]
   unfold Qw
   by_cases h1 : qC t q < 0
   ·simp [h1]
   ·simp only [h1,if_false]
    by_cases hd : d = 0
    ·have hnil : (cut 47 p).drop (i + 1) = []:=List.drop_of_length_le (by omega)
     simp [hd,hnil]
    ·have hnil : ¬ (cut 47 p).drop (i + 1) = []:=by
      intro e
      have:=congrArg List.length e
      simp at this; omega
     simp only [hnil,hd,if_false]
     by_cases h3 : (gt t (qC t q)).kind = 3
     ·simp only [h3,ne_eq,not_true_eq_false,if_false]
      rw [← hq]
      exact ih (i + 1) (by omega) (.inl (by omega))
     ·simp [h3]
 have:=key (cut 47 p).length 0 (by omega) (.inr rfl)
 simpa [vO] using this
def Gz : Nd:=⟨0,[],[],0⟩
def without (l : List Nd) (p : List UInt8) (self : Bool) : List Nd:=l.filter fun x=>!((decide (p = []) && !decide (x.path = [])) || y6 x.path p) && (!self || !decide (x.path = p))
end Go.UL
