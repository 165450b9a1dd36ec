import Derived.Test.YtdhmlillkbjjjaaGreatDoorvP10
set_option linter.unusedVariables false
set_option linter.unusedSimpArgs false
namespace Go.UL
open Go.RowKit
def Qu (n : Nd) : Rec:=⟨n.kind,n.path,n.body,n.mode,false⟩
def jl (r : Rec) : Nd:=⟨r.kind,r.path,r.body,r.mode⟩
def nodeOK (n : Nd) : Bool:=decide (qx (Qu n) = 0) && !decide (n.kind = 4)
def QS (t : List Nd) (p : List UInt8) : Bool:=decide (p = []) || (decide (0≤qU t p) && decide ((gt t (qU t p)).kind = 3))
def jQ (l : List Nd) (i : Nat) : Bool:=
 nodeOK (l.getD i default) && (decide (i = 0) || vy (cut 47 (l.getD (i - 1) default).path) (cut 47 (l.getD i default).path)) && QS (l.take i) (qd (l.getD i default).path)
def j5 (l : List Nd) : Bool:=decide (l.length≤24) && (List.range l.length).all (jQ l)
theorem find_false (n : Nat) (bad : Nat→Bool) : (List.range n).findSome? (fun i=>if bad i then some false else none) = if (List.range n).all (fun i=>!bad i) then none else some false:=by
 generalize List.range n = l
 induction l with
 | nil=>rfl
 | cons x l ih=>
  rcases qo (bad x) with hb | hb
  ·simp [hb]
  ·have : List.findSome? (fun i=>if bad i = true then some false else none) (x :: l) = List.findSome? (fun i=>if bad i = true then some false else none) l:=by simp [hb]
   rw [this,ih]
   simp [hb]
theorem QB {n : Nd} (h : nodeOK n = true) : qC n.path = true:=by
 simp only [nodeOK,Bool.and_eq_true,decide_eq_true_eq] at h
 exact vV h.1
theorem gtake {α : Type} [Inhabited α] (l : List α) (i : Nat) (k : Int) (h0 : 0≤k) (h : k < (l.take i).length) : gt (l.take i) k = gt l k:=by
 obtain ⟨n,rfl⟩ : ∃ n : Nat,k = n:=⟨k.toNat,by omega⟩
 have : n < i∧n < l.length:=by simp at h; omega
 simp only [yl,List.getD_eq_getElem?_getD,List.getElem?_take,this.1,if_true]
theorem JA (l : List Nd) (p : List UInt8) : qU l p < l.length:=JJ _ _
theorem findN_take {l : List Nd} {p : List UInt8} {i : Nat} (hi : i≤l.length) (h : ¬ qU (l.take i) p < 0) : inR (qU (l.take i) p) l.length = true:=by
 have h1:=JA (l.take i) p
 have h2 : (l.take i).length≤i:=by simp; omega
 exact Vl (by omega) (by omega)
theorem getN_mem {l : List Nd} {i : Nat} (h : i < l.length) : l.getD i default ∈ l:=by
 have : l.getD i default = l[i]:=by simp [List.getD_eq_getElem?_getD,List.getElem?_eq_getElem h]
 rw [this]; exact List.getElem_mem h
def Qx.sh (a0 : Nd) : Option (Rec):=
 some (⟨a0.kind,a0.path,a0.body,a0.mode,false⟩ : Rec)
theorem Qx.eq (a0 : Nd) : Qx.sh a0 = some (Qu a0):=rfl
def qM.b1 (a0 : List Nd) : Int→Option (Step (Bool) (Int) (Unit)):=
 fun x3_2=>bif (decide (x3_2 < (a0.length : Int))) then (bif inR x3_2 a0.length then (bif (!(!(decide (((gt a0 x3_2).kind) = 4))) || (inR x3_2 a0.length)) then (bif (!((!((decide (((gt a0 x3_2).kind) = 4)) || (!(decide (qx (Qu (gt a0 x3_2)) = 0))))) && (decide (0 < x3_2))) || (inR (IntKind.wrap .i64 (x3_2 - 1)) a0.length)) then (bif (!((!((decide (((gt a0 x3_2).kind) = 4)) || (!(decide (qx (Qu (gt a0 x3_2)) = 0))))) && (decide (0 < x3_2))) || (inR x3_2 a0.length)) then (bif (!((!((decide (((gt a0 x3_2).kind) = 4)) || (!(decide (qx (Qu (gt a0 x3_2)) = 0))))) && (decide (0 < x3_2))) || (decide (((gt a0 (IntKind.wrap .i64 (x3_2 - 1))).path).length≤1048576))) then (bif (!((!((decide (((gt a0 x3_2).kind) = 4)) || (!(decide (qx (Qu (gt a0 x3_2)) = 0))))) && (decide (0 < x3_2))) || (decide (((gt a0 x3_2).path).length≤1048576))) then (bif (((decide (((gt a0 x3_2).kind) = 4)) || (!(decide (qx (Qu (gt a0 x3_2)) = 0)))) || ((decide (0 < x3_2)) && (!(vy (cut 47 ((gt a0 (IntKind.wrap .i64 (x3_2 - 1))).path)) (cut 47 ((gt a0 x3_2).path)))))) then (some (.ret false)) else (bif inR x3_2 a0.length then (bif decide (((gt a0 x3_2).path).length≤4611686018427387904) then (bif (!decide ((qd ((gt a0 x3_2).path)) = ([] : List UInt8))) then (bif inS 0 x3_2 (a0.length : Int) then (bif decide ((sub a0 0 x3_2).length≤1048576) then (((bif (decide ((qU (sub a0 0 x3_2) (qd ((gt a0 x3_2).path))) < 0)) then some true else (bif inR (qU (sub a0 0 x3_2) (qd ((gt a0 x3_2).path))) a0.length then (some (!decide (((gt a0 (qU (sub a0 0 x3_2) (qd ((gt a0 x3_2).path)))).kind) = 3))) else none))).bind fun z103=>bif z103 then (some (.ret false)) else (some (.nxt (IntKind.wrap .i64 (x3_2 + 1))))) else none) else none) else (some (.nxt (IntKind.wrap .i64 (x3_2 + 1))))) else none) else none)) else none) else none) else none) else none) else none) else none) else (some (.brk ()))
def qM.sh (k : Nat) (a0 : List Nd) : Option (Bool):=
  bif (decide (24 < (a0.length : Int))) then (some false) else ((qt (qM.b1 a0) k 0).bind fun z=>match z with | .inl t=>some t | .inr _=>some true)
theorem qM.eq (a0 : List Nd) (h1 : ∀ x ∈ a0,x.path.length≤1048576) : ∃ k,qM.sh k a0 = some (j5 a0):=by
  refine ⟨a0.length + 1,?_⟩
  unfold qM.sh
  by_cases hl : a0.length≤24
  · have hl' : ¬ (24 : Int) < (a0.length : Int):=by omega
    simp only [hl',decide_false,cond_false]
    have hb : ∀ i : Nat,i < a0.length→qM.b1 a0 i = some (sc (if !jQ a0 i then some false else none : Option Bool) ((i : Int) + 1)):=by
      intro i hi
      have hp:=h1 _ (getN_mem hi)
      have hp2 : (a0.getD i default).path.length≤4611686018427387904:=by omega
      have hs : sub a0 0 ((i : Nat) : Int) = a0.take i:=by simp [sub]
      have hle : (a0.take i).length≤1048576:=by simp; omega
      simp only [qM.b1,y6,hi,decide_true,cond_true,qT hi,YZ,vX hi (by omega),Bool.or_true,hp,hp2,hs,hle,Vf (l:=0) (h:=(i : Int)) (n:=(a0.length : Int)) (by omega) (by omega) (by omega)]
      unfold jQ QS nodeOK
      obtain ⟨r,hr⟩ : ∃ r,a0.getD i default = r:=⟨_,rfl⟩
      simp only [hr] at hp hp2 ⊢
      cases c4 : decide (r.kind = 4) with
      | true=>simp
      | false=>
        by_cases cf : qx (Qu r) = 0
        · have key : ∀ q : Nd, (bif (decide (0 < (i : Int)) && !vy (cut 47 q.path) (cut 47 r.path)) then some (Step.ret false) else
              bif !decide (qd r.path = []) then
                ((bif decide (qU (a0.take i) (qd r.path) < 0) then some true else bif inR (qU (a0.take i) (qd r.path)) a0.length then some (!decide ((gt a0 (qU (a0.take i) (qd r.path))).kind = 3)) else none).bind fun z=>bif z then some (Step.ret false) else some (Step.nxt ((i : Int) + 1)))
              else some (Step.nxt ((i : Int) + 1))) =
              some (sc (if !((decide (i = 0) || vy (cut 47 q.path) (cut 47 r.path)) && (decide (qd r.path = []) || (decide (0≤qU (a0.take i) (qd r.path)) && decide ((gt (a0.take i) (qU (a0.take i) (qd r.path))).kind = 3)))) then some false else none : Option Bool) ((i : Int) + 1) : Step Bool Int Unit):=by
            intro q
            have e0 : decide (0 < (i : Int)) = !decide (i = 0):=by by_cases h : i = 0 <;> simp [h]; omega
            rw [e0]
            cases vy (cut 47 q.path) (cut 47 r.path) <;> cases decide (i = 0) <;> try simp
            all_goals
              by_cases hpp : qd r.path = []
              · simp [hpp]
              · by_cases hk : qU (a0.take i) (qd r.path) < 0
                · have hk2 : ¬ 0≤qU (a0.take i) (qd r.path):=by omega
                  simp [hpp,hk,hk2]
                · have hk2 : 0≤qU (a0.take i) (qd r.path):=by omega
                  rw [gtake a0 i _ hk2 (JA _ _)]
                  by_cases h3 : (gt a0 (qU (a0.take i) (qd r.path))).kind = 3 <;> simp [hpp,hk,hk2,findN_take (by omega : i≤a0.length) hk,h3]
          by_cases hz : i = 0
          · subst hz
            have:=key default
            simpa [cf] using this
          · have hi1 : i - 1 < a0.length:=by omega
            have hw : IntKind.wrap .i64 ((i : Int) - 1) = ((i - 1 : Nat) : Int):=by rw [wrap_small (by omega) (by omega)]; omega
            have hp3:=h1 _ (getN_mem hi1)
            have:=key (a0.getD (i - 1) default)
            simp only [hw,YZ,qT hi1,hp3,cf,decide_true,Bool.not_true,Bool.or_true,Bool.or_false,Bool.false_or,cond_true,cond_false,Bool.not_false,Bool.true_and]
            exact this
        · simp [cf]
    rw [jx a0.length _ hb (by simp [qM.b1]) _ (by omega),find_false]
    have e : (fun i=>!!jQ a0 i) = jQ a0:=by funext i; simp
    simp only [j5,hl,decide_true,Bool.true_and,e]
    cases (List.range a0.length).all (jQ a0) <;> simp
  · have hl' : (24 : Int) < (a0.length : Int):=by omega
    simp [hl',j5,hl]
def j1.sh (a0 : Nd) : Option (Rec):=
 some (⟨a0.kind,a0.path,a0.body,a0.mode,false⟩ : Rec)
theorem j1.eq (a0 : Nd) : j1.sh a0 = some (Qu a0):=rfl
def Vy.sh (a0 : Nd) : Option (Bool):=
 some ((decide (qx (Qu a0) = 0)) && (!decide (a0.kind = 4)))
theorem Vy.eq (a0 : Nd) : Vy.sh a0 = some (nodeOK a0):=rfl
def Vd.sh (a0 : List Nd) (a1 : List UInt8) : Option (Bool):=
 bif decide (a0.length≤1048576) then (((bif (decide (a1 = ([] : List UInt8))) then some true else (((bif (decide (0≤(qU a0 a1))) then (bif inR (qU a0 a1) a0.length then (some (decide (((gt a0 (qU a0 a1)).kind) = 3))) else none) else some false)).bind fun z6=>some z6))).bind fun z5=>some z5) else none
theorem Vd.eq (a0 : List Nd) (a1 : List UInt8) (h0 : a0.length≤1048576) : Vd.sh a0 a1 = some (QS a0 a1):=by
 unfold Vd.sh QS
 simp only [h0,decide_true,cond_true]
 by_cases hp : a1 = []
 ·simp [hp]
 ·by_cases hk : 0≤qU a0 a1
  ·simp [hp,hk,Vl hk (JA a0 a1)]
  ·simp [hp,hk]
def qK.b1 (a0 : List Nd) : Int→Option (Step (Bool) (Int) (Unit)):=
 fun x7_1=>bif (decide (x7_1 < (a0.length : Int))) then (bif inR x7_1 a0.length then (bif (!((!((decide (24≤x7_1)) || (!(nodeOK (gt a0 x7_1))))) && (decide (0 < x7_1))) || (inR (IntKind.wrap .i64 (x7_1 - 1)) a0.length)) then (bif (!(!(((decide (24≤x7_1)) || (!(nodeOK (gt a0 x7_1)))) || ((decide (0 < x7_1)) && (!(vO ((gt a0 (IntKind.wrap .i64 (x7_1 - 1))).path) ((gt a0 x7_1).path)))))) || (inS 0 x7_1 (a0.length : Int))) then (bif (!(!(((decide (24≤x7_1)) || (!(nodeOK (gt a0 x7_1)))) || ((decide (0 < x7_1)) && (!(vO ((gt a0 (IntKind.wrap .i64 (x7_1 - 1))).path) ((gt a0 x7_1).path)))))) || (decide (((gt a0 x7_1).path).length≤1048576))) then (bif (!(!(((decide (24≤x7_1)) || (!(nodeOK (gt a0 x7_1)))) || ((decide (0 < x7_1)) && (!(vO ((gt a0 (IntKind.wrap .i64 (x7_1 - 1))).path) ((gt a0 x7_1).path)))))) || (decide ((sub a0 0 x7_1).length≤1048576))) then (bif ((((decide (24≤x7_1)) || (!(nodeOK (gt a0 x7_1)))) || ((decide (0 < x7_1)) && (!(vO ((gt a0 (IntKind.wrap .i64 (x7_1 - 1))).path) ((gt a0 x7_1).path))))) || (!(QS (sub a0 0 x7_1) (qd ((gt a0 x7_1).path))))) then (some (.ret false)) else (some (.nxt (IntKind.wrap .i64 (x7_1 + 1))))) else none) else none) else none) else none) else none) else (some (.brk ()))
def qK.sh (k : Nat) (a0 : List Nd) : Option (Bool):=
  (qt (qK.b1 a0) k 0).bind fun z=>match z with | .inl t=>some t | .inr _=>some true
theorem qK.eq (a0 : List Nd) (h0 : a0.length≤1048576) (h1 : ∀ x ∈ a0,x.path.length≤1048576) : ∃ k,qK.sh k a0 = some (j5 a0):=by
 refine ⟨a0.length + 1,?_⟩
 unfold qK.sh
 have hb : ∀ i : Nat,i < a0.length→qK.b1 a0 i = some (sc (if (decide (24≤i) || !nodeOK (a0.getD i default)) || (!decide (i = 0) && !vO (a0.getD (i - 1) default).path (a0.getD i default).path) || !QS (a0.take i) (qd (a0.getD i default).path) then some false else none : Option Bool) ((i : Int) + 1)):=by
  intro i hi
  have hp:=h1 _ (getN_mem hi)
  have hs : sub a0 0 ((i : Nat) : Int) = a0.take i:=by simp [sub]
  have hle : (a0.take i).length≤1048576:=by simp; omega
  have e24 : decide ((24 : Int)≤(i : Int)) = decide (24≤i):=by rw [decide_eq_decide]; omega
  have e0 : decide (0 < (i : Int)) = !decide (i = 0):=by by_cases h : i = 0 <;> simp [h]; omega
  simp only [qK.b1,y6,hi,decide_true,cond_true,qT hi,YZ,vX hi (by omega),Bool.or_true,hp,hs,hle,Vf (l:=0) (h:=(i : Int)) (n:=(a0.length : Int)) (by omega) (by omega) (by omega),e24,e0]
  by_cases hz : i = 0
  ·subst hz
   simp only [Bool.not_true,Bool.false_and,Bool.and_false,Bool.not_false,Bool.true_or,cond_true,Bool.or_false,decide_true]
   cases (decide (24≤0) || !nodeOK (a0.getD 0 default)) || !QS (a0.take 0) (qd (a0.getD 0 default).path) <;> simp
  ·have hi1 : i - 1 < a0.length:=by omega
   have hw : IntKind.wrap .i64 ((i : Int) - 1) = ((i - 1 : Nat) : Int):=by rw [wrap_small (by omega) (by omega)]; omega
   simp only [hw,YZ,qT hi1,Bool.or_true,cond_true]
   cases (decide (24≤i) || !nodeOK (a0.getD i default)) || (!decide (i = 0) && !vO (a0.getD (i - 1) default).path (a0.getD i default).path) || !QS (a0.take i) (qd (a0.getD i default).path) <;> simp
 rw [jx a0.length _ hb (by simp [qK.b1]) _ (by omega),find_false]
 have e : (List.range a0.length).all (fun i=>!((decide (24≤i) || !nodeOK (a0.getD i default)) || (!decide (i = 0) && !vO (a0.getD (i - 1) default).path (a0.getD i default).path) || !QS (a0.take i) (qd (a0.getD i default).path))) = j5 a0:=by
  unfold j5
  rw [Bool.eq_iff_iff]
  simp only [List.all_eq_true,List.mem_range,Bool.and_eq_true,decide_eq_true_eq,Bool.not_eq_true',Bool.or_eq_false_iff,decide_eq_false_iff_not,Bool.not_eq_false',Bool.and_eq_false_iff]
  constructor
  ·intro h
   have hn : ∀ i,i < a0.length→nodeOK (a0.getD i default) = true:=fun i hi=>(h i hi).1.1.2
   refine ⟨?_,fun i hi=>?_⟩
   ·by_cases hc : a0.length≤24
    ·exact hc
    ·exact absurd (h 24 (by omega)).1.1.1 (by omega)
   ·have hi':=h i hi
    unfold jQ
    rw [hi'.1.1.2,hi'.2]
    rcases hi'.1.2 with h2 | h2
    ·simp [h2]
    ·simp only [vO,Bool.and_eq_true] at h2
     rw [h2.2]; simp
  ·rintro ⟨hl,h⟩ i hi
   have hi':=h i hi
   unfold jQ at hi'
   simp only [Bool.and_eq_true,Bool.or_eq_true,decide_eq_true_eq] at hi'
   refine ⟨⟨⟨by omega,hi'.1.1⟩,?_⟩,hi'.2⟩
   by_cases hz : i = 0
   ·exact Or.inl hz
   ·right
    have hprev:=h (i - 1) (by omega)
    unfold jQ at hprev
    simp only [Bool.and_eq_true] at hprev
    rcases hi'.1.2 with h2 | h2
    ·exact absurd h2 hz
    ·rw [vO,QB hprev.1.1,QB hi'.1.1,h2]; rfl
 rw [e]
 cases j5 a0 <;> simp
theorem JG {α β T : Type} (xs : List α) (g : α→Option β) (b : List β × Int→Option (Step T (List β × Int) (List β)))
  (hb : ∀ (i : Nat) (h : i < xs.length) (acc : List β),acc.length≤i→b (acc,(i : Int)) = some (.nxt (acc ++ (g xs[i]).toList,(i : Int) + 1))) (hn : ∀ acc : List β,b (acc,(xs.length : Int)) = some (.brk acc)) :
  qt b (xs.length + 1) ([],0) = some (.inr (xs.filterMap g)):=by
 have key : ∀ d i k (acc : List β),i + d = xs.length→d < k→acc.length≤i→qt b k (acc,(i : Int)) = some (.inr (acc ++ (xs.drop i).filterMap g)):=by
  intro d
  induction d with
  | zero=>
   intro i k acc hi hk _
   obtain ⟨k,rfl⟩ : ∃ j,k = j + 1:=⟨k - 1,by omega⟩
   have : i = xs.length:=by omega
   subst this
   simp [qt,hn]
  | succ d ih=>
   intro i k acc hi hk ha
   obtain ⟨k,rfl⟩ : ∃ j,k = j + 1:=⟨k - 1,by omega⟩
   have hlt : i < xs.length:=by omega
   rw [qt,hb i hlt acc ha]
   simp only [Option.bind_some]
   have hl : (acc ++ (g xs[i]).toList).length≤i + 1:=by cases g xs[i] <;> simp <;> omega
   have:=ih (i + 1) k (acc ++ (g xs[i]).toList) (by omega) (by omega) hl
   rw [Int.natCast_add,Int.natCast_one] at this
   have e : (xs.drop i).filterMap g = (g xs[i]).toList ++ (xs.drop (i + 1)).filterMap g:=by
    rw [List.drop_eq_getElem_cons hlt,List.filterMap_cons]
    cases g xs[i] <;> rfl
   rw [e,← List.append_assoc]
   exact this
 have:=key xs.length 0 (xs.length + 1) [] (by omega) (by omega) (by simp)
 simpa using this
theorem filterMap_if {α β : Type} (q : α→Bool) (f : α→β) (l : List α) : l.filterMap (fun x=>if q x then some (f x) else none) = (l.filter q).map f:=by
 induction l with
 | nil=>rfl
 | cons x l ih=>
  rcases qo (q x) with h | h <;> simp [h,ih]
theorem yh {α : Type} [Inhabited α] {l : List α} {i : Nat} (h : i < l.length) : l.getD i default = l[i]:=by simp [List.getD_eq_getElem?_getD,List.getElem?_eq_getElem h]
theorem QE {t : List UInt8} (h : t ≠ []) : (qd t).length < t.length:=by
 have h1:=Gz t
 have h2:=Gw t
 have h3 : 0 < t.length:=by cases t with | nil=>exact absurd rfl h | cons _ _=>simp
 simp [qd]; omega
def GH : Nat→List UInt8→List (List UInt8)
 | 0,_=>[]
 | n + 1,t=>if qd t = [] then [] else qd t :: GH n (qd t)
def yq (t : List UInt8) : List (List UInt8):=GH t.length t
theorem j0 : qd [] = []:=rfl
theorem ancsF_succ : ∀ (c : Nat) (v : List UInt8),v.length≤c→GH c v = GH (c + 1) v:=by
 intro c
 induction c with
 | zero=>intro v hv; have : v = []:=List.eq_nil_of_length_eq_zero (by omega); subst this; simp [GH,j0]
 | succ c ihc=>
  intro v hv
  rw [GH,GH]
  by_cases hpv : qd v = []
  ·simp [hpv]
  ·simp only [hpv,if_false]
   have hvne : v ≠ []:=by intro e; subst e; exact hpv j0
   have:=QE hvne
   rw [ihc (qd v) (by omega)]
theorem Gp (d : Nat) (t : List UInt8) : GH (t.length + d) t = yq t:=by
 induction d with
 | zero=>rfl
 | succ d ih=>rw [← ih,show t.length + (d + 1) = (t.length + d) + 1 by omega]; exact (ancsF_succ _ _ (by omega)).symm
theorem Qh (t : List UInt8) : yq t = if qd t = [] then [] else qd t :: yq (qd t):=by
 have h:=Gp 1 t
 rw [← h,GH]
 by_cases hp : qd t = []
 ·simp [hp]
 ·simp only [hp,if_false]
  have hne : t ≠ []:=by intro e; subst e; exact hp j0
  have:=QE hne
  have h2:=Gp (t.length - (qd t).length) (qd t)
  rw [show (qd t).length + (t.length - (qd t).length) = t.length by omega] at h2
  rw [h2]
theorem ancs_bound : ∀ (n : Nat) (t : List UInt8),t.length≤n→(yq t).length≤t.length∧∀ x ∈ yq t,x.length≤t.length∧x ≠ []:=by
 intro n
 induction n with
 | zero=>intro t h; have : t = []:=List.eq_nil_of_length_eq_zero (by omega); subst this; exact ⟨by decide,by intro x hx; have e : yq [] = []:=rfl; rw [e] at hx; cases hx⟩
 | succ n ih=>
  intro t h
  rw [Qh]
  by_cases hp : qd t = []
  ·simp [hp]
  ·have hne : t ≠ []:=by intro e; subst e; exact hp j0
   have hlt:=QE hne
   obtain ⟨h1,h2⟩:=ih (qd t) (by omega)
   simp only [hp,if_false,List.length_cons,List.mem_cons]
   refine ⟨by omega,?_⟩
   rintro x (rfl | hx)
   ·exact ⟨by omega,hp⟩
   ·have:=h2 x hx; exact ⟨by omega,this.2⟩
theorem ancs_len (t : List UInt8) : (yq t).length≤t.length:=(ancs_bound _ t (Nat.le_refl _)).1
theorem anc_run (q : List UInt8→Bool) (b : List UInt8→Option (Step Bool (List UInt8) Unit)) (hb : ∀ x : List UInt8,x ≠ []→x.length≤1048576→b x = some (if q x then .ret true else .nxt (qd x))) (hn : b [] = some (.brk ())) :
  ∀ (n : Nat) (t : List UInt8) (k : Nat),(qd t).length≤n→n < k→(qd t).length≤1048576→qt b k (qd t) = some (if (yq t).any q then .inl true else .inr ()):=by
 intro n
 induction n with
 | zero=>
  intro t k h hk _
  obtain ⟨k,rfl⟩ : ∃ j,k = j + 1:=⟨k - 1,by omega⟩
  have hp : qd t = []:=List.eq_nil_of_length_eq_zero (by omega)
  rw [Qh,hp,qt,hn]; simp
 | succ n ih=>
  intro t k h hk hl
  obtain ⟨k,rfl⟩ : ∃ j,k = j + 1:=⟨k - 1,by omega⟩
  by_cases hp : qd t = []
  ·rw [Qh,hp,qt,hn]; simp
  ·rw [Qh,qt,hb _ hp hl]
   have hlt:=QE hp
   simp only [hp,if_false,List.any_cons]
   rcases qo (q (qd t)) with hq | hq
   ·simp [hq]
   ·simp only [hq,Bool.false_eq_true,if_false,Option.bind_some,Bool.false_or]
    exact ih (qd t) k (by omega) (by omega) (by omega)
def jP (r : Rec) : Bool:=!decide (r.kind = 3) || r.opq
def yi (l : List Rec) (p : List UInt8) : Bool:=(yq p).any fun x=>decide (0≤qJ l x) && (gt l (qJ l x)).opq
def Vn (l : List Rec) (p : List UInt8) : Bool:=(yq p).any fun x=>decide (0≤qJ l x) && jP (gt l (qJ l x))
def Jb (l : List Rec) (h : Rec→Option Bool) (p : List UInt8) : Option Bool:=(h (gt l (qJ l p))).bind fun z=>some (decide (0≤qJ l p) && z)
theorem G4 {l : List Rec} {p : List UInt8} (h : 0≤qJ l p) : inR (qJ l p) l.length = true:=findR_in (by omega)
def yD.b1 (a0 : List Rec) : List UInt8→Option (Step (Bool) (List UInt8) (Unit)):=
 fun x5_4=>bif (!decide (x5_4 = ([] : List UInt8))) then (bif decide (a0.length≤1048576) then (((bif (decide (0≤(qJ a0 x5_4))) then (bif inR (qJ a0 x5_4) a0.length then (some ((gt a0 (qJ a0 x5_4)).opq)) else none) else some false)).bind fun z26=>bif z26 then (some (.ret true)) else (bif decide (x5_4.length≤4611686018427387904) then (some (.nxt (qd x5_4))) else none)) else none) else (some (.brk ()))
def yD.sh (k : Nat) (a0 : List Rec) (a1 : List UInt8) : Option (Bool):=
  bif decide (a1.length≤4611686018427387904) then ((qt (yD.b1 a0) k (qd a1)).bind fun z=>match z with | .inl t=>some t | .inr _=>some false) else none
theorem yD.eq (a0 : List Rec) (a1 : List UInt8) (h0 : a0.length≤1048576) (h1 : a1.length≤1048576) : ∃ k,yD.sh k a0 a1 = some (yi a0 a1):=by
 refine ⟨a1.length + 1,?_⟩
 have hl:=Jz a1
 have h2 : a1.length≤4611686018427387904:=by omega
 unfold yD.sh
 rw [anc_run (fun x=>decide (0≤qJ a0 x) && (gt a0 (qJ a0 x)).opq) (yD.b1 a0) (fun x hx hx2=>by
  have h3 : x.length≤4611686018427387904:=by omega
  simp only [yD.b1,hx,decide_false,Bool.not_false,cond_true,h0,decide_true,h3]
  by_cases hk : 0≤qJ a0 x
  ·simp only [hk,decide_true,cond_true,G4 hk,Bool.true_and,Option.bind_some]
   cases (gt a0 (qJ a0 x)).opq <;> simp
  ·simp [hk]) (by simp [yD.b1]) a1.length a1 (a1.length + 1) hl (by omega) (by omega)]
 simp only [h2,decide_true,cond_true,Option.bind_some]
 unfold yi
 cases (yq a1).any fun x=>decide (0≤qJ a0 x) && (gt a0 (qJ a0 x)).opq <;> simp
def vH.b1  : List UInt8 × List (List UInt8)→Option (Step (List (List UInt8)) (List UInt8 × List (List UInt8)) (List (List UInt8))):=
 fun q=>match q with
 | (x0_10,x3_11)=>bif (!decide (x0_10 = ([] : List UInt8))) then (bif decide ((x3_11.length + ([x0_10] : List (List UInt8)).length) * 16≤140737488355328) then (bif decide (x0_10.length≤1048576) then (some (.nxt ((qd x0_10),x3_11 ++ ([x0_10] : List (List UInt8))))) else none) else none) else (some (.brk x3_11))
def vH.sh (k : Nat) (a0 : List UInt8) : Option (List (List UInt8)):=
  bif decide (a0.length≤1048576) then ((qt (vH.b1) k ((qd a0),([] : List (List UInt8)))).bind fun z=>match z with | .inl t=>some t | .inr x3_16=>some x3_16) else none
theorem vH.eq (a0 : List UInt8) (h0 : a0.length≤1048576) : ∃ k,vH.sh k a0 = some (yq a0):=by
 refine ⟨a0.length + 1,?_⟩
 have key : ∀ (n : Nat) (t : List UInt8) (k : Nat) (acc : List (List UInt8)),(qd t).length≤n→n < k→acc.length + (qd t).length≤1048576→qt vH.b1 k (qd t,acc) = some (.inr (acc ++ yq t)):=by
  intro n
  induction n with
  | zero=>
   intro t k acc h hk _
   obtain ⟨k,rfl⟩ : ∃ j,k = j + 1:=⟨k - 1,by omega⟩
   have hp : qd t = []:=List.eq_nil_of_length_eq_zero (by omega)
   rw [Qh,hp,qt]; simp [vH.b1]
  | succ n ih=>
   intro t k acc h hk hl
   obtain ⟨k,rfl⟩ : ∃ j,k = j + 1:=⟨k - 1,by omega⟩
   by_cases hp : qd t = []
   ·rw [Qh,hp,qt]; simp [vH.b1]
   ·have hlt:=QE hp
    have e1 : (acc.length + ([qd t] : List (List UInt8)).length) * 16≤140737488355328:=by simp; omega
    have e2 : (qd t).length≤1048576:=by omega
    rw [Qh t,qt]
    simp only [vH.b1,hp,decide_false,Bool.not_false,cond_true,e1,e2,decide_true,if_false,Option.bind_some]
    have:=ih (qd t) k (acc ++ [qd t]) (by omega) (by omega) (by simp; omega)
    rw [show qt vH.b1 k (qd (qd t),acc ++ [qd t]) = _ from this]
    simp
 have hl:=Jz a0
 unfold vH.sh
 rw [key a0.length a0 (a0.length + 1) [] hl (by omega) (by simp; omega)]
 simp [h0]
def jD.sh (a0 : List UInt8) (a1 : List Rec) (a2 : Rec→Option Bool) : Option (Bool):=
 bif decide (a1.length≤1048576) then (bif (!(decide (0≤(qJ a1 a0))) || (inR (qJ a1 a0) a1.length)) then ((a2 (gt a1 (qJ a1 a0))).bind fun z7=>some ((decide (0≤(qJ a1 a0))) && z7)) else none) else none
theorem jD.eq (a0 : List UInt8) (a1 : List Rec) (a2 : Rec→Option Bool) (h0 : a1.length≤1048576) {r : Bool} (H : Jb a1 a2 a0 = some r) : jD.sh a0 a1 a2 = some r:=by
 unfold jD.sh
 have h1 : (!decide (0≤qJ a1 a0) || inR (qJ a1 a0) a1.length) = true:=by
  by_cases hk : 0≤qJ a1 a0
  ·simp [G4 hk]
  ·simp [hk]
 rw [h1]
 simp only [h0,decide_true,cond_true]
 exact H
def Qp.sh (a0 : List Rec) (a1 : List UInt8) (a2 : Rec→Option Bool) : Option (Bool):=
 bif decide (a1.length≤1048576) then (bif decide ((yq a1).length≤4611686018427387904) then (((YQ (fun (x0_ : List UInt8)=>bif decide (a0.length≤1048576) then (Jb a0 a2 x0_) else none) (yq a1))).bind fun z23=>some z23) else none) else none
theorem Qp.eq (a0 : List Rec) (a1 : List UInt8) (a2 : Rec→Option Bool) (h0 : a0.length≤1048576) (h1 : a1.length≤1048576) {r : Bool} (H : YQ (Jb a0 a2) (yq a1) = some r) : Qp.sh a0 a1 a2 = some r:=by
 have hl:=ancs_len a1
 have h2 : (yq a1).length≤4611686018427387904:=by omega
 unfold Qp.sh
 simp only [h0,h1,h2,decide_true,cond_true]
 rw [show (YQ (fun (x0_ : List UInt8)=>Jb a0 a2 x0_) (yq a1)) = some r from H]; rfl
theorem anyO_above (l : List Rec) (q : Rec→Bool) (p : List UInt8) : YQ (Jb l (fun x=>some (q x))) (yq p) = some ((yq p).any fun x=>decide (0≤qJ l x) && q (gt l (qJ l x))):=anyO_some fun x _=>rfl
def yF.sh (a0 : Rec) : Option (Bool):=
 some a0.opq
theorem yF.eq (a0 : Rec) : yF.sh a0 = some a0.opq:=rfl
def jw.sh (a0 : List Rec) (a1 : List UInt8) : Option (Bool):=
 bif decide (a0.length≤1048576) then (bif decide (a1.length≤1048576) then (((YQ (Jb a0 (fun (x0_ : Rec)=>some x0_.opq)) (yq a1))).bind fun z7=>some z7) else none) else none
theorem jw.eq (a0 : List Rec) (a1 : List UInt8) (h0 : a0.length≤1048576) (h1 : a1.length≤1048576) : jw.sh a0 a1 = some (yi a0 a1):=by
 unfold jw.sh
 simp only [h0,h1,decide_true,cond_true,anyO_above a0 (fun x=>x.opq) a1,Option.bind_some]; rfl
theorem jo {p : List UInt8} (h : qC p = true) : p.length≤1048576:=by have:=Vb h; omega
theorem Va {l : List Rec} (h : (qn l).2 = 0) : ∀ i,i < l.length→jk l i = 0:=by
 unfold qn at h
 cases hf : (List.range l.length).findSome? (fun i=>if jk l i = 0 then none else some ((i : Int),jk l i)) with
 | none=>
  intro i hi
  have:=List.findSome?_eq_none_iff.1 hf i (List.mem_range.2 hi)
  by_cases hc : jk l i = 0
  ·exact hc
  ·simp [hc] at this
 | some x=>
  rw [hf] at h
  obtain ⟨i,_,hi⟩:=List.exists_of_findSome?_eq_some hf
  by_cases hc : jk l i = 0
  ·simp [hc] at hi
  ·simp only [hc,if_false,Option.some.injEq] at hi
   subst hi
   exact absurd h hc
theorem layerFault_of {l : List Rec} (h : ∀ i,i < l.length→jk l i = 0) : qn l = (0,0):=by
 unfold qn
 have : (List.range l.length).findSome? (fun i=>if jk l i = 0 then none else some ((i : Int),jk l i)) = none:=by
  apply List.findSome?_eq_none_iff.2
  intro i hi
  simp [h i (List.mem_range.1 hi)]
 rw [this]
theorem Xo {l : List Rec} (h : (qn l).2 = 0) : ∀ x ∈ l,qx x = 0:=by
 intro x hx
 obtain ⟨i,hi,rfl⟩:=List.getElem_of_mem hx
 have:=XU (Va h i hi)
 rwa [yh hi] at this
theorem jS {l : List Rec} (h : (qn l).2 = 0) : ∀ x ∈ l,qC x.path = true:=fun x hx=>vV (Xo h x hx)
theorem je {l : List Rec} (h : (qn l).2 = 0) : l.length≤16:=by
 by_cases hc : l.length≤16
 ·exact hc
 ·have:=Va h 16 (by omega)
  simp [jk] at this
theorem Jh {p : List UInt8} (h : qC p = true) : (cut 47 p).length≤4:=by
 simp only [qC,Bool.and_eq_true,decide_eq_true_eq] at h
 exact h.2.1
def js (l : List Rec) (r : Rec) : Option Rec:=
 if yi l r.path then (if r.kind = 4 then none else some ⟨r.kind,r.path,r.body,r.mode,false⟩) else some ⟨r.kind,r.path,r.body,r.mode,r.opq && decide ((cut 47 r.path).length < 4)⟩
def qb (l : List Rec) : List Rec:=l.filterMap (js l)
theorem Yt (l : List Rec) : (qb l).length≤l.length:=List.length_filterMap_le _ _
def vQ.b1 (a0 : List Rec) : List Rec × Int→Option (Step (List Rec) (List Rec × Int) (List Rec)):=
 fun q=>match q with
 | (x3_7,x4_9)=>bif (decide (x4_9 < (a0.length : Int))) then (bif inR x4_9 a0.length then (bif decide (a0.length≤1048576) then (bif decide (((gt a0 x4_9).path).length≤1048576) then (bif (!(yi a0 ((gt a0 x4_9).path))) then (((bif ((gt a0 x4_9).opq) then (bif decide (((gt a0 x4_9).path).length≤1048576) then (some (decide (((cut 47 ((gt a0 x4_9).path)).length : Int) < 4))) else none) else some false)).bind fun z49=>bif decide ((x3_7.length + ([(⟨(gt a0 x4_9).kind,(gt a0 x4_9).path,(gt a0 x4_9).body,(gt a0 x4_9).mode,z49⟩ : Rec)] : List Rec).length) * 56≤140737488355328) then (some (.nxt (x3_7 ++ ([(⟨(gt a0 x4_9).kind,(gt a0 x4_9).path,(gt a0 x4_9).body,(gt a0 x4_9).mode,z49⟩ : Rec)] : List Rec),IntKind.wrap .i64 (x4_9 + 1)))) else none) else (bif (!decide (((gt a0 x4_9).kind) = 4)) then (bif decide ((x3_7.length + ([(⟨(gt a0 x4_9).kind,(gt a0 x4_9).path,(gt a0 x4_9).body,(gt a0 x4_9).mode,false⟩ : Rec)] : List Rec).length) * 56≤140737488355328) then (some (.nxt (x3_7 ++ ([(⟨(gt a0 x4_9).kind,(gt a0 x4_9).path,(gt a0 x4_9).body,(gt a0 x4_9).mode,false⟩ : Rec)] : List Rec),IntKind.wrap .i64 (x4_9 + 1)))) else none) else (some (.nxt (x3_7,IntKind.wrap .i64 (x4_9 + 1)))))) else none) else none) else none) else (some (.brk x3_7))
def vQ.sh (k : Nat) (a0 : List Rec) : Option (List Rec):=
  (qt (vQ.b1 a0) k (([] : List Rec),0)).bind fun z=>match z with | .inl t=>some t | .inr x3_13=>some x3_13
theorem vQ.eq (a0 : List Rec) (h0 : a0.length≤1048576) (h1 : ∀ x ∈ a0,qC x.path = true) : ∃ k,vQ.sh k a0 = some (qb a0):=by
 refine ⟨a0.length + 1,?_⟩
 unfold vQ.sh
 rw [JG a0 (js a0) (vQ.b1 a0) (fun i hi acc ha=>by
  have hp:=jo (h1 _ (List.getElem_mem hi))
  have e1 : ∀ z : Rec,(acc.length + ([z] : List Rec).length) * 56≤140737488355328:=fun z=>by simp; omega
  have e4 : decide (((cut 47 a0[i].path).length : Int) < 4) = decide ((cut 47 a0[i].path).length < 4):=by rw [decide_eq_decide]; omega
  simp only [vQ.b1,y6,hi,decide_true,cond_true,qT hi,yl,yh hi,h0,hp,e1,e4,vX hi (by omega),js]
  rcases qo (yi a0 a0[i].path) with hu | hu
  ·by_cases hk : a0[i].kind = 4 <;> simp [hu,hk]
  ·rcases qo a0[i].opq with ho | ho <;> simp [hu,ho]) (fun acc=>by simp [vQ.b1])]
 simp [qb]
def vE.b1 (a0 : List Rec) : List Rec × Int→Option (Step (List Rec) (List Rec × Int) (List Rec)):=
 fun q=>match q with
 | (x3_7,x10_9)=>bif (decide (x10_9 < (a0.length : Int))) then (bif inR x10_9 a0.length then (bif decide (a0.length≤1048576) then (bif decide (((gt a0 x10_9).path).length≤1048576) then (bif ((yi a0 ((gt a0 x10_9).path)) && (decide (((gt a0 x10_9).kind) = 4))) then (some (.nxt (x3_7,IntKind.wrap .i64 (x10_9 + 1)))) else (((bif (yi a0 ((gt a0 x10_9).path)) then some true else (bif decide (((gt a0 x10_9).path).length≤1048576) then (some (decide (((cut 47 ((gt a0 x10_9).path)).length : Int) = 4))) else none))).bind fun z55=>bif z55 then (bif decide ((x3_7.length + ([(⟨(gt a0 x10_9).kind,(gt a0 x10_9).path,(gt a0 x10_9).body,(gt a0 x10_9).mode,false⟩ : Rec)] : List Rec).length) * 56≤140737488355328) then (some (.nxt (x3_7 ++ ([(⟨(gt a0 x10_9).kind,(gt a0 x10_9).path,(gt a0 x10_9).body,(gt a0 x10_9).mode,false⟩ : Rec)] : List Rec),IntKind.wrap .i64 (x10_9 + 1)))) else none) else (bif decide ((x3_7.length + ([(gt a0 x10_9)] : List Rec).length) * 56≤140737488355328) then (some (.nxt (x3_7 ++ ([(gt a0 x10_9)] : List Rec),IntKind.wrap .i64 (x10_9 + 1)))) else none))) else none) else none) else none) else (some (.brk x3_7))
def vE.sh (k : Nat) (a0 : List Rec) : Option (List Rec):=
  (qt (vE.b1 a0) k (([] : List Rec),0)).bind fun z=>match z with | .inl t=>some t | .inr x3_13=>some x3_13
theorem vE.eq (a0 : List Rec) (h0 : a0.length≤1048576) (h1 : ∀ x ∈ a0,qC x.path = true) : ∃ k,vE.sh k a0 = some (qb a0):=by
 refine ⟨a0.length + 1,?_⟩
 unfold vE.sh
 rw [JG a0 (js a0) (vE.b1 a0) (fun i hi acc ha=>by
  have hpo:=h1 _ (List.getElem_mem hi)
  have hp:=jo hpo
  have hd:=Jh hpo
  have e1 : ∀ z : Rec,(acc.length + ([z] : List Rec).length) * 56≤140737488355328:=fun z=>by simp; omega
  have e4 : decide (((cut 47 a0[i].path).length : Int) = 4) = !decide ((cut 47 a0[i].path).length < 4):=by
   by_cases h : (cut 47 a0[i].path).length < 4
   ·have : ¬ ((cut 47 a0[i].path).length : Int) = 4:=by omega
    simp [h,this]
   ·have : ((cut 47 a0[i].path).length : Int) = 4:=by omega
    simp [h,this]
  simp only [vE.b1,y6,hi,decide_true,cond_true,qT hi,yl,yh hi,h0,hp,e1,e4,vX hi (by omega),js]
  rcases qo (yi a0 a0[i].path) with hu | hu
  ·by_cases hk : a0[i].kind = 4 <;> simp [hu,hk]
  ·by_cases h4 : (cut 47 a0[i].path).length < 4 <;> simp [hu,h4]) (fun acc=>by simp [vE.b1])]
 simp [qb]
def pairCode (a b : List Rec) : Int:=if decide (4096 < a.length) || decide (4096 < b.length) then 2 else if !decide ((qn a).2 = 0) || !decide ((qn b).2 = 0) then 1 else 0
theorem Y0 {a b : List Rec} (h : pairCode a b = 0) : (qn a).2 = 0∧(qn b).2 = 0:=by
 unfold pairCode at h
 split at h
 ·cases h
 ·split at h
  ·cases h
  ·rename_i h1
   simpa using h1
def jL (a b : List Rec) : Bool × Int:=if pairCode a b = 0 then (decide (qb a = qb b),0) else (false,pairCode a b)
def Qi.sh (a0 : List Rec) (a1 : List Rec) : Option (Bool × Int):=
 bif ((decide (4096 < (a0.length : Int))) || (decide (4096 < (a1.length : Int)))) then (some (false,2)) else (bif decide (a0.length≤1048576) then (bif decide (∀ x ∈ a0,x.path.length≤1048576) then (((bif (!(decide ((qn a0).2 = 0))) then some true else (bif decide (a1.length≤1048576) then (bif decide (∀ x ∈ a1,x.path.length≤1048576) then (some (!(decide ((qn a1).2 = 0)))) else none) else none))).bind fun z13=>bif z13 then (some (false,1)) else (bif decide (a0.length≤1048576) then (bif decide (∀ x ∈ a0,qC x.path = true) then (bif decide (a1.length≤1048576) then (bif decide (∀ x ∈ a1,qC x.path = true) then (bif decide ((qb a0).length≤1048576) then (some ((decide ((qb a0) = (qb a1))),0)) else none) else none) else none) else none) else none)) else none) else none)
theorem Qi.eq (a0 a1 : List Rec) (h0 : a0.length≤1048576) (h1 : a1.length≤1048576) (h2 : ∀ x ∈ a0,x.path.length≤1048576) (h3 : ∀ x ∈ a1,x.path.length≤1048576) : Qi.sh a0 a1 = some ((jL a0 a1).1,(jL a0 a1).2):=by
 unfold Qi.sh jL pairCode
 rw [len4096,len4096]
 by_cases h : (decide (4096 < a0.length) || decide (4096 < a1.length)) = true
 ·simp [h]
 ·simp only [h,h0,h1,decide_true,cond_false,cond_true,if_false,decide_eq_true h2,decide_eq_true h3,Bool.false_eq_true]
  by_cases hf : (qn a0).2 = 0
  ·by_cases hg : (qn a1).2 = 0
   ·have:=Yt a0
    have h4 : (qb a0).length≤1048576:=by omega
    simp [hf,hg,decide_eq_true (jS hf),decide_eq_true (jS hg),h4]
   ·simp [hf,hg]
  ·simp [hf]
def Qk.sh (a0 : List Rec) (a1 : List Rec) : Option (Int):=
 bif decide (a0.length≤1048576) then (bif decide (∀ x ∈ a0,x.path.length≤1048576) then (((bif (!(decide ((vf a0).2 = 0))) then some true else (bif decide (a1.length≤1048576) then (bif decide (∀ x ∈ a1,x.path.length≤1048576) then (some (!(decide ((vf a1).2 = 0)))) else none) else none))).bind fun z14=>bif decide (([.inl ((decide (4096 < a0.length)) || (decide (4096 < a1.length))),.inr 2,.inl z14,.inr 1] : List (Bool ⊕ Int)).length≤4611686018427387904) then ((some (vY ([.inl ((decide (4096 < a0.length)) || (decide (4096 < a1.length))),.inr 2,.inl z14,.inr 1] : List (Bool ⊕ Int)))).bind fun z31=>some z31) else none) else none) else none
theorem Qk.eq (a0 a1 : List Rec) (h0 : a0.length≤1048576) (h1 : a1.length≤1048576) (h2 : ∀ x ∈ a0,x.path.length≤1048576) (h3 : ∀ x ∈ a1,x.path.length≤1048576) : Qk.sh a0 a1 = some (pairCode a0 a1):=by
 unfold Qk.sh pairCode vf
 simp only [h0,h1,decide_true,cond_true,decide_eq_true h2,decide_eq_true h3,JW,List.length_cons,List.length_nil,vY,XA,anyI]
 by_cases h : 4096 < a0.length
 ·simp [h]
 ·by_cases h' : 4096 < a1.length
  ·by_cases hf : (qn a0).2 = 0 <;> simp [h,h',hf]
  ·by_cases hf : (qn a0).2 = 0
   ·by_cases hg : (qn a1).2 = 0
    ·simp [h,h',hf,hg]
    ·simp [h,h',hf,hg]
   ·simp [h,h',hf]
def Qn.sh (a0 : List Rec) (a1 : List Rec) : Option (Bool × Int):=
 bif decide (a0.length≤1048576) then (bif decide (a1.length≤1048576) then (bif decide (∀ x ∈ a0,x.path.length≤1048576) then (bif decide (∀ x ∈ a1,x.path.length≤1048576) then (bif (!decide ((pairCode a0 a1) = 0)) then (some (false,(pairCode a0 a1))) else (bif decide (a0.length≤1048576) then (bif decide (∀ x ∈ a0,qC x.path = true) then (bif decide (a1.length≤1048576) then (bif decide (∀ x ∈ a1,qC x.path = true) then (bif decide ((qb a0).length≤1048576) then (some ((decide ((qb a0) = (qb a1))),0)) else none) else none) else none) else none) else none)) else none) else none) else none) else none
theorem Qn.eq (a0 a1 : List Rec) (h0 : a0.length≤1048576) (h1 : a1.length≤1048576) (h2 : ∀ x ∈ a0,x.path.length≤1048576) (h3 : ∀ x ∈ a1,x.path.length≤1048576) : Qn.sh a0 a1 = some ((jL a0 a1).1,(jL a0 a1).2):=by
 unfold Qn.sh jL
 by_cases hp : pairCode a0 a1 = 0
 ·obtain ⟨hf,hg⟩:=Y0 hp
  have:=Yt a0
  have h4 : (qb a0).length≤1048576:=by omega
  simp [h0,h1,decide_eq_true h2,decide_eq_true h3,hp,decide_eq_true (jS hf),decide_eq_true (jS hg),h4]
 ·simp [h0,h1,decide_eq_true h2,decide_eq_true h3,hp]
def jz.sh (a0 : List Nd) : Option (Bool):=
 some (decide (4096 < (a0.length : Int)))
theorem jz.eq (a0 : List Nd) : jz.sh a0 = some (decide (4096 < a0.length)):=by
 have : (4096 : Int) < (a0.length : Int) ↔ 4096 < a0.length:=by omega
 simp [jz.sh,this]
def YL (l : List (List Rec)) : Bool:=decide (l.length≤5) && l.all fun x=>decide ((qn x).2 = 0)
theorem G8 (l : List Rec) : decide ((vf l).2 = 0) = decide ((qn l).2 = 0):=by
 unfold vf
 by_cases h : 4096 < l.length
 ·have : ¬ (qn l).2 = 0:=fun hf=>by have:=je hf; omega
  simp [h,this]
 ·simp [h]
def YD (t : List Nd) (p : List UInt8) (i : Nat) : Option (Int × Int):=
 if qU t p < 0 then some (0,5) else if i = 0 then some (qU t p,0) else if (gt t (qU t p)).kind ≠ 3 then some (0,13) else none
def Xu (t : List Nd) (way : List (List UInt8)) : Nat→Int × Int
 | 0=>(0,5)
 | n + 1=>match YD t (way.getD n []) n with
  | some x=>x
  | none=>Xu t way n
def Y8 (t : List Nd) (p : List UInt8) : Int × Int:=Xu t ([p] ++ yq p) ([p] ++ yq p).length
theorem resGo_some {t : List Nd} {way : List (List UInt8)} {i : Nat} {x : Int × Int} : ∀ m,i < m→YD t (way.getD i []) i = some x→(∀ j,i < j→j < m→YD t (way.getD j []) j = none)→Xu t way m = x:=by
 intro m
 induction m with
 | zero=>intro h; omega
 | succ m ih=>
  intro h hc hj
  rw [Xu]
  by_cases e : i = m
  ·subst e; rw [hc]
  ·rw [hj m (by omega) (by omega)]; exact ih (by omega) hc fun j h1 h2=>hj j h1 (by omega)
def XM (t : List Nd) : List UInt8→List (List UInt8)→Nd × Int
 | _,[]=>(⟨0,[],[],0⟩,5)
 | p,x :: l=>if qU t (j4 p x) < 0 then (⟨0,[],[],0⟩,5) else if l = [] then (gt t (qU t (j4 p x)),0) else if (gt t (qU t (j4 p x))).kind ≠ 3 then (⟨0,[],[],0⟩,13) else XM t (j4 p x) l
def findNd (t : List Nd) (p : List UInt8) : Nd × Int:=XM t [] (cut 47 p)
theorem JY {t : List Nd} {p : List UInt8} (h : ¬ qU t p < 0) : inR (qU t p) t.length = true:=Vl (by omega) (JA t p)
theorem preL_cons (p x : List UInt8) (l : List (List UInt8)) : preL p (x :: l) = (p ++ x) :: l:=rfl
theorem Vr {b : UInt8} {l : List UInt8} (h : bn b ≠ 47) : cut 47 (b :: l) = preL [b] (cut 47 l):=by rw [cut,if_neg h]
theorem Vo {b : UInt8} {l : List UInt8} (h : bn b = 47) : cut 47 (b :: l) = [] :: cut 47 l:=by rw [cut,if_pos h]
theorem slash_bn : bn (47 : UInt8) = 47:=rfl
def yT : List (List UInt8)→List UInt8
 | []=>[]
 | [x]=>x
 | x :: y :: l=>x ++ 47 :: yT (y :: l)
theorem VW (x : List UInt8) {l : List (List UInt8)} (h : l ≠ []) : yT (x :: l) = x ++ 47 :: yT l:=by
 cases l with
 | nil=>exact absurd rfl h
 | cons y l=>rfl
theorem joinL_preL (p : List UInt8) (l : List (List UInt8)) (h : l ≠ []) : yT (preL p l) = p ++ yT l:=by
 cases l with
 | nil=>exact absurd rfl h
 | cons x l=>
  rw [preL_cons]
  cases l with
  | nil=>rfl
  | cons y l=>simp [yT]
theorem Vw (t : List UInt8) : yT (cut 47 t) = t:=by
 induction t with
 | nil=>rfl
 | cons b l ih=>
  by_cases h : bn b = 47
  ·have hb : b = 47:=by
    apply UInt8.toNat.inj
    show b.toNat = 47
    unfold bn at h; omega
   rw [Vo h,VW _ (QG 47 l),ih,hb]; rfl
  ·rw [Vr h,joinL_preL _ _ (QG 47 l),ih]; rfl
theorem cut_free {x : List UInt8} (h : ∀ b ∈ x,bn b ≠ 47) : cut 47 x = [x]:=by
 induction x with
 | nil=>rfl
 | cons b l ih=>
  rw [Vr (h b (by simp)),ih (fun c hc=>h c (by simp [hc]))]; rfl
theorem cut_app {x t : List UInt8} (h : ∀ b ∈ x,bn b ≠ 47) : cut 47 (x ++ 47 :: t) = x :: cut 47 t:=by
 induction x with
 | nil=>exact Vo slash_bn
 | cons b l ih=>
  rw [List.cons_append,Vr (h b (by simp)),ih (fun c hc=>h c (by simp [hc]))]; rfl
theorem JQ (t : List UInt8) : ∀ x ∈ cut 47 t,∀ b ∈ x,bn b ≠ 47:=by
 induction t with
 | nil=>intro x hx; simp [cut] at hx; subst hx; simp
 | cons b l ih=>
  by_cases h : bn b = 47
  ·rw [Vo h]
   intro x hx
   rcases List.mem_cons.1 hx with rfl | hx
   ·simp
   ·exact ih x hx
  ·rw [Vr h]
   cases hc : cut 47 l with
   | nil=>exact absurd hc (QG 47 l)
   | cons y r=>
    rw [hc] at ih
    rw [preL_cons]
    intro x hx
    rcases List.mem_cons.1 hx with rfl | hx
    ·intro c hcx
     rcases List.mem_append.1 hcx with h2 | h2
     ·simp at h2; subst h2; exact h
     ·exact ih y (by simp) c h2
    ·exact ih x (by simp [hx])
theorem G5 {l : List (List UInt8)} (hn : l ≠ []) (h : ∀ x ∈ l,∀ b ∈ x,bn b ≠ 47) : cut 47 (yT l) = l:=by
 induction l with
 | nil=>exact absurd rfl hn
 | cons x l ih=>
  by_cases hl : l = []
  ·subst hl; exact cut_free (h x (by simp))
  ·rw [VW x hl,cut_app (h x (by simp)),ih hl (fun y hy=>h y (by simp [hy]))]
theorem cut_inj {a b : List UInt8} (h : cut 47 a = cut 47 b) : a = b:=by rw [← Vw a,← Vw b,h]
theorem lastSlash_app (x t : List UInt8) (ht : ∀ b ∈ t,bn b ≠ 47) : vB (x ++ 47 :: t) = x.length:=by
 apply Jj (by simp) (by simp [List.getD_eq_getElem?_getD]; exact slash_bn)
 intro j h1 h2
 obtain ⟨m,rfl⟩ : ∃ m,j = x.length + 1 + m:=⟨j - x.length - 1,by omega⟩
 have h3 : m < t.length:=by simp at h2; omega
 have : (x ++ 47 :: t).getD (x.length + 1 + m) 0 = t[m]:=by
  have e : x.length + 1 + m - x.length = m + 1:=by omega
  rw [List.getD_eq_getElem?_getD,List.getElem?_append_right (by omega),e,List.getElem?_cons_succ,List.getElem?_eq_getElem h3]; rfl
 rw [this]
 exact ht _ (List.getElem_mem h3)
theorem Jo {l : List (List UInt8)} (x : List UInt8) (h : l ≠ []) : yT (l ++ [x]) = yT l ++ 47 :: x:=by
 induction l with
 | nil=>exact absurd rfl h
 | cons y l ih=>
  by_cases hl : l = []
  ·subst hl; rfl
  ·rw [List.cons_append,VW y (by simp),ih hl,VW y hl]; simp
theorem Ga {l : List (List UInt8)} {x : List UInt8} (h : ∀ y ∈ l ++ [x],∀ b ∈ y,bn b ≠ 47) : qd (yT (l ++ [x])) = yT l:=by
 by_cases hl : l = []
 ·subst hl
  have : vB x = -1:=Jp fun j hj=>h x (by simp) _ (by rw [List.getD_eq_getElem?_getD,List.getElem?_eq_getElem hj]; exact List.getElem_mem hj)
  simp [qd,yT,this]
 ·rw [Jo x hl,qd,lastSlash_app _ _ (fun b hb=>h x (by simp) b hb)]
  simp
theorem parentP_cut (t : List UInt8) : qd t = yT (cut 47 t).dropLast:=by
 obtain ⟨l,x,hlx⟩ : ∃ l x,cut 47 t = l ++ [x]:=⟨(cut 47 t).dropLast,(cut 47 t).getLast (QG 47 t),(List.dropLast_concat_getLast (QG 47 t)).symm⟩
 have hp:=JQ t
 have:=Ga (l:=l) (x:=x) (by rw [← hlx]; exact hp)
 rw [hlx,List.dropLast_concat,← this,← hlx,Vw]
theorem GE {t : List UInt8} (h : qC t = true) : ∀ x ∈ cut 47 t,x ≠ []:=by
 simp only [qC,Bool.and_eq_true,decide_eq_true_eq,List.all_eq_true] at h
 intro x hx he
 have:=h.2.2 x hx
 rw [he] at this
 revert this; decide
theorem joinL_ne {l : List (List UInt8)} (h : l ≠ []) (hp : ∀ x ∈ l,x ≠ []) : yT l ≠ []:=by
 cases l with
 | nil=>exact absurd rfl h
 | cons x l=>
  have:=hp x (by simp)
  cases l with
  | nil=>simpa [yT] using this
  | cons y l=>simp [yT]
theorem joinP_joinL {l : List (List UInt8)} (x : List UInt8) (hp : ∀ y ∈ l,y ≠ []) : j4 (yT l) x = yT (l ++ [x]):=by
 by_cases hl : l = []
 ·subst hl; simp [j4,yT]
 ·rw [j4,if_neg (joinL_ne hl hp),Jo x hl]; simp
theorem ancs_joinL : ∀ (n : Nat) (l : List (List UInt8)),l.length = n→(∀ y ∈ l,∀ b ∈ y,bn b ≠ 47)→(∀ y ∈ l,y ≠ [])→yq (yT l) = ((List.range (l.length - 1)).map fun k=>yT (l.take (k + 1))).reverse:=by
 intro n
 induction n with
 | zero=>intro l hl _ _; have : l = []:=List.eq_nil_of_length_eq_zero hl; subst this; rfl
 | succ n ih=>
  intro l hl hp hn
  have hne : l ≠ []:=by intro e; subst e; simp at hl
  obtain ⟨m,x,rfl⟩ : ∃ m x,l = m ++ [x]:=⟨l.dropLast,l.getLast hne,(List.dropLast_concat_getLast hne).symm⟩
  rw [Qh,Ga hp]
  have hm : m.length = n:=by simpa using hl
  by_cases hm0 : m = []
  ·subst hm0; simp [yT]
  ·have hpm : ∀ y ∈ m,y ≠ []:=fun y hy=>hn y (by simp [hy])
   rw [if_neg (joinL_ne hm0 hpm),ih m hm (fun y hy=>hp y (by simp [hy])) hpm]
   have hml : 0 < m.length:=List.length_pos_iff.2 hm0
   have e1 : (m ++ [x]).length - 1 = (m.length - 1) + 1:=by simp; omega
   rw [e1,List.range_succ,List.map_append,List.reverse_append]
   simp only [List.map_cons,List.map_nil,List.reverse_cons,List.reverse_nil,List.nil_append,List.cons_append]
   congr 1
   ·have e2 : m.length - 1 + 1 = m.length:=by omega
    rw [e2,List.take_left]
   ·congr 1
    apply List.map_congr_left
    intro k hk
    have:=List.mem_range.1 hk
    rw [List.take_append_of_le_length (by omega)]
theorem ancs_cut {t : List UInt8} (h : qC t = true) : yq t = ((List.range ((cut 47 t).length - 1)).map fun k=>yT ((cut 47 t).take (k + 1))).reverse:=by
 have:=ancs_joinL _ (cut 47 t) rfl (JQ t) (GE h)
 rwa [Vw] at this
theorem way_cut {t : List UInt8} (h : qC t = true) : [t] ++ yq t = ((List.range (cut 47 t).length).map fun k=>yT ((cut 47 t).take (k + 1))).reverse:=by
 have hl : 0 < (cut 47 t).length:=List.length_pos_iff.2 (QG 47 t)
 have e : (cut 47 t).length = ((cut 47 t).length - 1) + 1:=by omega
 rw [ancs_cut h]
 conv=>rhs; rw [e,List.range_succ,List.map_append,List.reverse_append]
 simp only [List.map_cons,List.map_nil,List.reverse_cons,List.reverse_nil,List.nil_append,List.cons_append]
 congr 1
 have e2 : (cut 47 t).length - 1 + 1 = (cut 47 t).length:=by omega
 rw [e2,List.take_length,Vw]
theorem resolve_down {t : List Nd} {p : List UInt8} (h : qC p = true) : findNd t p = (if (Y8 t p).2 = 0 then gt t (Y8 t p).1 else ⟨0,[],[],0⟩,(Y8 t p).2):=by
 have hway:=way_cut h
 have hparts:=GE h
 unfold findNd Y8
 rw [hway]
 have hlen : (((List.range (cut 47 p).length).map fun k=>yT ((cut 47 p).take (k + 1))).reverse).length = (cut 47 p).length:=by simp
 rw [hlen]
 have key : ∀ (d i : Nat),i + d = (cut 47 p).length→0 < d∨i = 0→XM t (yT ((cut 47 p).take i)) ((cut 47 p).drop i) =
   (if (Xu t (((List.range (cut 47 p).length).map fun k=>yT ((cut 47 p).take (k + 1))).reverse) d).2 = 0 then gt t (Xu t (((List.range (cut 47 p).length).map fun k=>yT ((cut 47 p).take (k + 1))).reverse) d).1 else ⟨0,[],[],0⟩,
    (Xu t (((List.range (cut 47 p).length).map fun k=>yT ((cut 47 p).take (k + 1))).reverse) d).2):=by
  intro d
  induction d with
  | zero=>
   intro i hi h0
   exfalso
   have:=List.length_pos_iff.2 (QG 47 p)
   omega
  | succ d ih=>
   intro i hi _
   have hlt : i < (cut 47 p).length:=by omega
   have hw : (((List.range (cut 47 p).length).map fun k=>yT ((cut 47 p).take (k + 1))).reverse).getD d [] = yT ((cut 47 p).take (i + 1)):=by
    have h1 : d < (((List.range (cut 47 p).length).map fun k=>yT ((cut 47 p).take (k + 1))).reverse).length:=by rw [hlen]; omega
    rw [List.getD_eq_getElem?_getD,List.getElem?_eq_getElem h1]
    simp only [List.getElem_reverse,List.getElem_map,List.getElem_range,List.length_map,List.length_range,Option.getD_some]
    congr 2; omega
   have hj : j4 (yT ((cut 47 p).take i)) (cut 47 p)[i] = yT ((cut 47 p).take (i + 1)):=by
    rw [joinP_joinL _ (fun y hy=>hparts y (List.mem_of_mem_take hy)),List.take_succ_eq_append_getElem hlt]
   rw [List.drop_eq_getElem_cons hlt,XM,hj,Xu,hw]
   obtain ⟨q,hq⟩ : ∃ q,yT ((cut 47 p).take (i + 1)) = q:=⟨_,rfl⟩
   rw [hq]
   unfold YD
   by_cases h1 : qU t q < 0
   ·simp [h1]
   ·simp only [h1,if_false]
    by_cases hd : d = 0
    ·have hnil : (cut 47 p).drop (i + 1) = []:=List.drop_of_length_le (by omega)
     simp [hd,hnil]
    ·have hnil : ¬ (cut 47 p).drop (i + 1) = []:=by
      intro e
      have:=congrArg List.length e
      simp at this; omega
     simp only [hnil,hd,if_false]
     by_cases h3 : (gt t (qU t q)).kind = 3
     ·simp only [h3,ne_eq,not_true_eq_false,if_false]
      rw [← hq]
      exact ih (i + 1) (by omega) (.inl (by omega))
     ·simp [h3]
 have:=key (cut 47 p).length 0 (by omega) (.inr rfl)
 simpa [yT] using this
end Go.UL
