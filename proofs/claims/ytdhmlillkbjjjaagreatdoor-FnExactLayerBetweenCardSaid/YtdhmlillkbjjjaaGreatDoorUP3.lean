import Derived.Test.YtdhmlillkbjjjaaGreatDoorUP2
set_option linter.unusedVariables false
set_option linter.unusedSimpArgs false
namespace Go.UD
open Go.RowKit
theorem Q1 (a : List UInt8) : lt8 a a = false:=by
 induction a with
 | nil=>rfl
 | cons x a ih=>simp only [lt8] at ih ⊢; simp [Op.bytesLess,ih]
def vC : List (List UInt8)→List (List UInt8)→Bool
 | x :: xs,y :: ys=>if x = y then vC xs ys else lt8 x y
 | [],_ :: _=>true
 | _,[]=>false
def cmpS (x y : List UInt8) : Int:=if lt8 x y then -1 else if x = y then 0 else 1
def cmpL : List (List UInt8)→List (List UInt8)→Int
 | x :: xs,y :: ys=>if cmpS x y = 0 then cmpL xs ys else cmpS x y
 | [],_ :: _=>-1
 | _ :: _,[]=>1
 | [],[]=>0
theorem Vo : ∀ a b,decide (cmpL a b < 0) = vC a b:=by
 intro a
 induction a with
 | nil=>intro b; cases b <;> simp [cmpL,vC]
 | cons x a ih=>
  intro b
  cases b with
  | nil=>simp [cmpL,vC]
  | cons y b=>
   unfold cmpL vC cmpS
   by_cases h : x = y
   ·subst h; simp [Q1,ih]
   ·cases hl : lt8 x y <;> simp [h]
def vi.sh (a0 : List UInt8) : Option (Bool):=
 some (!decide (a0 = a0))
theorem vi.eq (a0 : List UInt8) : vi.sh a0 = some false:=by simp [vi.sh]
def vz.sh (a0 : List UInt8) (a1 : List UInt8) : Option (Int):=
 bif false then (bif false then (some 0) else (some (-1))) else (bif false then (some 1) else (bif (lt8 a0 a1) then (some (-1)) else (bif (!(lt8 a0 a1 || decide (a0 = a1))) then (some 1) else (some 0))))
theorem vz.eq (a0 a1 : List UInt8) : vz.sh a0 a1 = some (cmpS a0 a1):=by
 unfold vz.sh cmpS
 cases lt8 a0 a1 with
 | true=>simp
 | false=>by_cases h : a0 = a1 <;> simp [h]
theorem jx {β : Type} (f : Nat→Option β) (n : Nat) : (List.range (n + 1)).findSome? f = match f 0 with | some t=>some t | none=>(List.range n).findSome? fun j=>f (j + 1):=by
  rw [List.range_succ_eq_map,List.findSome?_cons,List.findSome?_map]; rfl
theorem Jp : ∀ (v w : List (List UInt8)),(match (List.range v.length).findSome? (fun j=>if w.length≤j then some 1 else if cmpS (v.getD j default) (w.getD j default) = 0 then none else some (cmpS (v.getD j default) (w.getD j default))) with | some t=>t | none=>if v.length < w.length then -1 else 0) = cmpL v w:=by
  intro v
  induction v with
  | nil=>intro w; cases w <;> simp [cmpL]
  | cons x v ih=>
    intro w
    simp only [List.length_cons,jx]
    cases w with
    | nil=>simp [cmpL]
    | cons y w=>
      simp only [List.length_cons,List.getD_cons_zero,List.getD_cons_succ,Nat.add_le_add_iff_right,Nat.add_lt_add_iff_right]
      by_cases h : cmpS x y = 0
      · simp only [h,if_true,cmpL]
        rw [← ih w]
        simp
      · simp [h,cmpL]
def qw.b1 (a0 : List (List UInt8)) (a1 : List (List UInt8)) : Int→Option (Step (Int) (Int) (Unit)):=
 fun x11_1=>bif (decide (x11_1 < (a0.length : Int))) then (bif inR x11_1 a0.length then (bif (decide ((a1.length : Int)≤x11_1)) then (some (.ret 1)) else (bif inR x11_1 a1.length then (bif (!decide ((cmpS (gt a0 x11_1) (gt a1 x11_1)) = 0)) then (some (.ret (cmpS (gt a0 x11_1) (gt a1 x11_1)))) else (some (.nxt (IntKind.wrap .i64 (x11_1 + 1))))) else none)) else none) else (some (.brk ()))
def qw.sh (k : Nat) (a0 : List (List UInt8)) (a1 : List (List UInt8)) : Option (Int):=
  (ql (qw.b1 a0 a1) k 0).bind fun z=>match z with | .inl t=>some t | .inr _=>bif (decide ((a0.length : Int) < (a1.length : Int))) then (some (-1)) else (some 0)
theorem qw.eq (a0 a1 : List (List UInt8)) (h0 : a0.length≤4611686018427387904) (h1 : a1.length≤4611686018427387904) : ∃ k,qw.sh k a0 a1 = some (cmpL a0 a1):=by
 refine ⟨a0.length + 1,?_⟩
 unfold qw.sh
 have hb : ∀ i : Nat,i < a0.length→qw.b1 a0 a1 i = some (sc (if a1.length≤i then some 1 else if cmpS (a0.getD i default) (a1.getD i default) = 0 then none else some (cmpS (a0.getD i default) (a1.getD i default)) : Option Int) ((i : Int) + 1)):=by
  intro i hi
  simp only [qw.b1,ye,hi,decide_true,cond_true,qW hi,vr,vj hi h0]
  by_cases hm : a1.length≤i
  ·have : (a1.length : Int)≤(i : Int):=by omega
   simp [hm,this]
  ·have h2 : ¬ (a1.length : Int)≤(i : Int):=by omega
   have h3 : i < a1.length:=by omega
   simp only [h2,hm,decide_false,cond_false,qW h3,cond_true,if_false]
   by_cases he : cmpS (a0.getD i default) (a1.getD i default) = 0
   ·simp only [he,decide_true,Bool.not_true,if_true,cond_false,VR]
   ·simp only [he,decide_false,Bool.not_false,if_false,cond_true,V7]
 have hn : qw.b1 a0 a1 a0.length = some (.brk ()):=by simp [qw.b1]
 rw [yO _ _ hb hn _ (by omega),← Jp]
 cases (List.range a0.length).findSome? _ with
 | some t=>simp
 | none=>
  by_cases h : a0.length < a1.length
  ·have : (a0.length : Int) < (a1.length : Int):=by omega
   simp [h,this]
  ·have : ¬ (a0.length : Int) < (a1.length : Int):=by omega
   simp [h,this]
def impl_compare.sh (a0 : List UInt8) (a1 : List UInt8) : Option (Int):=
 bif decide (a0.length≤1048576) then (bif decide (a1.length≤1048576) then (bif decide ((cut 47 a0).length≤4611686018427387904) then (bif decide ((cut 47 a1).length≤4611686018427387904) then (some (cmpL (cut 47 a0) (cut 47 a1))) else none) else none) else none) else none
theorem impl_compare.eq (a0 a1 : List UInt8) (h0 : a0.length≤1048576) (h1 : a1.length≤1048576) : impl_compare.sh a0 a1 = some (cmpL (cut 47 a0) (cut 47 a1)):=by
 have h2:=jY 47 a0
 have h3:=jY 47 a1
 have h4 : (cut 47 a0).length≤4611686018427387904:=by omega
 have h5 : (cut 47 a1).length≤4611686018427387904:=by omega
 simp [impl_compare.sh,h0,h1,h4,h5]
def impl_between_2.sh (a0 : Rec) (a1 : Rec) : Option (Int):=
 bif decide (a0.path.length≤1048576) then (bif decide (a1.path.length≤1048576) then (some (cmpL (cut 47 a0.path) (cut 47 a1.path))) else none) else none
theorem impl_between_2.eq (a0 a1 : Rec) (h0 : a0.path.length≤1048576) (h1 : a1.path.length≤1048576) : impl_between_2.sh a0 a1 = some (cmpL (cut 47 a0.path) (cut 47 a1.path)):=by
 unfold impl_between_2.sh
 simp only [decide_eq_true h0,decide_eq_true h1,cond_true]
end Go.UD
