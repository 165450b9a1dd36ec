import Derived.Test.YtdhmlillkbjjjaaGreatDooryP36
set_option linter.unusedVariables false
set_option linter.unusedSimpArgs false
namespace Go.UL
open Go.RowKit
structure SrcOK (n : Int) (s : DSrc) : Prop where
 p0 : 0≤s.pos
 p1 : s.pos≤n
 s0 : 0≤s.seed
 s1 : s.seed < 2147483648
theorem SrcOK.mono {n m : Int} {s : DSrc} (h : SrcOK n s) (k : n≤m) : SrcOK m s:=⟨h.p0,Int.le_trans h.p1 k,h.s0,h.s1⟩
def Dr {α : Type} (X : Option (α × DSrc)) (n : Int) (Q : α→Prop) : Prop:=∃ r s,X = some (r,s)∧SrcOK n s∧Q r
theorem Dr.mono {α : Type} {X : Option (α × DSrc)} {n m : Int} {Q R : α→Prop} (h : Dr X n Q) (k : n≤m) (hq : ∀ r,Q r→R r) : Dr X m R:=by
 obtain ⟨r,s,h1,h2,h3⟩:=h
 exact ⟨r,s,h1,h2.mono k,hq r h3⟩
def Xd (t : List UInt8) : Prop:=yi t = true∧t.length≤3∧∀ b ∈ t,bn b ≠ 47
def Yh (m : Nat) (t : List UInt8) : Prop:=∃ l : List (List UInt8),l ≠ []∧l.length≤m∧(∀ x ∈ l,Xd x)∧t = vO l
theorem Yh.len {m : Nat} {t : List UInt8} (h : Yh m t) : t.length≤4 * m:=by
 obtain ⟨l,h1,h2,h3,rfl⟩:=h
 have : ∀ l : List (List UInt8),(∀ x ∈ l,Xd x)→(vO l).length≤4 * l.length:=by
  intro l
  induction l with
  | nil=>intro _; simp [vO]
  | cons x l ih=>
   intro hx
   have h4:=ih fun y hy=>hx y (by simp [hy])
   have h5:=(hx x (by simp)).2.1
   by_cases hl : l = []
   ·subst hl; simp [vO]; omega
   ·rw [jM x hl]; simp; omega
 have:=this l h3
 omega
theorem Yh.parts {m : Nat} {t : List UInt8} (h : Yh m t) : (cut 47 t).length≤m∧∀ x ∈ cut 47 t,Xd x:=by
 obtain ⟨l,h1,h2,h3,rfl⟩:=h
 rw [Yv h1 fun x hx=>(h3 x hx).2.2]
 exact ⟨h2,h3⟩
theorem Yh.ok {t : List UInt8} (h : Yh 3 t) : qI t = true:=by
 have h1:=h.len
 obtain ⟨h2,h3⟩:=h.parts
 simp only [qI,Bool.and_eq_true,decide_eq_true_eq,List.all_eq_true]
 exact ⟨by omega,by omega,fun x hx=>(h3 x hx).1⟩
theorem Sheet.bool {l : List Rec} (h : Sheet l) : Xv l = true:=XM (fun x hx=>jW (h.ok x hx)) h.rise
structure Lay (l : List Rec) : Prop where
 sheet : Sheet l
 len : l.length≤16
 deep : ∀ r ∈ l,(cut 47 r.path).length≤3
theorem Lay.nil : Lay []:=⟨Sheet.nil,by simp,by simp⟩
theorem look_pos {t : List Nd} {p : List UInt8} {x : Nd} (h : vR t p = some x) : 0≤qC t p∧gt t (qC t p) = x∧inR (qC t p) t.length = true:=by
 have h1:=(vP t p).1.2 (by rw [h]; simp)
 exact ⟨h1,(vP t p).2 x h,Qb (by omega)⟩
theorem stack_mk {L : List (List Rec)} (h : ∀ l ∈ L,Sheet l∧l.length≤16) (h5 : L.length≤5) : JZ L = true:=by
 simp only [JZ,Bool.and_eq_true,decide_eq_true_eq,List.all_eq_true]
 exact ⟨h5,fun l hl=>Gw (h l hl).1 (h l hl).2⟩
end Go.UL
