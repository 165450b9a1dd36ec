import Derived.Lib.SliceRun
import Derived.Test.YtdhmlillkbjjjaaGreatDoorK
set_option linter.unusedVariables false
set_option linter.unusedSimpArgs false
namespace Go.UL
open Go.RowKit
theorem Ow.take {α : Type} {e : TypeId} {sz base : Nat} {enc : α→List Value} {w : World} {v : Value} {xs : List α} (h : Ow e sz enc base w v xs) {i : Nat} (hi : i≤xs.length) {A : Option Addr} {c : Nat} (hv : v = .slice A xs.length c) :
  Ow e sz enc base w (.slice A i c) (xs.take i):=by
 have hlt : (xs.take i).length = i:=by simp; omega
 have hl2 : ∀ x ∈ xs.take i,(enc x).length = sz:=fun x hx=>h.2.1 x (List.mem_of_mem_take hx)
 have hm : (xs.take i).length≤9223372036854775807:=by have:=h.2.2; omega
 obtain ⟨h1 | ⟨⟨A',hA⟩,hx⟩,hl,_⟩:=h
 ·rcases h1.2 with ⟨hv',hn⟩ | ⟨g,cap,cur,hv',hb,hh,hnc,hcm,hsz,htk⟩
  ·have hx0 : xs = []:=List.eq_nil_of_length_eq_zero hn
   subst hx0
   rw [hv'] at hv; injection hv with e1 e2 e3
   subst e1; subst e3
   have : i = 0:=by simpa using hi
   subst this
   exact ⟨.inr ⟨⟨none,rfl⟩,rfl⟩,by simp,by simp⟩
  ·rw [hv'] at hv; injection hv with e1 e2 e3
   subst e1; subst e3
   have hf:=ja enc sz (xs.take i) hl2
   refine ⟨.inl ⟨hf,.inr ⟨g,cap,cur,by rw [hlt],hb,hh,by omega,hcm,hsz,?_⟩⟩,hl2,hm⟩
   rw [hlt]
   have h2 : i * sz≤xs.length * sz:=Nat.mul_le_mul_right _ hi
   have h3 : cur.toList.take (i * sz) = (cur.toList.take (xs.length * sz)).take (i * sz):=by rw [List.take_take,Nat.min_eq_left h2]
   rw [h3,htk]
   have h4 : xs.flatMap enc = (xs.take i).flatMap enc ++ (xs.drop i).flatMap enc:=by rw [← List.flatMap_append,List.take_append_drop]
   rw [h4,List.take_append_of_le_length (by rw [hf,hlt]; exact Nat.le_refl _)]
   exact List.take_of_length_le (by rw [hf,hlt]; exact Nat.le_refl _)
 ·subst hx
  rw [hA] at hv; injection hv with e1 e2 e3
  subst e1; subst e3
  have : i = 0:=by simpa using hi
  subst this
  exact ⟨.inr ⟨⟨_,rfl⟩,rfl⟩,by simp,by simp⟩
section
variable {P : Program} {N : Nat} {Q : yb} {σ : Fr} {w : World} {ops : Array Oper} {rest : List Oper} {o : Oper}
end
end Go.UL
