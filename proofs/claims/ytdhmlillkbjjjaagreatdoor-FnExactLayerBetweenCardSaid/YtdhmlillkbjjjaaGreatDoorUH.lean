import Derived.Lib.SplitLaws
import Derived.Test.YtdhmlillkbjjjaaGreatDoorShelf
import Derived.Test.YtdhmlillkbjjjaaGreatDoorUP3
set_option linter.unusedVariables false
set_option linter.unusedSimpArgs false
namespace Go.Proofs.YtdhmlillkbjjjaaGreatDoor.UD
open Go.UD Go.RowKit
theorem VF (c : UInt8) : ∀ (l : List UInt8),Lib.splitK [c] 0 (Lib.count l [c]) l = cut (bn c) l:=by
 intro l
 induction l with
 | nil=>rw [Lib.count_one]; rfl
 | cons b l ih=>
  unfold cut
  by_cases hb : b = c
  ·subst hb
   have hix : Lib.index (b :: l) [b] = 0:=by rw [Lib.index]; simp [List.isPrefixOf]
   rw [Lib.count_cons_eq,Nat.add_comm,Lib.splitK,hix]
   simp only [if_true]
   rw [if_neg (by decide),← ih]
   simp
  ·have hn : ¬ bn b = bn c:=fun e=>hb (UInt8.toNat.inj (by unfold bn at e; omega))
   rw [if_neg hn,← ih,Lib.count_cons_ne b c l hb]
   have hp : ([c] : List UInt8).isPrefixOf (b :: l) = false:=by simp [List.isPrefixOf,Ne.symm hb]
   have hix : Lib.index (b :: l) [c] = if Lib.index l [c] == -1 then -1 else Lib.index l [c] + 1:=by rw [Lib.index,hp]; simp
   cases hk : Lib.count l [c] with
   | zero=>simp [Lib.splitK,preL]
   | succ k=>
    have hne : Lib.index l [c] ≠ -1:=fun e=>by rw [Lib.count_miss e] at hk; cases hk
    have hge:=Lib.index_ge l [c]
    have hne2 : ¬ (Lib.index l [c] == -1) = true:=by simpa using hne
    have hix2 : Lib.index (b :: l) [c] = Lib.index l [c] + 1:=by rw [hix,if_neg hne2]
    have hne3 : ¬ (Lib.index l [c] + 1 == -1) = true:=by simp; omega
    rw [Lib.splitK,Lib.splitK,hix2,if_neg hne3,if_neg hne2]
    obtain ⟨j,hj⟩ : ∃ j : Nat,Lib.index l [c] = j:=⟨(Lib.index l [c]).toNat,by omega⟩
    rw [hj]
    have e1 : ((j : Int) + 1).toNat = j + 1:=by omega
    simp [preL,e1,show j + 1 + 1 = (j + 1) + 1 by omega]
theorem strings_Split.calls {w : World} {a0 a1 : List UInt8} (gv : GV 0 w) (h0 : a0.length≤1048576) (h1 : a1 = [47]) :
  Calls Tryz.prog 193 #[S a0,S a1] w (Rt (RO 9 1 vI w (cut 47 a0))):=by
 subst h1
 obtain ⟨m,hm⟩:=gv
 have hsz : (⟨⟨a0⟩⟩ : ByteArray).size = a0.length:=rfl
 refine (Tryz.strings_Split ⟨⟨a0⟩⟩ ⟨⟨[47]⟩⟩ m w (by rw [hsz]; omega) hm (by decide)).mono fun e w' h=>?_
 obtain ⟨rfl,rfl⟩:=h
 have hd : (Lib.splitB ⟨⟨[47]⟩⟩ 0 (Lib.countB ⟨⟨a0⟩⟩ ⟨⟨[47]⟩⟩) ⟨⟨a0⟩⟩).map (·.data.toList) = cut 47 a0:=by
  rw [Lib.splitB_data]
  exact VF 47 a0
 have hl : Lib.countB ⟨⟨a0⟩⟩ ⟨⟨[47]⟩⟩ + 1 = (cut 47 a0).length:=by
  rw [← hd,List.length_map]; exact (Lib.splitB_all _ (by decide) 0 _ _ rfl).symm
 have hc : (Lib.splitB ⟨⟨[47]⟩⟩ 0 (Lib.countB ⟨⟨a0⟩⟩ ⟨⟨[47]⟩⟩) ⟨⟨a0⟩⟩).map Value.string = (cut 47 a0).flatMap vI:=by
  rw [← hd,List.flatMap_map]
  simp only [List.flatMap,vI,S]
  rw [List.flatten_eq_flatMap]
  simp [List.flatMap_map,← List.map_eq_flatMap]
 refine ⟨_,rfl,Ext.alloc _ _,?_⟩
 rw [hl]
 exact Ow.new (jB _ _ _) (Nat.le_refl _) (by simpa using hc) (fun _ _=>rfl) (by have:=jY 47 a0; omega)
end Go.Proofs.YtdhmlillkbjjjaaGreatDoor.UD
