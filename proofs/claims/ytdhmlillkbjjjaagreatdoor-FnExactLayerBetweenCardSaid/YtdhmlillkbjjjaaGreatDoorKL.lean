import Derived.Lib.Overlaps
import Derived.Lib.AppendZerosOnto
import Derived.Laws.CopyRow
import Derived.Laws.AppendOwn
import Derived.Test.YtdhmlillkbjjjaaGreatDoorKJ
set_option linter.unusedVariables false
set_option linter.unusedSimpArgs false
namespace Go.UL
open Go.RowKit
theorem Blk.shape {w : World} {b : Nat} {cs : Array Value} {T : TypeId} (h : Blk w b cs T) : w.shape? b = some (T,cs.size):=by unfold World.shape?; rw [h]
theorem Blk.frozen {w : World} {b i : Nat} {cs : Array Value} {T : TypeId} (h : Blk w b cs T) : w.frozen? ⟨b,i,none⟩ = false:=by unfold World.frozen?; simp only; rw [h]; simp
section
variable {P : Program} {N : Nat} {Q : yb} {σ : Fr} {w : World} {ops : Array Oper} {rest : List Oper} {o : Oper}
end
theorem Ow.of_row {α : Type} {e : TypeId} {sz B g C : Nat} {enc : α→List Value} {w : World} {row R : List Value} {ys : List α} (hB : B≤g) (hh : Blk w g row.toArray e) (hrow : row = ys.flatMap enc ++ R) (hl : ∀ y ∈ ys,(enc y).length = sz) (h1 : ys.length≤C) (h2 : C≤maxLen) (h3 : row.length = C * sz) :
  Ow e sz enc B w (.slice (some ⟨g,0,none⟩) ys.length C) ys:=by
 have hf:=ja enc sz ys hl
 refine ⟨.inl ⟨hf,.inr ⟨g,C,row.toArray,rfl,hB,hh,h1,h2,by simpa using h3,?_⟩⟩,hl,by unfold maxLen at h2; omega⟩
 simp only
 rw [hrow,← hf,List.take_left]
end Go.UL
