import Derived.Test.YtdhmlillkbjjjaaGreatDoorUK
set_option linter.unusedVariables false
set_option linter.unusedSimpArgs false
namespace Go.UD
open Go.RowKit
theorem wrap_small {n : Int} (h0 : -9223372036854775808≤n) (h1 : n≤9223372036854775807) : IntKind.wrap .i64 n = n:=by rw [IntKind.wrap_i64]; omega
def sc {T V E : Type} (o : Option T) (v : V) : Step T V E:=match o with | some t=>.ret t | none=>.nxt v
@[simp] theorem V7 {T V E : Type} (t : T) (v : V) : (sc (some t) v : Step T V E) = .ret t:=rfl
@[simp] theorem VR {T V E : Type} (v : V) : (sc (none : Option T) v : Step T V E) = .nxt v:=rfl
theorem Yk {T : Type} {b : Int → Option (Step T Int Unit)} (n : Nat) (f : Nat → Option T) (hb : ∀ i : Nat, i < n → b i = some (sc (f i) ((i : Int) + 1))) (hn : b n = some (.brk ())) :
    ∀ (m i k : Nat),i + m = n→m < k→ql b k i = some (match (List.range' i m).findSome? f with | some t=>.inl t | none=>.inr ()):=by
  intro m
  induction m with
  | zero=>
    intro i k hi hk
    obtain ⟨k,rfl⟩ : ∃ j,k = j + 1:=⟨k - 1,by omega⟩
    have : i = n:=by omega
    subst this
    simp [ql,hn]
  | succ m ih=>
    intro i k hi hk
    obtain ⟨k,rfl⟩ : ∃ j,k = j + 1:=⟨k - 1,by omega⟩
    simp only [ql,hb i (by omega),Option.bind_some,List.range'_succ,List.findSome?_cons]
    cases hf : f i with
    | some t=>simp
    | none=>
      simp only []
      have:=ih (i + 1) k (by omega) (by omega)
      rw [Int.natCast_add,Int.natCast_one] at this
      exact this
theorem yO {T : Type} {b : Int → Option (Step T Int Unit)} (n : Nat) (f : Nat → Option T) (hb : ∀ i : Nat, i < n → b i = some (sc (f i) ((i : Int) + 1))) (hn : b n = some (.brk ())) (k : Nat) (hk : n < k) :
    ql b k 0 = some (match (List.range n).findSome? f with | some t=>.inl t | none=>.inr ()):=by
  have:=Yk n f hb hn n 0 k (by omega) hk
  rw [List.range_eq_range']
  exact this
theorem qW {i n : Nat} (h : i < n) : inR (i : Int) n = true:=Ym (by omega) (by omega)
theorem ye (i n : Nat) : decide ((i : Int) < (n : Int)) = decide (i < n):=by by_cases h : i < n <;> simp [h]
theorem vj {i n : Nat} (h : i < n) (hn : n≤4611686018427387904) : IntKind.wrap .i64 ((i : Int) + 1) = (i : Int) + 1:=wrap_small (by omega) (by omega)
abbrev bn (c : UInt8) : Int:=(c.toNat : Int)
end Go.UD
