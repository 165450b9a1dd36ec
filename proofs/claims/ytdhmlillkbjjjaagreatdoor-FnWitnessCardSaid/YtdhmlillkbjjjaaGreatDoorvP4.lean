import Derived.Test.YtdhmlillkbjjjaaGreatDoorK
set_option linter.unusedVariables false
set_option linter.unusedSimpArgs false
namespace Go.UL
open Go.RowKit
theorem wrap_small {n : Int} (h0 : -9223372036854775808≤n) (h1 : n≤9223372036854775807) : IntKind.wrap .i64 n = n:=by rw [IntKind.wrap_i64]; omega
def sc {T V E : Type} (o : Option T) (v : V) : Step T V E:=match o with | some t=>.ret t | none=>.nxt v
@[simp] theorem JP {T V E : Type} (t : T) (v : V) : (sc (some t) v : Step T V E) = .ret t:=rfl
@[simp] theorem JT {T V E : Type} (v : V) : (sc (none : Option T) v : Step T V E) = .nxt v:=rfl
theorem GW {T : Type} {b : Int → Option (Step T Int Unit)} (n : Nat) (f : Nat → Option T) (hb : ∀ i : Nat, i < n → b i = some (sc (f i) ((i : Int) + 1))) (hn : b n = some (.brk ())) :
    ∀ (m i k : Nat),i + m = n→m < k→qt b k i = some (match (List.range' i m).findSome? f with | some t=>.inl t | none=>.inr ()):=by
  intro m
  induction m with
  | zero=>
    intro i k hi hk
    obtain ⟨k,rfl⟩ : ∃ j,k = j + 1:=⟨k - 1,by omega⟩
    have : i = n:=by omega
    subst this
    simp [qt,hn]
  | succ m ih=>
    intro i k hi hk
    obtain ⟨k,rfl⟩ : ∃ j,k = j + 1:=⟨k - 1,by omega⟩
    simp only [qt,hb i (by omega),Option.bind_some,List.range'_succ,List.findSome?_cons]
    cases hf : f i with
    | some t=>simp
    | none=>
      simp only []
      have:=ih (i + 1) k (by omega) (by omega)
      rw [Int.natCast_add,Int.natCast_one] at this
      exact this
theorem jx {T : Type} {b : Int → Option (Step T Int Unit)} (n : Nat) (f : Nat → Option T) (hb : ∀ i : Nat, i < n → b i = some (sc (f i) ((i : Int) + 1))) (hn : b n = some (.brk ())) (k : Nat) (hk : n < k) :
    qt b k 0 = some (match (List.range n).findSome? f with | some t=>.inl t | none=>.inr ()):=by
  have:=GW n f hb hn n 0 k (by omega) hk
  rw [List.range_eq_range']
  exact this
theorem find_any {α : Type} {T : Type} (l : List α) (d : α) (q : α→Bool) (r : T) : ∀ (i : Nat) (m : Nat),i + m = l.length→(List.range' i m).findSome? (fun j=>if q (l.getD j d) then some r else none) = if (l.drop i).any q then some r else none:=by
  intro i m
  induction m generalizing i with
  | zero => intro h; have : l.length ≤ i := by omega
            simp [List.drop_of_length_le this]
  | succ m ih=>
    intro h
    have hi : i < l.length:=by omega
    rw [List.range'_succ,List.findSome?_cons,List.drop_eq_getElem_cons hi]
    have hg : l.getD i d = l[i]:=by simp [List.getD_eq_getElem?_getD,List.getElem?_eq_getElem hi]
    rw [hg,List.any_cons]
    cases hq : q l[i] with
    | true=>simp
    | false=>simp only [Bool.false_eq_true,if_false,Bool.false_or]; exact ih (i + 1) (by omega)
theorem G7 {α : Type} {T : Type} (l : List α) (d : α) (q : α→Bool) (r : T) : (List.range l.length).findSome? (fun j=>if q (l.getD j d) then some r else none) = if l.any q then some r else none:=by
 have:=find_any l d q r 0 l.length (by omega)
 rw [List.range_eq_range',this]; simp
theorem qT {i n : Nat} (h : i < n) : inR (i : Int) n = true:=Vl (by omega) (by omega)
theorem y6 (i n : Nat) : decide ((i : Int) < (n : Int)) = decide (i < n):=by by_cases h : i < n <;> simp [h]
theorem vX {i n : Nat} (h : i < n) (hn : n≤4611686018427387904) : IntKind.wrap .i64 ((i : Int) + 1) = (i : Int) + 1:=wrap_small (by omega) (by omega)
abbrev bn (c : UInt8) : Int:=(c.toNat : Int)
theorem XI (t : List UInt8) (i : Nat) : byt t (i : Int) = bn (t.getD i 0):=rfl
theorem bn_range (c : UInt8) : 0≤bn c∧bn c≤255:=by have:=c.toNat_lt; unfold bn; omega
def within (n lo hi : Int) : Bool:=decide (lo≤n) && decide (n≤hi)
def Qe.sh (a0 : Int) (a1 : Int) (a2 : Int) : Option (Bool):=
 some ((decide (a1≤a0)) && (decide (a0≤a2)))
theorem Qe.eq (a0 a1 a2 : Int) : Qe.sh a0 a1 a2 = some (within a0 a1 a2):=rfl
def QV.sh (a0 : Int) (a1 : Int) (a2 : Int) : Option (Bool):=
 some ((decide (a1≤a0)) && (decide (a0≤a2)))
theorem QV.eq (a0 a1 a2 : Int) : QV.sh a0 a1 a2 = some (within a0 a1 a2):=rfl
def yO (c : Int) : Bool:=decide (33≤c) && decide (c≤126) && !decide (c = 47)
def jh (t : List UInt8) : Bool:=within (t.length : Int) 1 8 && !decide (t = [46]) && !decide (t = [46,46]) && t.all fun c=>yO (bn c)
def yN.b1 (a0 : List UInt8) : Int→Option (Step (Bool) (Int) (Unit)):=
 fun x3_16=>bif (decide (x3_16 < (a0.length : Int))) then (bif inR x3_16 a0.length then (((bif (decide ((byt a0 x3_16) < 33)) then some true else (bif inR x3_16 a0.length then (some (decide (126 < (byt a0 x3_16)))) else none))).bind fun z36=>((bif z36 then some true else (bif inR x3_16 a0.length then (some (decide ((byt a0 x3_16) = 47))) else none))).bind fun z45=>bif z45 then (some (.ret false)) else (some (.nxt (IntKind.wrap .i64 (x3_16 + 1))))) else none) else (some (.brk ()))
def yN.sh (k : Nat) (a0 : List UInt8) : Option (Bool):=
  bif (((!(within (a0.length : Int) 1 8)) || (decide (a0 = ([46] : List UInt8)))) || (decide (a0 = ([46,46] : List UInt8)))) then (some false) else ((qt (yN.b1 a0) k 0).bind fun z=>match z with | .inl t=>some t | .inr _=>some true)
theorem yN.eq (a0 : List UInt8) : ∃ k,yN.sh k a0 = some (jh a0):=by
 refine ⟨a0.length + 1,?_⟩
 unfold yN.sh
 cases hh : (((!(within (a0.length : Int) 1 8)) || (decide (a0 = ([46] : List UInt8)))) || (decide (a0 = ([46,46] : List UInt8)))) with
 | true=>
  simp only [cond_true]
  have : (within (a0.length : Int) 1 8 && !decide (a0 = [46]) && !decide (a0 = [46,46])) = false:=by
   revert hh
   cases within (a0.length : Int) 1 8 <;> cases decide (a0 = ([46] : List UInt8)) <;> cases decide (a0 = ([46,46] : List UInt8)) <;> simp
  simp [jh,this]
 | false=>
  simp only [cond_false]
  have h3 : (within (a0.length : Int) 1 8 && !decide (a0 = [46]) && !decide (a0 = [46,46])) = true:=by
   revert hh
   cases within (a0.length : Int) 1 8 <;> cases decide (a0 = ([46] : List UInt8)) <;> cases decide (a0 = ([46,46] : List UInt8)) <;> simp
  have hlen : a0.length≤4611686018427387904:=by
   have : within (a0.length : Int) 1 8 = true:=by revert h3; cases within (a0.length : Int) 1 8 <;> simp
   simp [within] at this; omega
  have hb : ∀ i : Nat,i < a0.length→yN.b1 a0 i = some (sc (if !yO (bn (a0.getD i 0)) then some false else none : Option Bool) ((i : Int) + 1)):=by
   intro i hi
   simp only [yN.b1,y6,hi,decide_true,cond_true,qT hi,XI,vX hi hlen]
   obtain ⟨c,hc⟩ : ∃ c,bn (a0.getD i 0) = c:=⟨_,rfl⟩
   simp only [hc]
   by_cases h1 : c < 33
   ·have : yO c = false:=by simp [yO]; omega
    simp [h1,this]
   ·by_cases h2 : 126 < c
    ·have : yO c = false:=by simp [yO]; omega
     simp [h1,h2,this]
    ·by_cases h4 : c = 47
     ·have : yO c = false:=by simp [yO,h4]
      simp [h4,show yO 47 = false from rfl]
     ·have : yO c = true:=by simp [yO,h4]; omega
      simp [h1,h2,h4,this]
  rw [jx a0.length _ hb (by simp [yN.b1]) (a0.length + 1) (by omega),G7 a0 0 (fun c=>!yO (bn c)) false]
  have hna : (a0.any fun c=>!yO (bn c)) = !(a0.all fun c=>yO (bn c)):=by rw [List.not_all_eq_any_not]
  rw [hna]
  unfold jh
  rw [h3]
  cases (a0.all fun c=>yO (bn c)) <;> simp
def y0.b1 (a0 : List UInt8) : Int→Option (Step (Bool) (Int) (Unit)):=
 fun x6_1=>bif (decide (x6_1 < (a0.length : Int))) then (bif inR x6_1 a0.length then (((bif (!(within (IntKind.wrap .i64 (byt a0 x6_1)) 33 126)) then some true else (bif inR x6_1 a0.length then (some (decide ((byt a0 x6_1) = 47))) else none))).bind fun z23=>bif z23 then (some (.ret false)) else (some (.nxt (IntKind.wrap .i64 (x6_1 + 1))))) else none) else (some (.brk ()))
def y0.sh (k : Nat) (a0 : List UInt8) : Option (Bool):=
  (qt (y0.b1 a0) k 0).bind fun z=>match z with | .inl t=>some t | .inr _=>some (((within (a0.length : Int) 1 8) && (!decide (a0 = ([46] : List UInt8)))) && (!decide (a0 = ([46,46] : List UInt8))))
theorem y0.eq (a0 : List UInt8) (hlen : a0.length≤4611686018427387904) : ∃ k,y0.sh k a0 = some (jh a0):=by
 refine ⟨a0.length + 1,?_⟩
 unfold y0.sh
 have hb : ∀ i : Nat,i < a0.length→y0.b1 a0 i = some (sc (if !yO (bn (a0.getD i 0)) then some false else none : Option Bool) ((i : Int) + 1)):=by
  intro i hi
  have hr:=bn_range (a0.getD i 0)
  simp only [y0.b1,y6,hi,decide_true,cond_true,qT hi,XI,vX hi hlen,wrap_small (show -9223372036854775808≤bn (a0.getD i 0) by omega) (by omega)]
  obtain ⟨c,hc⟩ : ∃ c,bn (a0.getD i 0) = c:=⟨_,rfl⟩
  simp only [hc]
  cases hw : within c 33 126 with
  | false=>
   have : yO c = false:=by simp only [within] at hw; simp only [yO,hw,Bool.false_and]
   simp [this]
  | true=>
   have : yO c = !decide (c = 47):=by simp only [within] at hw; simp only [yO,hw,Bool.true_and]
   rw [this]
   cases decide (c = 47) <;> simp
 rw [jx a0.length _ hb (by simp [y0.b1]) (a0.length + 1) (by omega),G7 a0 0 (fun c=>!yO (bn c)) false]
 have hna : (a0.any fun c=>!yO (bn c)) = !(a0.all fun c=>yO (bn c)):=by rw [List.not_all_eq_any_not]
 rw [hna]
 unfold jh
 cases (a0.all fun c=>yO (bn c)) <;> simp
def preL (p : List UInt8) : List (List UInt8)→List (List UInt8)
 | []=>[p]
 | q :: qs=>(p ++ q) :: qs
def cut (c : Int) : List UInt8→List (List UInt8)
 | []=>[[]]
 | b :: l=>if bn b = c then [] :: cut c l else preL [b] (cut c l)
theorem preL_ne (p : List UInt8) (l : List (List UInt8)) : preL p l ≠ []:=by cases l <;> simp [preL]
theorem QG (c : Int) (l : List UInt8) : cut c l ≠ []:=by
  cases l with
  | nil=>simp [cut]
  | cons b l => unfold cut; split
                · simp
                · exact preL_ne _ _
theorem preL_nil {l : List (List UInt8)} (h : l ≠ []) : preL [] l = l:=by cases l <;> simp_all [preL]
theorem preL_preL (p q : List UInt8) (l : List (List UInt8)) : preL p (preL q l) = preL (p ++ q) l:=by cases l <;> simp [preL]
theorem VZ (c : Int) (l : List UInt8) : (cut c l).length≤l.length + 1:=by
 induction l with
 | nil=>simp [cut]
 | cons b l ih=>
  unfold cut; split
  ·simp; omega
  ·have:=QG c l
   cases h : cut c l with
   | nil=>exact absurd h this
   | cons q qs=>simp [preL]; rw [h] at ih; simp at ih; omega
theorem cut_mem (c : Int) (l : List UInt8) : ∀ x ∈ cut c l,x.length≤l.length:=by
 induction l with
 | nil=>simp [cut]
 | cons b l ih=>
  unfold cut; split
  ·intro x hx; simp at hx; rcases hx with rfl | hx
   ·simp
   ·have:=ih x hx; simp; omega
  ·have:=QG c l
   cases h : cut c l with
   | nil=>exact absurd h this
   | cons q qs=>
    intro x hx; simp [preL] at hx
    rcases hx with rfl | hx
    ·have:=ih q (by rw [h]; simp); simp; omega
    ·have:=ih x (by rw [h]; simp [hx]); simp; omega
def yJ.b1 (a0 : List UInt8) (a1 : Int) : List (List UInt8) × Int × Int→Option (Step (List (List UInt8)) (List (List UInt8) × Int × Int) (List (List UInt8) × Int)):=
 fun q=>match q with
 | (x5_7,x6_9,x7_10)=>bif (decide (x7_10 < (a0.length : Int))) then (bif inR x7_10 a0.length then (bif (decide ((byt a0 x7_10) = a1)) then (bif inS x6_9 x7_10 (a0.length : Int) then (bif decide ((x5_7.length + ([sub a0 x6_9 x7_10] : List (List UInt8)).length) * 16≤140737488355328) then (some (.nxt (x5_7 ++ ([sub a0 x6_9 x7_10] : List (List UInt8)),IntKind.wrap .i64 (x7_10 + 1),IntKind.wrap .i64 (x7_10 + 1)))) else none) else none) else (some (.nxt (x5_7,x6_9,IntKind.wrap .i64 (x7_10 + 1))))) else none) else (some (.brk (x5_7,x6_9)))
def yJ.sh (k : Nat) (a0 : List UInt8) (a1 : Int) : Option (List (List UInt8)):=
  (qt (yJ.b1 a0 a1) k (([] : List (List UInt8)),0,0)).bind fun z=>match z with | .inl t=>some t | .inr (x5_14,x6_16)=>bif inS x6_16 (a0.length : Int) (a0.length : Int) then (bif decide ((x5_14.length + ([sub a0 x6_16 (a0.length : Int)] : List (List UInt8)).length) * 16≤140737488355328) then (some (x5_14 ++ ([sub a0 x6_16 (a0.length : Int)] : List (List UInt8)))) else none) else none
theorem Gt {α : Type} (l : List α) (s i : Nat) : sub l (s : Int) (i : Int) = (l.take i).drop s:=rfl
theorem yJ.eq (a0 : List UInt8) (a1 : Int) (h : a0.length≤1048576) : ∃ k,yJ.sh k a0 a1 = some (cut a1 a0):=by
 refine ⟨a0.length + 1,?_⟩
 unfold yJ.sh
 obtain ⟨z,hz,hP⟩ : ∃ z,qt (yJ.b1 a0 a1) (a0.length + 1) (([] : List (List UInt8)),0,0) = some z∧∃ out,∃ s : Nat,z = .inr (out,(s : Int))∧s≤a0.length∧out.length≤a0.length∧out ++ [(a0.take a0.length).drop s] = cut a1 a0:=by
  refine loopF_run (fun (v : List (List UInt8) × Int × Int)=>∃ s i : Nat,v.2.1 = s∧v.2.2 = i∧s≤i∧i≤a0.length∧v.1.length≤i∧v.1 ++ preL ((a0.take i).drop s) (cut a1 (a0.drop i)) = cut a1 a0)
   (fun v=>a0.length - v.2.2.toNat) (fun z=>∃ out,∃ s : Nat,z = .inr (out,(s : Int))∧s≤a0.length∧out.length≤a0.length∧out ++ [(a0.take a0.length).drop s] = cut a1 a0) ?_ (a0.length + 1) (([] : List (List UInt8)),(0 : Int),(0 : Int)) ⟨0,0,rfl,rfl,by omega,by omega,by simp,by simpa using preL_nil (QG _ _)⟩ (by simp)
  rintro ⟨out,s,i⟩ ⟨s',i',hs,hi,hsi,hin,hlen,he⟩
  simp only at hs hi hlen he; subst hs hi
  unfold yJ.b1
  by_cases hlt : i' < a0.length
  ·have hd : a0.drop i' = a0[i'] :: a0.drop (i' + 1):=List.drop_eq_getElem_cons hlt
   have hg : a0.getD i' 0 = a0[i']:=by simp [List.getD_eq_getElem?_getD,List.getElem?_eq_getElem hlt]
   have ht : (a0.take (i' + 1)).drop s' = (a0.take i').drop s' ++ [a0[i']]:=by
    rw [List.take_succ_eq_append_getElem hlt,List.drop_append_of_le_length (by simp; omega)]
   simp only [y6,hlt,decide_true,cond_true,qT hlt,XI,hg,vX hlt (by omega)]
   by_cases hc : bn a0[i'] = a1
   ·have h1 : decide ((out.length + ([sub a0 (s' : Int) (i' : Int)] : List (List UInt8)).length) * 16≤140737488355328) = true:=by simp; omega
    simp only [hc,decide_true,cond_true,Vf (l:=(s' : Int)) (h:=(i' : Int)) (n:=(a0.length : Int)) (by omega) (by omega) (by omega),h1]
    refine ⟨_,rfl,⟨i' + 1,i' + 1,by simp,by simp,by omega,by omega,by simp; omega,?_⟩,by simp; omega⟩
    rw [← he,hd]
    have hc' : cut a1 (a0[i'] :: a0.drop (i' + 1)) = [] :: cut a1 (a0.drop (i' + 1)):=by rw [cut]; simp [hc]
    rw [hc']
    have this : (a0.take (i' + 1)).drop (i' + 1) = []:=by simp
    rw [this,preL_nil (QG _ _),Gt]
    simp [preL]
   ·simp only [hc,decide_false,cond_false]
    refine ⟨_,rfl,⟨s',i' + 1,by simp,by simp,by omega,by omega,by simp; omega,?_⟩,by simp; omega⟩
    simp only
    rw [← he,hd]
    have hc' : cut a1 (a0[i'] :: a0.drop (i' + 1)) = preL [a0[i']] (cut a1 (a0.drop (i' + 1))):=by rw [cut]; simp [hc]
    rw [hc',preL_preL,ht]
  ·have : i' = a0.length:=by omega
   subst this
   simp only [y6,Nat.lt_irrefl,decide_false,cond_false]
   refine ⟨_,rfl,⟨_,s',rfl,by omega,by omega,?_⟩⟩
   rw [← he]
   simp [cut,preL]
 rw [hz]
 obtain ⟨out,s,rfl,hs,hl,he⟩:=hP
 have h1 : decide ((out.length + ([sub a0 (s : Int) (a0.length : Int)] : List (List UInt8)).length) * 16≤140737488355328) = true:=by simp; omega
 simp only [Option.bind_some,Vf (l:=(s : Int)) (h:=(a0.length : Int)) (n:=(a0.length : Int)) (by omega) (by omega) (by omega),cond_true,h1]
 rw [Gt,he]
theorem cut_sum (c : Int) (n : Nat) (l : List UInt8) : ∀ m,(cut c l).length≤m→(∀ x ∈ cut c l,x.length≤n)→l.length + 1≤m * (n + 1):=by
 induction l with
 | nil=>intro m h1 _; simp [cut] at h1; have : 1 * 1≤m * (n + 1):=Nat.mul_le_mul h1 (by omega); simpa using this
 | cons b l ih=>
  intro m h1 h2
  unfold cut at h1 h2
  split at h1
  ·rename_i hc
   rw [if_pos hc] at h2
   obtain ⟨m,rfl⟩ : ∃ j,m = j + 1:=⟨m - 1,by simp at h1; omega⟩
   have:=ih m (by simpa using h1) (fun x hx=>h2 x (by simp [hx]))
   rw [Nat.succ_mul]; simp; omega
  ·rename_i hc
   rw [if_neg hc] at h2
   have hne:=QG c l
   cases h : cut c l with
   | nil=>exact absurd h hne
   | cons q qs=>
    rw [h] at h1 h2
    simp only [preL,List.length_cons] at h1
    have hq:=h2 ([b] ++ q) (by simp [preL])
    have key : ∀ (l : List UInt8) (q : List UInt8) (qs : List (List UInt8)),cut c l = q :: qs→l.length = q.length + (qs.map fun x=>x.length + 1).sum:=by
     intro l
     induction l with
     | nil=>intro q qs h; simp [cut] at h; obtain ⟨rfl,rfl⟩:=h; simp
     | cons b l ih2=>
      intro q qs h
      unfold cut at h
      have hne:=QG c l
      cases h' : cut c l with
      | nil=>exact absurd h' hne
      | cons q' qs'=>
       have:=ih2 q' qs' h'
       rw [h'] at h
       split at h
       ·simp at h; obtain ⟨rfl,rfl⟩:=h; simp; omega
       ·simp [preL] at h; obtain ⟨rfl,rfl⟩:=h; simp; omega
    have hk:=key l q qs h
    have hsum : ∀ (qs : List (List UInt8)),(∀ x ∈ qs,x.length≤n)→(qs.map fun x=>x.length + 1).sum≤qs.length * (n + 1):=by
     intro qs
     induction qs with
     | nil=>simp
     | cons x r ih3=>intro hx; have h4:=ih3 (fun y hy=>hx y (by simp [hy])); have h5:=hx x (by simp); simp only [List.map_cons,List.sum_cons,List.length_cons,Nat.succ_mul]; omega
    have h6:=hsum qs (fun x hx=>h2 x (by simp [preL,hx]))
    have h7 : (qs.length + 1) * (n + 1)≤m * (n + 1):=Nat.mul_le_mul_right _ h1
    rw [Nat.succ_mul] at h7
    simp at hq ⊢
    omega
def qC (t : List UInt8) : Bool:=decide (t.length < 36) && (decide ((cut 47 t).length≤4) && (cut 47 t).all jh)
def jd.b1 (a0 : List UInt8) : Int→Option (Step (Bool) (Int) (Unit)):=
 fun x4_8=>bif (decide (x4_8 < ((cut 47 a0).length : Int))) then (bif inR x4_8 (cut 47 a0).length then (bif (!(jh (gt (cut 47 a0) x4_8))) then (some (.ret false)) else (some (.nxt (IntKind.wrap .i64 (x4_8 + 1))))) else none) else (some (.brk ()))
def jd.sh (k : Nat) (a0 : List UInt8) : Option (Bool):=
  bif (decide (36 < (a0.length : Int))) then (some false) else (bif decide (a0.length≤1048576) then (bif (decide (4 < ((cut 47 a0).length : Int))) then (some false) else ((qt (jd.b1 a0) k 0).bind fun z=>match z with | .inl t=>some t | .inr _=>some true)) else none)
theorem Gh {t : List UInt8} (h : jh t = true) : t.length≤8:=by
 simp [jh,within] at h; omega
theorem yl {α : Type} [Inhabited α] (l : List α) (i : Nat) : gt l (i : Int) = l.getD i default:=rfl
theorem jd.eq (a0 : List UInt8) : ∃ k,jd.sh k a0 = some (qC a0):=by
 refine ⟨a0.length + 2,?_⟩
 unfold jd.sh
 by_cases h1 : 36 < a0.length
 ·have : (36 : Int) < (a0.length : Int):=by omega
  have h2 : ¬ a0.length < 36:=by omega
  simp [this,qC,h2]
 ·have h2 : ¬ (36 : Int) < (a0.length : Int):=by omega
  have h3 : a0.length≤1048576:=by omega
  simp only [h2,decide_false,cond_false,h3,decide_true,cond_true]
  by_cases h4 : 4 < (cut 47 a0).length
  ·have h5 : (4 : Int) < ((cut 47 a0).length : Int):=by omega
   have h6 : ¬ (cut 47 a0).length≤4:=by omega
   simp [h5,qC,h6]
  ·have h5 : ¬ (4 : Int) < ((cut 47 a0).length : Int):=by omega
   simp only [h5,decide_false,cond_false]
   have hb : ∀ i : Nat,i < (cut 47 a0).length→jd.b1 a0 i = some (sc (if !jh ((cut 47 a0).getD i default) then some false else none : Option Bool) ((i : Int) + 1)):=by
    intro i hi
    simp only [jd.b1,y6,hi,decide_true,cond_true,qT hi,yl,vX hi (by omega)]
    cases jh ((cut 47 a0).getD i default) <;> rfl
   have hn : jd.b1 a0 (cut 47 a0).length = some (.brk ()):=by simp [jd.b1]
   rw [jx _ _ hb hn (a0.length + 2) (by have:=VZ 47 a0; omega),G7 (cut 47 a0) default (fun t=>!jh t) false]
   have h6 : (cut 47 a0).length≤4:=by omega
   have h7 : (cut 47 a0).any (fun t=>!jh t) = !(cut 47 a0).all jh:=by rw [List.not_all_eq_any_not]
   rw [h7]
   cases ha : (cut 47 a0).all jh with
   | false=>simp [qC,ha]
   | true=>
    have:=cut_sum 47 8 a0 4 h6 (fun x hx=>Gh (List.all_eq_true.1 ha x hx))
    have h8 : a0.length < 36:=by omega
    simp [qC,h6,ha,h8]
def YP {α : Type} (p : α→Option Bool) : List α→Option Int
 | []=>some (-1)
 | x :: l=>(p x).bind fun b=>bif b then some 0 else (YP p l).map fun i=>if i = -1 then -1 else i + 1
def YQ {α : Type} (p : α→Option Bool) : List α→Option Bool
 | []=>some false
 | x :: l=>(p x).bind fun b=>bif b then some true else YQ p l
def allO {α : Type} (p : α→Option Bool) : List α→Option Bool
 | []=>some true
 | x :: l=>(p x).bind fun b=>bif b then allO p l else some false
theorem anyO_some {α : Type} {p : α→Option Bool} {q : α→Bool} : ∀ {l : List α},(∀ x ∈ l,p x = some (q x))→YQ p l = some (l.any q):=by
 intro l
 induction l with
 | nil=>intro _; rfl
 | cons x l ih=>intro h; simp only [YQ,h x (by simp),Option.bind_some,List.any_cons]; rw [ih fun y hy=>h y (by simp [hy])]; cases q x <;> rfl
theorem allO_some {α : Type} {p : α→Option Bool} {q : α→Bool} : ∀ {l : List α},(∀ x ∈ l,p x = some (q x))→allO p l = some (l.all q):=by
 intro l
 induction l with
 | nil=>intro _; rfl
 | cons x l ih=>intro h; simp only [allO,h x (by simp),Option.bind_some,List.all_cons]; rw [ih fun y hy=>h y (by simp [hy])]; cases q x <;> rfl
theorem Gq {α : Type} {p : α→Option Bool} : ∀ {l : List α} {i : Int},YP p l = some i→-1≤i∧YQ p l = some (decide (0≤i)):=by
 intro l
 induction l with
 | nil=>intro i h; simp [YP] at h; subst h; simp [YQ]
 | cons x l ih=>
  intro i h
  simp only [YP] at h
  obtain ⟨b,hb,h⟩:=bind_some h
  cases b with
  | true=>simp at h; subst h; simp [YQ,hb]
  | false=>
   simp only [cond_false,Option.map_eq_some_iff] at h
   obtain ⟨j,hj,rfl⟩:=h
   obtain ⟨h1,h2⟩:=ih hj
   simp only [YQ,hb,Option.bind_some,cond_false,h2]
   split <;> simp_all <;> omega
theorem any_idxO {α : Type} {p : α→Option Bool} : ∀ {l : List α} {b : Bool},YQ p l = some b→∃ i,YP p l = some i:=by
 intro l
 induction l with
 | nil=>intro b _; exact ⟨_,rfl⟩
 | cons x l ih=>
  intro b h
  simp only [YQ] at h
  obtain ⟨c,hc,h⟩:=bind_some h
  cases c with
  | true=>exact ⟨0,by simp [YP,hc]⟩
  | false=>obtain ⟨i,hi⟩:=ih (by simpa using h); exact ⟨if i = -1 then -1 else i + 1,by simp [YP,hc,hi]⟩
theorem anyO_not {α : Type} {p : α→Option Bool} : ∀ (l : List α),YQ (fun x=>(p x).map (!·)) l = (allO p l).map (!·):=by
 intro l
 induction l with
 | nil=>rfl
 | cons x l ih=>
  simp only [YQ,allO]
  cases p x with
  | none=>rfl
  | some b=>cases b <;> simp [ih]
def vi.b1 (a0 : List (List UInt8)) (a1 : List UInt8→Option Bool) : Int→Option (Step (Int) (Int) (Unit)):=
 fun x8_1=>bif (decide (x8_1 < (a0.length : Int))) then (bif inR x8_1 a0.length then ((a1 (gt a0 x8_1)).bind fun z22=>bif z22 then (some (.ret x8_1)) else (some (.nxt (IntKind.wrap .i64 (x8_1 + 1))))) else none) else (some (.brk ()))
def vi.sh (k : Nat) (a0 : List (List UInt8)) (a1 : List UInt8→Option Bool) : Option (Int):=
  (qt (vi.b1 a0 a1) k 0).bind fun z=>match z with | .inl t=>some t | .inr _=>some (-1)
theorem J1 {α : Type} [Inhabited α] {p : α→Option Bool} (l : List α) : ∀ (m i : Nat),i + m = l.length→∀ r,YP p (l.drop i) = some r→∀ b : Int→Option (Step Int Int Unit),
  (∀ i : Nat,i < l.length→b i = (p (l.getD i default)).bind fun z=>bif z then some (.ret (i : Int)) else some (.nxt ((i : Int) + 1)))→b l.length = some (.brk ())→∀ k,m < k→
  qt b k i = some (if r = -1 then .inr () else .inl ((i : Int) + r)):=by
 intro m
 induction m with
 | zero=>
  intro i hi r hr b hb hn k hk
  obtain ⟨k,rfl⟩ : ∃ j,k = j + 1:=⟨k - 1,by omega⟩
  have : i = l.length:=by omega
  subst this
  simp [YP] at hr; subst hr
  simp [qt,hn]
 | succ m ih=>
  intro i hi r hr b hb hn k hk
  obtain ⟨k,rfl⟩ : ∃ j,k = j + 1:=⟨k - 1,by omega⟩
  have hlt : i < l.length:=by omega
  rw [List.drop_eq_getElem_cons hlt] at hr
  have hg : l.getD i default = l[i]:=by simp [List.getD_eq_getElem?_getD,List.getElem?_eq_getElem hlt]
  simp only [YP] at hr
  obtain ⟨c,hc,hr⟩:=bind_some hr
  simp only [qt,hb i hlt,hg,hc,Option.bind_some]
  cases c with
  | true=>simp at hr; subst hr; simp
  | false=>
   simp only [cond_false,Option.map_eq_some_iff] at hr
   obtain ⟨j,hj,rfl⟩:=hr
   simp only [cond_false,Option.bind_some]
   have:=ih (i + 1) (by omega) j hj b hb hn k (by omega)
   rw [Int.natCast_add,Int.natCast_one] at this
   rw [this]
   have:=(Gq hj).1
   by_cases h : j = -1
   ·simp [h]
   ·simp [h]
    have h2 : ¬ j + 1 = -1:=by omega
    simp [h2]; omega
theorem vi.eq (a0 : List (List UInt8)) (a1 : List UInt8→Option Bool) (h : a0.length≤4611686018427387904) {r : Int} (H : YP a1 a0 = some r) : ∃ k,vi.sh k a0 a1 = some r:=by
 refine ⟨a0.length + 1,?_⟩
 have:=J1 a0 a0.length 0 (by omega) r (by simpa using H) (vi.b1 a0 a1) (fun i hi=>by
  simp only [vi.b1,y6,hi,decide_true,cond_true,qT hi,yl,vX hi h]) (by simp [vi.b1]) (a0.length + 1) (by omega)
 simp only [Int.natCast_zero] at this
 unfold vi.sh
 rw [this]
 by_cases hr : r = -1
 ·simp [hr]
 ·simp [hr]
def vJ.sh (a0 : List (List UInt8)) (a1 : List UInt8→Option Bool) : Option (Bool):=
 bif decide (a0.length≤4611686018427387904) then (((YP a1 a0)).bind fun z2=>some (decide (0≤z2))) else none
theorem vJ.eq (a0 : List (List UInt8)) (a1 : List UInt8→Option Bool) (h : a0.length≤4611686018427387904) {r : Bool} (H : YQ a1 a0 = some r) : vJ.sh a0 a1 = some r:=by
 obtain ⟨i,hi⟩:=any_idxO H
 have:=(Gq hi).2
 rw [this] at H
 simp [vJ.sh,h,hi,Option.some.inj H]
def jW.sh (a0 : List UInt8) (a1 : List UInt8→Option Bool) : Option (Bool):=
 (a1 a0).bind fun z1=>some (!z1)
theorem jW.eq (a0 : List UInt8) (a1 : List UInt8→Option Bool) {r : Bool} (H : ((a1 a0).map (!·)) = some r) : jW.sh a0 a1 = some r:=by
 simp only [Option.map_eq_some_iff] at H
 obtain ⟨b,hb,rfl⟩:=H
 simp [jW.sh,hb]
def QM.sh (a0 : List (List UInt8)) (a1 : List UInt8→Option Bool) : Option (Bool):=
 bif decide (a0.length≤4611686018427387904) then (((YQ (fun (x0_ : List UInt8)=>((a1 x0_).map (!·))) a0)).bind fun z12=>some (!z12)) else none
theorem QM.eq (a0 : List (List UInt8)) (a1 : List UInt8→Option Bool) (h : a0.length≤4611686018427387904) {r : Bool} (H : allO a1 a0 = some r) : QM.sh a0 a1 = some r:=by
 have e : YQ (fun x=>(a1 x).map (!·)) a0 = some (!r):=by rw [anyO_not,H]; rfl
 simp only [QM.sh,h,decide_true,cond_true]
 rw [e]; simp
def yz.sh (a0 : List UInt8) : Option (List (List UInt8)):=
 bif decide (a0.length≤1048576) then (bif decide (([47] : List UInt8) = [47]) then (some (cut 47 a0)) else none) else none
theorem yz.eq (a0 : List UInt8) (h : a0.length≤1048576) : yz.sh a0 = some (cut 47 a0):=by simp [yz.sh,h]
def Qb.sh (a0 : List UInt8) : Option (Bool):=
 ((bif (decide ((a0.length : Int) < 36)) then (bif decide (a0.length≤1048576) then (some (decide (((cut 47 a0).length : Int)≤4))) else none) else some false)).bind fun z2=>((bif z2 then (bif decide (a0.length≤1048576) then (bif decide ((cut 47 a0).length≤4611686018427387904) then (((allO (fun (x0_ : List UInt8)=>bif decide (x0_.length≤4611686018427387904) then (some (jh x0_)) else none) (cut 47 a0))).bind fun z21=>some z21) else none) else none) else some false)).bind fun z11=>some z11
theorem Qb.eq (a0 : List UInt8) : Qb.sh a0 = some (qC a0):=by
 unfold Qb.sh
 by_cases h : a0.length < 36
 ·have h1 : (a0.length : Int) < 36:=by omega
  have h2 : a0.length≤1048576:=by omega
  have h3 : (cut 47 a0).length≤4611686018427387904:=by have:=VZ 47 a0; omega
  have h4 : ((cut 47 a0).length : Int)≤4 ↔ (cut 47 a0).length≤4:=by omega
  have h5:=allO_some (p:=fun (x0_ : List UInt8)=>bif decide (x0_.length≤4611686018427387904) then (some (jh x0_)) else none) (q:=jh) (l:=cut 47 a0) (fun x hx=>by
   have:=cut_mem 47 a0 x hx
   have h6 : x.length≤4611686018427387904:=by omega
   simp [h6])
  simp only [h1,h2,h3,h4,h5,decide_true,cond_true,Option.bind_some]
  by_cases h7 : (cut 47 a0).length≤4
  ·simp [h7,qC,h]
  ·simp [h7,qC]
 ·have h1 : ¬ (a0.length : Int) < 36:=by omega
  simp [h1,qC,h]
def vY : List (Bool ⊕ Int)→Int
 | a :: b :: l=>if XA a then anyI b else vY l
 | _=>0
def yL.b1 (a0 : List (Bool ⊕ Int)) : Int→Option (Step (Int) (Int) (Unit)):=
 fun x3_1=>bif (decide ((IntKind.wrap .i64 (x3_1 + 1)) < (a0.length : Int))) then (bif inR x3_1 a0.length then (bif (XA (gt a0 x3_1)) then (bif inR (IntKind.wrap .i64 (x3_1 + 1)) a0.length then (some (.ret (anyI (gt a0 (IntKind.wrap .i64 (x3_1 + 1)))))) else none) else (some (.nxt (IntKind.wrap .i64 (x3_1 + 2))))) else none) else (some (.brk ()))
def yL.sh (k : Nat) (a0 : List (Bool ⊕ Int)) : Option (Int):=
  (qt (yL.b1 a0) k 0).bind fun z=>match z with | .inl t=>some t | .inr _=>some 0
theorem yL.eq (a0 : List (Bool ⊕ Int)) (h : a0.length≤4611686018427387904) : ∃ k,yL.sh k a0 = some (vY a0):=by
  refine ⟨a0.length + 1,?_⟩
  unfold yL.sh
  have key : ∀ (m i k : Nat),a0.length≤i + m→i≤a0.length→m < k→∃ z,qt (yL.b1 a0) k (i : Int) = some z∧(match z with | .inl t=>some t | .inr _=>some 0) = some (vY (a0.drop i)):=by
    intro m
    induction m using Nat.strongRecOn with
    | _ m ih=>
      intro i k him hi hk
      obtain ⟨k,rfl⟩ : ∃ j,k = j + 1:=⟨k - 1,by omega⟩
      simp only [qt,yL.b1]
      have hw : IntKind.wrap .i64 ((i : Int) + 1) = ((i + 1 : Nat) : Int):=by rw [wrap_small (by omega) (by omega)]; simp
      by_cases h1 : i + 1 < a0.length
      · have h2 : i < a0.length:=by omega
        have e : a0.drop i = a0[i] :: a0[i + 1] :: a0.drop (i + 2):=by rw [List.drop_eq_getElem_cons h2,List.drop_eq_getElem_cons h1]
        have g1 : a0.getD i default = a0[i]:=by simp [List.getD_eq_getElem?_getD,List.getElem?_eq_getElem h2]
        have g2 : a0.getD (i + 1) default = a0[i + 1]:=by simp [List.getD_eq_getElem?_getD,List.getElem?_eq_getElem h1]
        rw [hw]
        simp only [y6,h1,decide_true,cond_true,qT h2,qT h1,yl,g1,g2,e,vY]
        cases hb : XA a0[i] with
        | true=>simp
        | false=>
          simp only [cond_false,Option.bind_some]
          have hw2 : IntKind.wrap .i64 ((i : Int) + 2) = ((i + 2 : Nat) : Int):=by rw [wrap_small (by omega) (by omega)]; simp
          rw [hw2]
          by_cases hm : m = 0
          · omega
          · obtain ⟨z,hz,hP⟩:=ih (m - 1) (by omega) (i + 2) k (by omega) (by omega) (by omega)
            exact ⟨z,hz,by simpa using hP⟩
      · rw [hw]
        simp only [y6,h1,decide_false,cond_false,Option.bind_some]
        refine ⟨_,rfl,?_⟩
        have : (a0.drop i).length≤1:=by simp; omega
        cases hd : a0.drop i with
        | nil=>simp [vY]
        | cons x r=>cases r with
          | nil=>simp [vY]
          | cons y s=>rw [hd] at this; simp at this
  obtain ⟨z,hz,hP⟩:=key a0.length 0 (a0.length + 1) (by omega) (by omega) (by omega)
  simp only [Int.natCast_zero] at hz
  rw [hz]; simp only [Option.bind_some]; simpa using hP
theorem Xn {α : Type} [DecidableEq α] [Inhabited α] : ∀ (a b : List α),a.length = b.length→(List.range a.length).findSome? (fun j=>if !decide (a.getD j default = b.getD j default) then some false else none) = if decide (a = b) then none else some false:=by
 intro a b hl
 by_cases h : a = b
 ·subst h
  have : (List.range a.length).findSome? (fun j=>if !decide (a.getD j default = a.getD j default) then some false else none) = none:=by
   rw [List.findSome?_eq_none_iff]; intro j _; simp
  rw [this]; simp
 ·have : ∃ j,j < a.length∧a.getD j default ≠ b.getD j default:=by
   apply Classical.byContradiction
   intro hn
   apply h
   apply List.ext_getElem hl
   intro i h1 h2
   have:=fun hh=>hn ⟨i,h1,hh⟩
   simp only [ne_eq,Classical.not_not] at this
   simpa [List.getD_eq_getElem?_getD,List.getElem?_eq_getElem h1,List.getElem?_eq_getElem h2] using Classical.not_not.1 this
  obtain ⟨j,hj,hne⟩:=this
  simp only [h,decide_false,Bool.false_eq_true,if_false]
  cases hf : (List.range a.length).findSome? (fun j=>if !decide (a.getD j default = b.getD j default) then some false else none) with
  | none=>
   rw [List.findSome?_eq_none_iff] at hf
   have:=hf j (List.mem_range.2 hj)
   have hd : decide (a.getD j default = b.getD j default) = false:=by simpa using hne
   rw [hd] at this; simp at this
  | some t=>
   obtain ⟨j,_,ht⟩:=List.exists_of_findSome?_eq_some hf
   split at ht
   ·rw [← ht]
   ·cases ht
def qx (r : Rec) : Int:=
 if !within r.kind 1 4 then 9 else if !qC r.path then 10
 else if decide (20 < r.body.length) || (decide (r.kind = 2) && decide (r.body = [])) then 8
 else if ((decide (r.kind = 3) || decide (r.kind = 4)) && !decide (r.body = [])) || (!decide (r.kind = 3) && r.opq) then 3
 else if !within r.mode 0 511 || ((decide (r.kind = 2) || decide (r.kind = 4)) && !decide (r.mode = 0)) then 4 else 0
def jX.sh (a0 : Rec) : Option (Int):=
 bif (!(within a0.kind 1 4)) then (some 9) else (bif (!(qC a0.path)) then (some 10) else (bif ((decide (20 < (a0.body.length : Int))) || ((decide (a0.kind = 2)) && (decide (a0.body = ([] : List UInt8))))) then (some 8) else (bif (((!decide (a0.body = ([] : List UInt8))) && ((decide (a0.kind = 3)) || (decide (a0.kind = 4)))) || (a0.opq && (!(decide (a0.kind = 3))))) then (some 3) else (bif ((!(within a0.mode 0 511)) || ((!decide (a0.mode = 0)) && ((decide (a0.kind = 4)) || (decide (a0.kind = 2))))) then (some 4) else (some 0)))))
theorem bif_if {α : Type} (b : Bool) (x y : α) : (bif b then x else y) = if b then x else y:=by cases b <;> rfl
theorem jX.eq (a0 : Rec) : jX.sh a0 = some (qx a0):=by
 unfold jX.sh qx
 have e1 : decide ((20 : Int) < (a0.body.length : Int)) = decide (20 < a0.body.length):=by rw [decide_eq_decide]; omega
 have e2 : (((!decide (a0.body = ([] : List UInt8))) && ((decide (a0.kind = 3)) || (decide (a0.kind = 4)))) || (a0.opq && (!(decide (a0.kind = 3))))) = (((decide (a0.kind = 3) || decide (a0.kind = 4)) && !decide (a0.body = [])) || (!decide (a0.kind = 3) && a0.opq)):=by
  rw [Bool.and_comm (!decide (a0.body = ([] : List UInt8))),Bool.and_comm a0.opq]
 have e3 : ((!(within a0.mode 0 511)) || ((!decide (a0.mode = 0)) && ((decide (a0.kind = 4)) || (decide (a0.kind = 2))))) = (!within a0.mode 0 511 || ((decide (a0.kind = 2) || decide (a0.kind = 4)) && !decide (a0.mode = 0))):=by
  rw [Bool.and_comm (!decide (a0.mode = 0)),Bool.or_comm (decide (a0.kind = 4))]
 rw [e1,e2,e3]
 simp only [bif_if]
 split
 ·rfl
 ·split
  ·rfl
  ·split
   ·rfl
   ·split
    ·rfl
    ·split <;> rfl
def VY.sh (a0 : Rec) : Option (Bool):=
 some (decide ((qx a0) = 0))
theorem VY.eq (a0 : Rec) : VY.sh a0 = some (decide (qx a0 = 0)):=rfl
def qu.sh (a0 : Rec) : Option (Int):=
 bif decide (([.inl (!(within a0.kind 1 4)),.inr 9,.inl (!(qC a0.path)),.inr 10,.inl ((decide (20 < (a0.body.length : Int))) || ((decide (a0.kind = 2)) && (decide (a0.body = ([] : List UInt8))))),.inr 8,.inl ((((decide (a0.kind = 3)) || (decide (a0.kind = 4))) && (!decide (a0.body = ([] : List UInt8)))) || ((!decide (a0.kind = 3)) && a0.opq)),.inr 3,.inl ((!(within a0.mode 0 511)) || (((decide (a0.kind = 2)) || (decide (a0.kind = 4))) && (!decide (a0.mode = 0)))),.inr 4] : List (Bool ⊕ Int)).length≤4611686018427387904) then (some (vY ([.inl (!(within a0.kind 1 4)),.inr 9,.inl (!(qC a0.path)),.inr 10,.inl ((decide (20 < (a0.body.length : Int))) || ((decide (a0.kind = 2)) && (decide (a0.body = ([] : List UInt8))))),.inr 8,.inl ((((decide (a0.kind = 3)) || (decide (a0.kind = 4))) && (!decide (a0.body = ([] : List UInt8)))) || ((!decide (a0.kind = 3)) && a0.opq)),.inr 3,.inl ((!(within a0.mode 0 511)) || (((decide (a0.kind = 2)) || (decide (a0.kind = 4))) && (!decide (a0.mode = 0)))),.inr 4] : List (Bool ⊕ Int)))) else none
theorem qu.eq (a0 : Rec) : qu.sh a0 = some (qx a0):=by
 unfold qu.sh qx
 have e1 : decide ((20 : Int) < (a0.body.length : Int)) = decide (20 < a0.body.length):=by rw [decide_eq_decide]; omega
 rw [e1]; simp only [List.length_cons,List.length_nil]
 simp only [vY,XA,anyI]
 rfl
def Qm.sh (a0 : Rec) : Option (Bool):=
 some (decide ((qx a0) = 0))
theorem Qm.eq (a0 : Rec) : Qm.sh a0 = some (decide (qx a0 = 0)):=rfl
def vw (a b : List UInt8) : Bool:=(b ++ [47]).isPrefixOf a
theorem Vb {t : List UInt8} (h : qC t = true) : t.length < 36:=by simp [qC] at h; exact h.1
theorem VQ {t : List UInt8} (h : qC t = true) : t ≠ []:=by rintro rfl; revert h; decide
theorem Xp (p a : List UInt8) : p.isPrefixOf a = (decide (p.length≤a.length) && decide (a.take p.length = p)):=by
 rw [Bool.eq_iff_iff,List.isPrefixOf_iff_prefix]
 simp only [Bool.and_eq_true,decide_eq_true_eq]
 constructor
 ·intro h; exact ⟨h.length_le,(List.prefix_iff_eq_take.1 h).symm⟩
 ·rintro ⟨_,h⟩; exact List.prefix_iff_eq_take.2 h.symm
def jc.sh (a0 : List UInt8) (a1 : List UInt8) : Option (Bool):=
 ((bif (decide ((a1.length : Int)≤(a0.length : Int))) then (bif inS 0 (a1.length : Int) (a0.length : Int) then (some (decide ((sub a0 0 (a1.length : Int)) = a1))) else none) else some false)).bind fun z2=>some z2
theorem jc.eq (a0 a1 : List UInt8) : jc.sh a0 a1 = some (List.isPrefixOf a1 a0):=by
 unfold jc.sh
 rw [Xp]
 by_cases h : a1.length≤a0.length
 ·have h1 : (a1.length : Int)≤(a0.length : Int):=by omega
  simp only [h1,decide_true,cond_true,Vf (l:=0) (h:=(a1.length : Int)) (n:=(a0.length : Int)) (by omega) (by omega) h1,Option.bind_some,h,Bool.true_and]
  simp [sub]
 ·have h1 : ¬ (a1.length : Int)≤(a0.length : Int):=by omega
  simp [h1,h]
def jK.sh (a0 : List UInt8) (a1 : List UInt8) : Option (Bool):=
 some (List.isPrefixOf a1 a0)
theorem jK.eq (a0 a1 : List UInt8) : jK.sh a0 a1 = some (List.isPrefixOf a1 a0):=rfl
theorem belowP_eq (a b : List UInt8) : vw a b = (decide (b.length < a.length) && (decide (a.take b.length = b) && decide (byt a (b.length : Int) = 47))):=by
  unfold vw
  rw [Xp,Bool.eq_iff_iff]
  simp only [Bool.and_eq_true,decide_eq_true_eq,List.length_append,List.length_cons,List.length_nil]
  constructor
  · rintro ⟨h1,h2⟩
    have hlt : b.length < a.length:=by omega
    rw [List.take_succ_eq_append_getElem hlt] at h2
    have:=List.append_inj h2 (by simp; omega)
    refine ⟨hlt,this.1,?_⟩
    have h3 : a[b.length] = 47:=by simpa using this.2
    show bn (a.getD b.length 0) = 47
    simp [bn,List.getD_eq_getElem?_getD,List.getElem?_eq_getElem hlt,h3]
  · rintro ⟨hlt,h1,h2⟩
    refine ⟨by omega,?_⟩
    rw [List.take_succ_eq_append_getElem hlt,h1]
    have h3 : bn (a.getD b.length 0) = 47:=h2
    have h4 : a.getD b.length 0 = a[b.length]:=by simp [List.getD_eq_getElem?_getD,List.getElem?_eq_getElem hlt]
    rw [h4] at h3
    have : a[b.length] = 47 := UInt8.toNat.inj (by unfold bn at h3; have : a[b.length].toNat = 47 := by omega
                                                   rw [this]; rfl)
    rw [this]
def jY.sh (a0 : List UInt8) (a1 : List UInt8) : Option (Bool):=
 ((bif ((decide (a1 = ([] : List UInt8))) && (!decide (a0 = ([] : List UInt8)))) then some true else (((bif (decide ((a1.length : Int) < (a0.length : Int))) then (bif inS 0 (a1.length : Int) (a0.length : Int) then (some (decide ((sub a0 0 (a1.length : Int)) = a1))) else none) else some false)).bind fun z9=>((bif z9 then (bif inR (a1.length : Int) a0.length then (some (decide ((byt a0 (a1.length : Int)) = 47))) else none) else some false)).bind fun z18=>some z18))).bind fun z8=>some z8
theorem jY.eq (a0 a1 : List UInt8) : jY.sh a0 a1 = some ((decide (a1 = []) && !decide (a0 = [])) || vw a0 a1):=by
 unfold jY.sh
 rw [belowP_eq]
 cases hc : (decide (a1 = ([] : List UInt8)) && !decide (a0 = ([] : List UInt8))) with
 | true=>simp
 | false=>
  simp only [cond_false,Bool.false_or]
  by_cases h : a1.length < a0.length
  ·have h1 : (a1.length : Int) < (a0.length : Int):=by omega
   simp only [h1,h,decide_true,cond_true,Vf (l:=0) (h:=(a1.length : Int)) (n:=(a0.length : Int)) (by omega) (by omega) (by omega),Option.bind_some,Bool.true_and,qT h]
   have : sub a0 0 (a1.length : Int) = a0.take a1.length:=by simp [sub]
   rw [this]
   cases decide (List.take a1.length a0 = a1) <;> simp
  ·have h1 : ¬ (a1.length : Int) < (a0.length : Int):=by omega
   simp [h1,h]
def Vg.sh (a0 : List UInt8) (a1 : List UInt8) : Option (Bool):=
 ((bif (decide (a1 = ([] : List UInt8))) then some true else (bif decide (a1.length + ([47] : List UInt8).length≤9223372036854775807) then (some (List.isPrefixOf (a1 ++ ([47] : List UInt8)) a0)) else none))).bind fun z2=>some z2
theorem Vg.eq (a0 a1 : List UInt8) (h : a1.length≤1048576) : Vg.sh a0 a1 = some (decide (a1 = []) || vw a0 a1):=by
 unfold Vg.sh vw
 by_cases h1 : a1 = []
 ·simp [h1]
 ·have h2 : a1.length + ([47] : List UInt8).length≤9223372036854775807:=by simp; omega
  have h3 : a1.length≤9223372036854775806:=by omega
  simp [h1,h3]
def j4 (d p : List UInt8) : List UInt8:=if d = [] then p else d ++ [47] ++ p
def QI.sh (a0 : List UInt8) (a1 : List UInt8) : Option (List UInt8):=
 bif (decide (a0 = ([] : List UInt8))) then (some a1) else (bif decide (a0.length + ([47] : List UInt8).length≤9223372036854775807) then (bif decide ((a0 ++ ([47] : List UInt8)).length + a1.length≤9223372036854775807) then (some ((a0 ++ ([47] : List UInt8)) ++ a1)) else none) else none)
theorem QI.eq (a0 a1 : List UInt8) (h0 : a0.length≤1048576) (h1 : a1.length≤1048576) : QI.sh a0 a1 = some (j4 a0 a1):=by
 unfold QI.sh j4
 by_cases h : a0 = []
 ·simp [h]
 ·have h2 : a0.length + ([47] : List UInt8).length≤9223372036854775807:=by simp; omega
  have h3 : (a0 ++ ([47] : List UInt8)).length + a1.length≤9223372036854775807:=by simp; omega
  simp only [h,decide_false,cond_false,h2,h3,decide_true,cond_true,if_false]
def VP.sh (a0 : List UInt8) (a1 : List UInt8) : Option (List UInt8):=
 bif (decide (a0 = ([] : List UInt8))) then (some a1) else (bif decide (a0.length + ([47] : List UInt8).length≤9223372036854775807) then (bif decide ((a0 ++ ([47] : List UInt8)).length + a1.length≤9223372036854775807) then (some ((a0 ++ ([47] : List UInt8)) ++ a1)) else none) else none)
theorem VP.eq (a0 a1 : List UInt8) (h0 : a0.length≤1048576) (h1 : a1.length≤1048576) : VP.sh a0 a1 = some (j4 a0 a1):=by
 unfold VP.sh j4
 by_cases h : a0 = []
 ·simp [h]
 ·have h2 : a0.length + ([47] : List UInt8).length≤9223372036854775807:=by simp; omega
  have h3 : (a0 ++ ([47] : List UInt8)).length + a1.length≤9223372036854775807:=by simp; omega
  simp only [h,decide_false,cond_false,h2,h3,decide_true,cond_true,if_false]
theorem Jq (a : List UInt8) : lt8 a a = false:=by
 induction a with
 | nil=>rfl
 | cons x a ih=>simp only [lt8] at ih ⊢; simp [Op.bytesLess,ih]
def vy : List (List UInt8)→List (List UInt8)→Bool
 | x :: xs,y :: ys=>if x = y then vy xs ys else lt8 x y
 | [],_ :: _=>true
 | _,[]=>false
def cmpS (x y : List UInt8) : Int:=if lt8 x y then -1 else if x = y then 0 else 1
def cmpL : List (List UInt8)→List (List UInt8)→Int
 | x :: xs,y :: ys=>if cmpS x y = 0 then cmpL xs ys else cmpS x y
 | [],_ :: _=>-1
 | _ :: _,[]=>1
 | [],[]=>0
theorem J0 : ∀ a b,decide (cmpL a b < 0) = vy a b:=by
 intro a
 induction a with
 | nil=>intro b; cases b <;> simp [cmpL,vy]
 | cons x a ih=>
  intro b
  cases b with
  | nil=>simp [cmpL,vy]
  | cons y b=>
   unfold cmpL vy cmpS
   by_cases h : x = y
   ·subst h; simp [Jq,ih]
   ·cases hl : lt8 x y <;> simp [h]
def yb.sh (a0 : List UInt8) : Option (Bool):=
 some (!decide (a0 = a0))
theorem yb.eq (a0 : List UInt8) : yb.sh a0 = some false:=by simp [yb.sh]
def yG.sh (a0 : List UInt8) (a1 : List UInt8) : Option (Int):=
 bif false then (bif false then (some 0) else (some (-1))) else (bif false then (some 1) else (bif (lt8 a0 a1) then (some (-1)) else (bif (!(lt8 a0 a1 || decide (a0 = a1))) then (some 1) else (some 0))))
theorem yG.eq (a0 a1 : List UInt8) : yG.sh a0 a1 = some (cmpS a0 a1):=by
 unfold yG.sh cmpS
 cases lt8 a0 a1 with
 | true=>simp
 | false=>by_cases h : a0 = a1 <;> simp [h]
theorem Q8 {β : Type} (f : Nat→Option β) (n : Nat) : (List.range (n + 1)).findSome? f = match f 0 with | some t=>some t | none=>(List.range n).findSome? fun j=>f (j + 1):=by
  rw [List.range_succ_eq_map,List.findSome?_cons,List.findSome?_map]; rfl
theorem less_scan : ∀ (v w : List (List UInt8)),(match (List.range (min v.length w.length)).findSome? (fun j=>if v.getD j default = w.getD j default then none else some (lt8 (v.getD j default) (w.getD j default))) with | some t=>t | none=>decide (v.length < w.length)) = vy v w:=by
  intro v
  induction v with
  | nil=>intro w; cases w <;> simp [vy]
  | cons x v ih=>
    intro w
    cases w with
    | nil=>simp [vy]
    | cons y w=>
      simp only [List.length_cons,Nat.add_min_add_right,Q8,List.getD_cons_zero,List.getD_cons_succ]
      by_cases h : x = y
      · simp only [h,if_true,vy]
        rw [← ih w]
        simp only [Nat.add_lt_add_iff_right]
      · simp [h,vy]
theorem cmp_scan : ∀ (v w : List (List UInt8)),(match (List.range v.length).findSome? (fun j=>if w.length≤j then some 1 else if cmpS (v.getD j default) (w.getD j default) = 0 then none else some (cmpS (v.getD j default) (w.getD j default))) with | some t=>t | none=>if v.length < w.length then -1 else 0) = cmpL v w:=by
  intro v
  induction v with
  | nil=>intro w; cases w <;> simp [cmpL]
  | cons x v ih=>
    intro w
    simp only [List.length_cons,Q8]
    cases w with
    | nil=>simp [cmpL]
    | cons y w=>
      simp only [List.length_cons,List.getD_cons_zero,List.getD_cons_succ,Nat.add_le_add_iff_right,Nat.add_lt_add_iff_right]
      by_cases h : cmpS x y = 0
      · simp only [h,if_true,cmpL]
        rw [← ih w]
        simp
      · simp [h,cmpL]
def vN.b1 (a0 : List UInt8) (a1 : List UInt8) : Int→Option (Step (Bool) (Int) (Unit)):=
 fun x7_11=>bif ((decide (x7_11 < ((cut 47 a0).length : Int))) && (decide (x7_11 < ((cut 47 a1).length : Int)))) then (bif inR x7_11 (cut 47 a0).length then (bif inR x7_11 (cut 47 a1).length then (bif (!decide ((gt (cut 47 a0) x7_11) = (gt (cut 47 a1) x7_11))) then (bif inR x7_11 (cut 47 a0).length then (bif inR x7_11 (cut 47 a1).length then (some (.ret (lt8 (gt (cut 47 a0) x7_11) (gt (cut 47 a1) x7_11)))) else none) else none) else (some (.nxt (IntKind.wrap .i64 (x7_11 + 1))))) else none) else none) else (some (.brk ()))
def vN.sh (k : Nat) (a0 : List UInt8) (a1 : List UInt8) : Option (Bool):=
  bif decide (a0.length≤1048576) then (bif decide (a1.length≤1048576) then ((qt (vN.b1 a0 a1) k 0).bind fun z=>match z with | .inl t=>some t | .inr _=>some (decide (((cut 47 a0).length : Int) < ((cut 47 a1).length : Int)))) else none) else none
theorem vN.eq (a0 a1 : List UInt8) (h0 : a0.length≤1048576) (h1 : a1.length≤1048576) : ∃ k,vN.sh k a0 a1 = some (vy (cut 47 a0) (cut 47 a1)):=by
 refine ⟨(cut 47 a0).length + 1,?_⟩
 unfold vN.sh
 have hl0:=VZ 47 a0
 have hb : ∀ i : Nat,i < min (cut 47 a0).length (cut 47 a1).length→vN.b1 a0 a1 i = some (sc (if (cut 47 a0).getD i default = (cut 47 a1).getD i default then none else some (lt8 ((cut 47 a0).getD i default) ((cut 47 a1).getD i default)) : Option Bool) ((i : Int) + 1)):=by
  intro i hi
  have hi0 : i < (cut 47 a0).length:=by omega
  have hi1 : i < (cut 47 a1).length:=by omega
  simp only [vN.b1,y6,hi0,hi1,decide_true,Bool.and_self,cond_true,qT hi0,qT hi1,yl,vX hi0 (by omega)]
  by_cases he : (cut 47 a0).getD i default = (cut 47 a1).getD i default
  ·simp only [he,decide_true,Bool.not_true,if_true,cond_false,JT]
  ·simp only [he,decide_false,Bool.not_false,if_false,cond_true,JP]
 have hn : vN.b1 a0 a1 ((min (cut 47 a0).length (cut 47 a1).length : Nat) : Int) = some (.brk ()):=by
  simp only [vN.b1,y6]
  have : (decide (min (cut 47 a0).length (cut 47 a1).length < (cut 47 a0).length) && decide (min (cut 47 a0).length (cut 47 a1).length < (cut 47 a1).length)) = false:=by simp; omega
  rw [this]; rfl
 simp only [h0,h1,decide_true,cond_true]
 rw [jx _ _ hb hn _ (by omega),← less_scan]
 cases (List.range (min (cut 47 a0).length (cut 47 a1).length)).findSome? _ with
 | some t=>simp
 | none=>
  have : ((cut 47 a0).length : Int) < ((cut 47 a1).length : Int) ↔ (cut 47 a0).length < (cut 47 a1).length:=by omega
  simp [this]
def vO (a b : List UInt8) : Bool:=(qC a && qC b) && vy (cut 47 a) (cut 47 b)
def qH.b1 (a0 : List (List UInt8)) (a1 : List (List UInt8)) : Int→Option (Step (Int) (Int) (Unit)):=
 fun x11_1=>bif (decide (x11_1 < (a0.length : Int))) then (bif inR x11_1 a0.length then (bif (decide ((a1.length : Int)≤x11_1)) then (some (.ret 1)) else (bif inR x11_1 a1.length then (bif (!decide ((cmpS (gt a0 x11_1) (gt a1 x11_1)) = 0)) then (some (.ret (cmpS (gt a0 x11_1) (gt a1 x11_1)))) else (some (.nxt (IntKind.wrap .i64 (x11_1 + 1))))) else none)) else none) else (some (.brk ()))
def qH.sh (k : Nat) (a0 : List (List UInt8)) (a1 : List (List UInt8)) : Option (Int):=
  (qt (qH.b1 a0 a1) k 0).bind fun z=>match z with | .inl t=>some t | .inr _=>bif (decide ((a0.length : Int) < (a1.length : Int))) then (some (-1)) else (some 0)
theorem qH.eq (a0 a1 : List (List UInt8)) (h0 : a0.length≤4611686018427387904) (h1 : a1.length≤4611686018427387904) : ∃ k,qH.sh k a0 a1 = some (cmpL a0 a1):=by
 refine ⟨a0.length + 1,?_⟩
 unfold qH.sh
 have hb : ∀ i : Nat,i < a0.length→qH.b1 a0 a1 i = some (sc (if a1.length≤i then some 1 else if cmpS (a0.getD i default) (a1.getD i default) = 0 then none else some (cmpS (a0.getD i default) (a1.getD i default)) : Option Int) ((i : Int) + 1)):=by
  intro i hi
  simp only [qH.b1,y6,hi,decide_true,cond_true,qT hi,yl,vX hi h0]
  by_cases hm : a1.length≤i
  ·have : (a1.length : Int)≤(i : Int):=by omega
   simp [hm,this]
  ·have h2 : ¬ (a1.length : Int)≤(i : Int):=by omega
   have h3 : i < a1.length:=by omega
   simp only [h2,hm,decide_false,cond_false,qT h3,cond_true,if_false]
   by_cases he : cmpS (a0.getD i default) (a1.getD i default) = 0
   ·simp only [he,decide_true,Bool.not_true,if_true,cond_false,JT]
   ·simp only [he,decide_false,Bool.not_false,if_false,cond_true,JP]
 have hn : qH.b1 a0 a1 a0.length = some (.brk ()):=by simp [qH.b1]
 rw [jx _ _ hb hn _ (by omega),← cmp_scan]
 cases (List.range a0.length).findSome? _ with
 | some t=>simp
 | none=>
  by_cases h : a0.length < a1.length
  ·have : (a0.length : Int) < (a1.length : Int):=by omega
   simp [h,this]
  ·have : ¬ (a0.length : Int) < (a1.length : Int):=by omega
   simp [h,this]
def impl_compare.sh (a0 : List UInt8) (a1 : List UInt8) : Option (Int):=
 bif decide (a0.length≤1048576) then (bif decide (a1.length≤1048576) then (bif decide ((cut 47 a0).length≤4611686018427387904) then (bif decide ((cut 47 a1).length≤4611686018427387904) then (some (cmpL (cut 47 a0) (cut 47 a1))) else none) else none) else none) else none
theorem impl_compare.eq (a0 a1 : List UInt8) (h0 : a0.length≤1048576) (h1 : a1.length≤1048576) : impl_compare.sh a0 a1 = some (cmpL (cut 47 a0) (cut 47 a1)):=by
 have h2:=VZ 47 a0
 have h3:=VZ 47 a1
 have h4 : (cut 47 a0).length≤4611686018427387904:=by omega
 have h5 : (cut 47 a1).length≤4611686018427387904:=by omega
 simp [impl_compare.sh,h0,h1,h4,h5]
def jZ.sh (a0 : List UInt8) (a1 : List UInt8) : Option (Bool):=
 ((bif ((qC a0) && (qC a1)) then (bif decide (a0.length≤1048576) then (bif decide (a1.length≤1048576) then (some (decide ((cmpL (cut 47 a0) (cut 47 a1)) < 0))) else none) else none) else some false)).bind fun z10=>some z10
theorem jZ.eq (a0 a1 : List UInt8) : jZ.sh a0 a1 = some (vO a0 a1):=by
 unfold jZ.sh vO
 cases hc : (qC a0 && qC a1) with
 | false=>simp
 | true=>
  simp only [Bool.and_eq_true] at hc
  have h0:=Vb hc.1
  have h1:=Vb hc.2
  have h4 : a0.length≤1048576:=by omega
  have h5 : a1.length≤1048576:=by omega
  simp only [h4,h5,decide_true,cond_true,Option.bind_some,J0,Bool.true_and]
end Go.UL
