import Derived.Test.YtdhmlillkbjjjaaGreatDoorK
set_option linter.unusedVariables false
set_option linter.unusedSimpArgs false
namespace Go.UL
open Go.RowKit
theorem wrap_small {n : Int} (h0 : -9223372036854775808≤n) (h1 : n≤9223372036854775807) : IntKind.wrap .i64 n = n:=by rw [IntKind.wrap_i64]; omega
def sc {T V E : Type} (o : Option T) (v : V) : Step T V E:=match o with | some t=>.ret t | none=>.nxt v
@[simp] theorem V7 {T V E : Type} (t : T) (v : V) : (sc (some t) v : Step T V E) = .ret t:=rfl
@[simp] theorem VR {T V E : Type} (v : V) : (sc (none : Option T) v : Step T V E) = .nxt v:=rfl
theorem Yk {T : Type} {b : Int → Option (Step T Int Unit)} (n : Nat) (f : Nat → Option T) (hb : ∀ i : Nat, i < n → b i = some (sc (f i) ((i : Int) + 1))) (hn : b n = some (.brk ())) :
    ∀ (m i k : Nat),i + m = n→m < k→ql b k i = some (match (List.range' i m).findSome? f with | some t=>.inl t | none=>.inr ()):=by
  intro m
  induction m with
  | zero=>
    intro i k hi hk
    obtain ⟨k,rfl⟩ : ∃ j,k = j + 1:=⟨k - 1,by omega⟩
    have : i = n:=by omega
    subst this
    simp [ql,hn]
  | succ m ih=>
    intro i k hi hk
    obtain ⟨k,rfl⟩ : ∃ j,k = j + 1:=⟨k - 1,by omega⟩
    simp only [ql,hb i (by omega),Option.bind_some,List.range'_succ,List.findSome?_cons]
    cases hf : f i with
    | some t=>simp
    | none=>
      simp only []
      have:=ih (i + 1) k (by omega) (by omega)
      rw [Int.natCast_add,Int.natCast_one] at this
      exact this
theorem yO {T : Type} {b : Int → Option (Step T Int Unit)} (n : Nat) (f : Nat → Option T) (hb : ∀ i : Nat, i < n → b i = some (sc (f i) ((i : Int) + 1))) (hn : b n = some (.brk ())) (k : Nat) (hk : n < k) :
    ql b k 0 = some (match (List.range n).findSome? f with | some t=>.inl t | none=>.inr ()):=by
  have:=Yk n f hb hn n 0 k (by omega) hk
  rw [List.range_eq_range']
  exact this
theorem find_any {α : Type} {T : Type} (l : List α) (d : α) (q : α→Bool) (r : T) : ∀ (i : Nat) (m : Nat),i + m = l.length→(List.range' i m).findSome? (fun j=>if q (l.getD j d) then some r else none) = if (l.drop i).any q then some r else none:=by
  intro i m
  induction m generalizing i with
  | zero => intro h; have : l.length ≤ i := by omega
            simp [List.drop_of_length_le this]
  | succ m ih=>
    intro h
    have hi : i < l.length:=by omega
    rw [List.range'_succ,List.findSome?_cons,List.drop_eq_getElem_cons hi]
    have hg : l.getD i d = l[i]:=by simp [List.getD_eq_getElem?_getD,List.getElem?_eq_getElem hi]
    rw [hg,List.any_cons]
    cases hq : q l[i] with
    | true=>simp
    | false=>simp only [Bool.false_eq_true,if_false,Bool.false_or]; exact ih (i + 1) (by omega)
theorem Ys {α : Type} {T : Type} (l : List α) (d : α) (q : α→Bool) (r : T) : (List.range l.length).findSome? (fun j=>if q (l.getD j d) then some r else none) = if l.any q then some r else none:=by
 have:=find_any l d q r 0 l.length (by omega)
 rw [List.range_eq_range',this]; simp
theorem qW {i n : Nat} (h : i < n) : inR (i : Int) n = true:=Ym (by omega) (by omega)
theorem ye (i n : Nat) : decide ((i : Int) < (n : Int)) = decide (i < n):=by by_cases h : i < n <;> simp [h]
theorem vj {i n : Nat} (h : i < n) (hn : n≤4611686018427387904) : IntKind.wrap .i64 ((i : Int) + 1) = (i : Int) + 1:=wrap_small (by omega) (by omega)
abbrev bn (c : UInt8) : Int:=(c.toNat : Int)
theorem YR (t : List UInt8) (i : Nat) : byt t (i : Int) = bn (t.getD i 0):=rfl
theorem bn_range (c : UInt8) : 0≤bn c∧bn c≤255:=by have:=c.toNat_lt; unfold bn; omega
def within (n lo hi : Int) : Bool:=decide (lo≤n) && decide (n≤hi)
def yE.sh (a0 : Int) (a1 : Int) (a2 : Int) : Option (Bool):=
 some ((decide (a1≤a0)) && (decide (a0≤a2)))
theorem yE.eq (a0 a1 a2 : Int) : yE.sh a0 a1 a2 = some (within a0 a1 a2):=rfl
def jj.sh (a0 : Int) (a1 : Int) (a2 : Int) : Option (Bool):=
 some ((decide (a1≤a0)) && (decide (a0≤a2)))
theorem jj.eq (a0 a1 a2 : Int) : jj.sh a0 a1 a2 = some (within a0 a1 a2):=rfl
def vE (c : Int) : Bool:=decide (33≤c) && decide (c≤126) && !decide (c = 47)
def yi (t : List UInt8) : Bool:=within (t.length : Int) 1 8 && !decide (t = [46]) && !decide (t = [46,46]) && t.all fun c=>vE (bn c)
def vF.b1 (a0 : List UInt8) : Int→Option (Step (Bool) (Int) (Unit)):=
 fun x3_16=>bif (decide (x3_16 < (a0.length : Int))) then (bif inR x3_16 a0.length then (((bif (decide ((byt a0 x3_16) < 33)) then some true else (bif inR x3_16 a0.length then (some (decide (126 < (byt a0 x3_16)))) else none))).bind fun z36=>((bif z36 then some true else (bif inR x3_16 a0.length then (some (decide ((byt a0 x3_16) = 47))) else none))).bind fun z45=>bif z45 then (some (.ret false)) else (some (.nxt (IntKind.wrap .i64 (x3_16 + 1))))) else none) else (some (.brk ()))
def vF.sh (k : Nat) (a0 : List UInt8) : Option (Bool):=
  bif (((!(within (a0.length : Int) 1 8)) || (decide (a0 = ([46] : List UInt8)))) || (decide (a0 = ([46,46] : List UInt8)))) then (some false) else ((ql (vF.b1 a0) k 0).bind fun z=>match z with | .inl t=>some t | .inr _=>some true)
theorem vF.eq (a0 : List UInt8) : ∃ k,vF.sh k a0 = some (yi a0):=by
 refine ⟨a0.length + 1,?_⟩
 unfold vF.sh
 cases hh : (((!(within (a0.length : Int) 1 8)) || (decide (a0 = ([46] : List UInt8)))) || (decide (a0 = ([46,46] : List UInt8)))) with
 | true=>
  simp only [cond_true]
  have : (within (a0.length : Int) 1 8 && !decide (a0 = [46]) && !decide (a0 = [46,46])) = false:=by
   revert hh
   cases within (a0.length : Int) 1 8 <;> cases decide (a0 = ([46] : List UInt8)) <;> cases decide (a0 = ([46,46] : List UInt8)) <;> simp
  simp [yi,this]
 | false=>
  simp only [cond_false]
  have h3 : (within (a0.length : Int) 1 8 && !decide (a0 = [46]) && !decide (a0 = [46,46])) = true:=by
   revert hh
   cases within (a0.length : Int) 1 8 <;> cases decide (a0 = ([46] : List UInt8)) <;> cases decide (a0 = ([46,46] : List UInt8)) <;> simp
  have hlen : a0.length≤4611686018427387904:=by
   have : within (a0.length : Int) 1 8 = true:=by revert h3; cases within (a0.length : Int) 1 8 <;> simp
   simp [within] at this; omega
  have hb : ∀ i : Nat,i < a0.length→vF.b1 a0 i = some (sc (if !vE (bn (a0.getD i 0)) then some false else none : Option Bool) ((i : Int) + 1)):=by
   intro i hi
   simp only [vF.b1,ye,hi,decide_true,cond_true,qW hi,YR,vj hi hlen]
   obtain ⟨c,hc⟩ : ∃ c,bn (a0.getD i 0) = c:=⟨_,rfl⟩
   simp only [hc]
   by_cases h1 : c < 33
   ·have : vE c = false:=by simp [vE]; omega
    simp [h1,this]
   ·by_cases h2 : 126 < c
    ·have : vE c = false:=by simp [vE]; omega
     simp [h1,h2,this]
    ·by_cases h4 : c = 47
     ·have : vE c = false:=by simp [vE,h4]
      simp [h4,show vE 47 = false from rfl]
     ·have : vE c = true:=by simp [vE,h4]; omega
      simp [h1,h2,h4,this]
  rw [yO a0.length _ hb (by simp [vF.b1]) (a0.length + 1) (by omega),Ys a0 0 (fun c=>!vE (bn c)) false]
  have hna : (a0.any fun c=>!vE (bn c)) = !(a0.all fun c=>vE (bn c)):=by rw [List.not_all_eq_any_not]
  rw [hna]
  unfold yi
  rw [h3]
  cases (a0.all fun c=>vE (bn c)) <;> simp
def vQ.b1 (a0 : List UInt8) : Int→Option (Step (Bool) (Int) (Unit)):=
 fun x6_1=>bif (decide (x6_1 < (a0.length : Int))) then (bif inR x6_1 a0.length then (((bif (!(within (IntKind.wrap .i64 (byt a0 x6_1)) 33 126)) then some true else (bif inR x6_1 a0.length then (some (decide ((byt a0 x6_1) = 47))) else none))).bind fun z23=>bif z23 then (some (.ret false)) else (some (.nxt (IntKind.wrap .i64 (x6_1 + 1))))) else none) else (some (.brk ()))
def vQ.sh (k : Nat) (a0 : List UInt8) : Option (Bool):=
  (ql (vQ.b1 a0) k 0).bind fun z=>match z with | .inl t=>some t | .inr _=>some (((within (a0.length : Int) 1 8) && (!decide (a0 = ([46] : List UInt8)))) && (!decide (a0 = ([46,46] : List UInt8))))
theorem vQ.eq (a0 : List UInt8) (hlen : a0.length≤4611686018427387904) : ∃ k,vQ.sh k a0 = some (yi a0):=by
 refine ⟨a0.length + 1,?_⟩
 unfold vQ.sh
 have hb : ∀ i : Nat,i < a0.length→vQ.b1 a0 i = some (sc (if !vE (bn (a0.getD i 0)) then some false else none : Option Bool) ((i : Int) + 1)):=by
  intro i hi
  have hr:=bn_range (a0.getD i 0)
  simp only [vQ.b1,ye,hi,decide_true,cond_true,qW hi,YR,vj hi hlen,wrap_small (show -9223372036854775808≤bn (a0.getD i 0) by omega) (by omega)]
  obtain ⟨c,hc⟩ : ∃ c,bn (a0.getD i 0) = c:=⟨_,rfl⟩
  simp only [hc]
  cases hw : within c 33 126 with
  | false=>
   have : vE c = false:=by simp only [within] at hw; simp only [vE,hw,Bool.false_and]
   simp [this]
  | true=>
   have : vE c = !decide (c = 47):=by simp only [within] at hw; simp only [vE,hw,Bool.true_and]
   rw [this]
   cases decide (c = 47) <;> simp
 rw [yO a0.length _ hb (by simp [vQ.b1]) (a0.length + 1) (by omega),Ys a0 0 (fun c=>!vE (bn c)) false]
 have hna : (a0.any fun c=>!vE (bn c)) = !(a0.all fun c=>vE (bn c)):=by rw [List.not_all_eq_any_not]
 rw [hna]
 unfold yi
 cases (a0.all fun c=>vE (bn c)) <;> simp
def preL (p : List UInt8) : List (List UInt8)→List (List UInt8)
 | []=>[p]
 | q :: qs=>(p ++ q) :: qs
def cut (c : Int) : List UInt8→List (List UInt8)
 | []=>[[]]
 | b :: l=>if bn b = c then [] :: cut c l else preL [b] (cut c l)
theorem J1 (p : List UInt8) (l : List (List UInt8)) : preL p l ≠ []:=by cases l <;> simp [preL]
theorem yZ (c : Int) (l : List UInt8) : cut c l ≠ []:=by
  cases l with
  | nil=>simp [cut]
  | cons b l => unfold cut; split
                · simp
                · exact J1 _ _
theorem Gp {l : List (List UInt8)} (h : l ≠ []) : preL [] l = l:=by cases l <;> simp_all [preL]
theorem XS (p q : List UInt8) (l : List (List UInt8)) : preL p (preL q l) = preL (p ++ q) l:=by cases l <;> simp [preL]
theorem jY (c : Int) (l : List UInt8) : (cut c l).length≤l.length + 1:=by
 induction l with
 | nil=>simp [cut]
 | cons b l ih=>
  unfold cut; split
  ·simp; omega
  ·have:=yZ c l
   cases h : cut c l with
   | nil=>exact absurd h this
   | cons q qs=>simp [preL]; rw [h] at ih; simp at ih; omega
theorem cut_mem (c : Int) (l : List UInt8) : ∀ x ∈ cut c l,x.length≤l.length:=by
 induction l with
 | nil=>simp [cut]
 | cons b l ih=>
  unfold cut; split
  ·intro x hx; simp at hx; rcases hx with rfl | hx
   ·simp
   ·have:=ih x hx; simp; omega
  ·have:=yZ c l
   cases h : cut c l with
   | nil=>exact absurd h this
   | cons q qs=>
    intro x hx; simp [preL] at hx
    rcases hx with rfl | hx
    ·have:=ih q (by rw [h]; simp); simp; omega
    ·have:=ih x (by rw [h]; simp [hx]); simp; omega
def vL.b1 (a0 : List UInt8) (a1 : Int) : List (List UInt8) × Int × Int→Option (Step (List (List UInt8)) (List (List UInt8) × Int × Int) (List (List UInt8) × Int)):=
 fun q=>match q with
 | (x5_7,x6_9,x7_10)=>bif (decide (x7_10 < (a0.length : Int))) then (bif inR x7_10 a0.length then (bif (decide ((byt a0 x7_10) = a1)) then (bif inS x6_9 x7_10 (a0.length : Int) then (bif decide ((x5_7.length + ([sub a0 x6_9 x7_10] : List (List UInt8)).length) * 16≤140737488355328) then (some (.nxt (x5_7 ++ ([sub a0 x6_9 x7_10] : List (List UInt8)),IntKind.wrap .i64 (x7_10 + 1),IntKind.wrap .i64 (x7_10 + 1)))) else none) else none) else (some (.nxt (x5_7,x6_9,IntKind.wrap .i64 (x7_10 + 1))))) else none) else (some (.brk (x5_7,x6_9)))
def vL.sh (k : Nat) (a0 : List UInt8) (a1 : Int) : Option (List (List UInt8)):=
  (ql (vL.b1 a0 a1) k (([] : List (List UInt8)),0,0)).bind fun z=>match z with | .inl t=>some t | .inr (x5_14,x6_16)=>bif inS x6_16 (a0.length : Int) (a0.length : Int) then (bif decide ((x5_14.length + ([sub a0 x6_16 (a0.length : Int)] : List (List UInt8)).length) * 16≤140737488355328) then (some (x5_14 ++ ([sub a0 x6_16 (a0.length : Int)] : List (List UInt8)))) else none) else none
theorem YM {α : Type} (l : List α) (s i : Nat) : sub l (s : Int) (i : Int) = (l.take i).drop s:=rfl
theorem vL.eq (a0 : List UInt8) (a1 : Int) (h : a0.length≤1048576) : ∃ k,vL.sh k a0 a1 = some (cut a1 a0):=by
 refine ⟨a0.length + 1,?_⟩
 unfold vL.sh
 obtain ⟨z,hz,hP⟩ : ∃ z,ql (vL.b1 a0 a1) (a0.length + 1) (([] : List (List UInt8)),0,0) = some z∧∃ out,∃ s : Nat,z = .inr (out,(s : Int))∧s≤a0.length∧out.length≤a0.length∧out ++ [(a0.take a0.length).drop s] = cut a1 a0:=by
  refine JC (fun (v : List (List UInt8) × Int × Int)=>∃ s i : Nat,v.2.1 = s∧v.2.2 = i∧s≤i∧i≤a0.length∧v.1.length≤i∧v.1 ++ preL ((a0.take i).drop s) (cut a1 (a0.drop i)) = cut a1 a0)
   (fun v=>a0.length - v.2.2.toNat) (fun z=>∃ out,∃ s : Nat,z = .inr (out,(s : Int))∧s≤a0.length∧out.length≤a0.length∧out ++ [(a0.take a0.length).drop s] = cut a1 a0) ?_ (a0.length + 1) (([] : List (List UInt8)),(0 : Int),(0 : Int)) ⟨0,0,rfl,rfl,by omega,by omega,by simp,by simpa using Gp (yZ _ _)⟩ (by simp)
  rintro ⟨out,s,i⟩ ⟨s',i',hs,hi,hsi,hin,hlen,he⟩
  simp only at hs hi hlen he; subst hs hi
  unfold vL.b1
  by_cases hlt : i' < a0.length
  ·have hd : a0.drop i' = a0[i'] :: a0.drop (i' + 1):=List.drop_eq_getElem_cons hlt
   have hg : a0.getD i' 0 = a0[i']:=by simp [List.getD_eq_getElem?_getD,List.getElem?_eq_getElem hlt]
   have ht : (a0.take (i' + 1)).drop s' = (a0.take i').drop s' ++ [a0[i']]:=by
    rw [List.take_succ_eq_append_getElem hlt,List.drop_append_of_le_length (by simp; omega)]
   simp only [ye,hlt,decide_true,cond_true,qW hlt,YR,hg,vj hlt (by omega)]
   by_cases hc : bn a0[i'] = a1
   ·have h1 : decide ((out.length + ([sub a0 (s' : Int) (i' : Int)] : List (List UInt8)).length) * 16≤140737488355328) = true:=by simp; omega
    simp only [hc,decide_true,cond_true,Vc (l:=(s' : Int)) (h:=(i' : Int)) (n:=(a0.length : Int)) (by omega) (by omega) (by omega),h1]
    refine ⟨_,rfl,⟨i' + 1,i' + 1,by simp,by simp,by omega,by omega,by simp; omega,?_⟩,by simp; omega⟩
    rw [← he,hd]
    have hc' : cut a1 (a0[i'] :: a0.drop (i' + 1)) = [] :: cut a1 (a0.drop (i' + 1)):=by rw [cut]; simp [hc]
    rw [hc']
    have this : (a0.take (i' + 1)).drop (i' + 1) = []:=by simp
    rw [this,Gp (yZ _ _),YM]
    simp [preL]
   ·simp only [hc,decide_false,cond_false]
    refine ⟨_,rfl,⟨s',i' + 1,by simp,by simp,by omega,by omega,by simp; omega,?_⟩,by simp; omega⟩
    simp only
    rw [← he,hd]
    have hc' : cut a1 (a0[i'] :: a0.drop (i' + 1)) = preL [a0[i']] (cut a1 (a0.drop (i' + 1))):=by rw [cut]; simp [hc]
    rw [hc',XS,ht]
  ·have : i' = a0.length:=by omega
   subst this
   simp only [ye,Nat.lt_irrefl,decide_false,cond_false]
   refine ⟨_,rfl,⟨_,s',rfl,by omega,by omega,?_⟩⟩
   rw [← he]
   simp [cut,preL]
 rw [hz]
 obtain ⟨out,s,rfl,hs,hl,he⟩:=hP
 have h1 : decide ((out.length + ([sub a0 (s : Int) (a0.length : Int)] : List (List UInt8)).length) * 16≤140737488355328) = true:=by simp; omega
 simp only [Option.bind_some,Vc (l:=(s : Int)) (h:=(a0.length : Int)) (n:=(a0.length : Int)) (by omega) (by omega) (by omega),cond_true,h1]
 rw [YM,he]
theorem cut_sum (c : Int) (n : Nat) (l : List UInt8) : ∀ m,(cut c l).length≤m→(∀ x ∈ cut c l,x.length≤n)→l.length + 1≤m * (n + 1):=by
 induction l with
 | nil=>intro m h1 _; simp [cut] at h1; have : 1 * 1≤m * (n + 1):=Nat.mul_le_mul h1 (by omega); simpa using this
 | cons b l ih=>
  intro m h1 h2
  unfold cut at h1 h2
  split at h1
  ·rename_i hc
   rw [if_pos hc] at h2
   obtain ⟨m,rfl⟩ : ∃ j,m = j + 1:=⟨m - 1,by simp at h1; omega⟩
   have:=ih m (by simpa using h1) (fun x hx=>h2 x (by simp [hx]))
   rw [Nat.succ_mul]; simp; omega
  ·rename_i hc
   rw [if_neg hc] at h2
   have hne:=yZ c l
   cases h : cut c l with
   | nil=>exact absurd h hne
   | cons q qs=>
    rw [h] at h1 h2
    simp only [preL,List.length_cons] at h1
    have hq:=h2 ([b] ++ q) (by simp [preL])
    have key : ∀ (l : List UInt8) (q : List UInt8) (qs : List (List UInt8)),cut c l = q :: qs→l.length = q.length + (qs.map fun x=>x.length + 1).sum:=by
     intro l
     induction l with
     | nil=>intro q qs h; simp [cut] at h; obtain ⟨rfl,rfl⟩:=h; simp
     | cons b l ih2=>
      intro q qs h
      unfold cut at h
      have hne:=yZ c l
      cases h' : cut c l with
      | nil=>exact absurd h' hne
      | cons q' qs'=>
       have:=ih2 q' qs' h'
       rw [h'] at h
       split at h
       ·simp at h; obtain ⟨rfl,rfl⟩:=h; simp; omega
       ·simp [preL] at h; obtain ⟨rfl,rfl⟩:=h; simp; omega
    have hk:=key l q qs h
    have hsum : ∀ (qs : List (List UInt8)),(∀ x ∈ qs,x.length≤n)→(qs.map fun x=>x.length + 1).sum≤qs.length * (n + 1):=by
     intro qs
     induction qs with
     | nil=>simp
     | cons x r ih3=>intro hx; have h4:=ih3 (fun y hy=>hx y (by simp [hy])); have h5:=hx x (by simp); simp only [List.map_cons,List.sum_cons,List.length_cons,Nat.succ_mul]; omega
    have h6:=hsum qs (fun x hx=>h2 x (by simp [preL,hx]))
    have h7 : (qs.length + 1) * (n + 1)≤m * (n + 1):=Nat.mul_le_mul_right _ h1
    rw [Nat.succ_mul] at h7
    simp at hq ⊢
    omega
def qI (t : List UInt8) : Bool:=decide (t.length < 36) && (decide ((cut 47 t).length≤4) && (cut 47 t).all yi)
def vV.b1 (a0 : List UInt8) : Int→Option (Step (Bool) (Int) (Unit)):=
 fun x4_8=>bif (decide (x4_8 < ((cut 47 a0).length : Int))) then (bif inR x4_8 (cut 47 a0).length then (bif (!(yi (gt (cut 47 a0) x4_8))) then (some (.ret false)) else (some (.nxt (IntKind.wrap .i64 (x4_8 + 1))))) else none) else (some (.brk ()))
def vV.sh (k : Nat) (a0 : List UInt8) : Option (Bool):=
  bif (decide (36 < (a0.length : Int))) then (some false) else (bif decide (a0.length≤1048576) then (bif (decide (4 < ((cut 47 a0).length : Int))) then (some false) else ((ql (vV.b1 a0) k 0).bind fun z=>match z with | .inl t=>some t | .inr _=>some true)) else none)
theorem VE {t : List UInt8} (h : yi t = true) : t.length≤8:=by
 simp [yi,within] at h; omega
theorem vr {α : Type} [Inhabited α] (l : List α) (i : Nat) : gt l (i : Int) = l.getD i default:=rfl
theorem vV.eq (a0 : List UInt8) : ∃ k,vV.sh k a0 = some (qI a0):=by
 refine ⟨a0.length + 2,?_⟩
 unfold vV.sh
 by_cases h1 : 36 < a0.length
 ·have : (36 : Int) < (a0.length : Int):=by omega
  have h2 : ¬ a0.length < 36:=by omega
  simp [this,qI,h2]
 ·have h2 : ¬ (36 : Int) < (a0.length : Int):=by omega
  have h3 : a0.length≤1048576:=by omega
  simp only [h2,decide_false,cond_false,h3,decide_true,cond_true]
  by_cases h4 : 4 < (cut 47 a0).length
  ·have h5 : (4 : Int) < ((cut 47 a0).length : Int):=by omega
   have h6 : ¬ (cut 47 a0).length≤4:=by omega
   simp [h5,qI,h6]
  ·have h5 : ¬ (4 : Int) < ((cut 47 a0).length : Int):=by omega
   simp only [h5,decide_false,cond_false]
   have hb : ∀ i : Nat,i < (cut 47 a0).length→vV.b1 a0 i = some (sc (if !yi ((cut 47 a0).getD i default) then some false else none : Option Bool) ((i : Int) + 1)):=by
    intro i hi
    simp only [vV.b1,ye,hi,decide_true,cond_true,qW hi,vr,vj hi (by omega)]
    cases yi ((cut 47 a0).getD i default) <;> rfl
   have hn : vV.b1 a0 (cut 47 a0).length = some (.brk ()):=by simp [vV.b1]
   rw [yO _ _ hb hn (a0.length + 2) (by have:=jY 47 a0; omega),Ys (cut 47 a0) default (fun t=>!yi t) false]
   have h6 : (cut 47 a0).length≤4:=by omega
   have h7 : (cut 47 a0).any (fun t=>!yi t) = !(cut 47 a0).all yi:=by rw [List.not_all_eq_any_not]
   rw [h7]
   cases ha : (cut 47 a0).all yi with
   | false=>simp [qI,ha]
   | true=>
    have:=cut_sum 47 8 a0 4 h6 (fun x hx=>VE (List.all_eq_true.1 ha x hx))
    have h8 : a0.length < 36:=by omega
    simp [qI,h6,ha,h8]
def QD {α : Type} (p : α→Option Bool) : List α→Option Int
 | []=>some (-1)
 | x :: l=>(p x).bind fun b=>bif b then some 0 else (QD p l).map fun i=>if i = -1 then -1 else i + 1
def Yt {α : Type} (p : α→Option Bool) : List α→Option Bool
 | []=>some false
 | x :: l=>(p x).bind fun b=>bif b then some true else Yt p l
def GR {α : Type} (p : α→Option Bool) : List α→Option Bool
 | []=>some true
 | x :: l=>(p x).bind fun b=>bif b then GR p l else some false
theorem XN {α : Type} {p : α→Option Bool} {q : α→Bool} : ∀ {l : List α},(∀ x ∈ l,p x = some (q x))→GR p l = some (l.all q):=by
 intro l
 induction l with
 | nil=>intro _; rfl
 | cons x l ih=>intro h; simp only [GR,h x (by simp),Option.bind_some,List.all_cons]; rw [ih fun y hy=>h y (by simp [hy])]; cases q x <;> rfl
theorem YZ {α : Type} {p : α→Option Bool} : ∀ {l : List α} {i : Int},QD p l = some i→-1≤i∧Yt p l = some (decide (0≤i)):=by
 intro l
 induction l with
 | nil=>intro i h; simp [QD] at h; subst h; simp [Yt]
 | cons x l ih=>
  intro i h
  simp only [QD] at h
  obtain ⟨b,hb,h⟩:=bind_some h
  cases b with
  | true=>simp at h; subst h; simp [Yt,hb]
  | false=>
   simp only [cond_false,Option.map_eq_some_iff] at h
   obtain ⟨j,hj,rfl⟩:=h
   obtain ⟨h1,h2⟩:=ih hj
   simp only [Yt,hb,Option.bind_some,cond_false,h2]
   split <;> simp_all <;> omega
theorem any_idxO {α : Type} {p : α→Option Bool} : ∀ {l : List α} {b : Bool},Yt p l = some b→∃ i,QD p l = some i:=by
 intro l
 induction l with
 | nil=>intro b _; exact ⟨_,rfl⟩
 | cons x l ih=>
  intro b h
  simp only [Yt] at h
  obtain ⟨c,hc,h⟩:=bind_some h
  cases c with
  | true=>exact ⟨0,by simp [QD,hc]⟩
  | false=>obtain ⟨i,hi⟩:=ih (by simpa using h); exact ⟨if i = -1 then -1 else i + 1,by simp [QD,hc,hi]⟩
theorem anyO_not {α : Type} {p : α→Option Bool} : ∀ (l : List α),Yt (fun x=>(p x).map (!·)) l = (GR p l).map (!·):=by
 intro l
 induction l with
 | nil=>rfl
 | cons x l ih=>
  simp only [Yt,GR]
  cases p x with
  | none=>rfl
  | some b=>cases b <;> simp [ih]
def qP.b1 (a0 : List (List UInt8)) (a1 : List UInt8→Option Bool) : Int→Option (Step (Int) (Int) (Unit)):=
 fun x8_1=>bif (decide (x8_1 < (a0.length : Int))) then (bif inR x8_1 a0.length then ((a1 (gt a0 x8_1)).bind fun z22=>bif z22 then (some (.ret x8_1)) else (some (.nxt (IntKind.wrap .i64 (x8_1 + 1))))) else none) else (some (.brk ()))
def qP.sh (k : Nat) (a0 : List (List UInt8)) (a1 : List UInt8→Option Bool) : Option (Int):=
  (ql (qP.b1 a0 a1) k 0).bind fun z=>match z with | .inl t=>some t | .inr _=>some (-1)
theorem Vq {α : Type} [Inhabited α] {p : α→Option Bool} (l : List α) : ∀ (m i : Nat),i + m = l.length→∀ r,QD p (l.drop i) = some r→∀ b : Int→Option (Step Int Int Unit),
  (∀ i : Nat,i < l.length→b i = (p (l.getD i default)).bind fun z=>bif z then some (.ret (i : Int)) else some (.nxt ((i : Int) + 1)))→b l.length = some (.brk ())→∀ k,m < k→
  ql b k i = some (if r = -1 then .inr () else .inl ((i : Int) + r)):=by
 intro m
 induction m with
 | zero=>
  intro i hi r hr b hb hn k hk
  obtain ⟨k,rfl⟩ : ∃ j,k = j + 1:=⟨k - 1,by omega⟩
  have : i = l.length:=by omega
  subst this
  simp [QD] at hr; subst hr
  simp [ql,hn]
 | succ m ih=>
  intro i hi r hr b hb hn k hk
  obtain ⟨k,rfl⟩ : ∃ j,k = j + 1:=⟨k - 1,by omega⟩
  have hlt : i < l.length:=by omega
  rw [List.drop_eq_getElem_cons hlt] at hr
  have hg : l.getD i default = l[i]:=by simp [List.getD_eq_getElem?_getD,List.getElem?_eq_getElem hlt]
  simp only [QD] at hr
  obtain ⟨c,hc,hr⟩:=bind_some hr
  simp only [ql,hb i hlt,hg,hc,Option.bind_some]
  cases c with
  | true=>simp at hr; subst hr; simp
  | false=>
   simp only [cond_false,Option.map_eq_some_iff] at hr
   obtain ⟨j,hj,rfl⟩:=hr
   simp only [cond_false,Option.bind_some]
   have:=ih (i + 1) (by omega) j hj b hb hn k (by omega)
   rw [Int.natCast_add,Int.natCast_one] at this
   rw [this]
   have:=(YZ hj).1
   by_cases h : j = -1
   ·simp [h]
   ·simp [h]
    have h2 : ¬ j + 1 = -1:=by omega
    simp [h2]; omega
theorem qP.eq (a0 : List (List UInt8)) (a1 : List UInt8→Option Bool) (h : a0.length≤4611686018427387904) {r : Int} (H : QD a1 a0 = some r) : ∃ k,qP.sh k a0 a1 = some r:=by
 refine ⟨a0.length + 1,?_⟩
 have:=Vq a0 a0.length 0 (by omega) r (by simpa using H) (qP.b1 a0 a1) (fun i hi=>by
  simp only [qP.b1,ye,hi,decide_true,cond_true,qW hi,vr,vj hi h]) (by simp [qP.b1]) (a0.length + 1) (by omega)
 simp only [Int.natCast_zero] at this
 unfold qP.sh
 rw [this]
 by_cases hr : r = -1
 ·simp [hr]
 ·simp [hr]
def vg.sh (a0 : List (List UInt8)) (a1 : List UInt8→Option Bool) : Option (Bool):=
 bif decide (a0.length≤4611686018427387904) then (((QD a1 a0)).bind fun z2=>some (decide (0≤z2))) else none
theorem vg.eq (a0 : List (List UInt8)) (a1 : List UInt8→Option Bool) (h : a0.length≤4611686018427387904) {r : Bool} (H : Yt a1 a0 = some r) : vg.sh a0 a1 = some r:=by
 obtain ⟨i,hi⟩:=any_idxO H
 have:=(YZ hi).2
 rw [this] at H
 simp [vg.sh,h,hi,Option.some.inj H]
def yq.sh (a0 : List UInt8) (a1 : List UInt8→Option Bool) : Option (Bool):=
 (a1 a0).bind fun z1=>some (!z1)
theorem yq.eq (a0 : List UInt8) (a1 : List UInt8→Option Bool) {r : Bool} (H : ((a1 a0).map (!·)) = some r) : yq.sh a0 a1 = some r:=by
 simp only [Option.map_eq_some_iff] at H
 obtain ⟨b,hb,rfl⟩:=H
 simp [yq.sh,hb]
def jd.sh (a0 : List (List UInt8)) (a1 : List UInt8→Option Bool) : Option (Bool):=
 bif decide (a0.length≤4611686018427387904) then (((Yt (fun (x0_ : List UInt8)=>((a1 x0_).map (!·))) a0)).bind fun z12=>some (!z12)) else none
theorem jd.eq (a0 : List (List UInt8)) (a1 : List UInt8→Option Bool) (h : a0.length≤4611686018427387904) {r : Bool} (H : GR a1 a0 = some r) : jd.sh a0 a1 = some r:=by
 have e : Yt (fun x=>(a1 x).map (!·)) a0 = some (!r):=by rw [anyO_not,H]; rfl
 simp only [jd.sh,h,decide_true,cond_true]
 rw [e]; simp
def vy.sh (a0 : List UInt8) : Option (List (List UInt8)):=
 bif decide (a0.length≤1048576) then (bif decide (([47] : List UInt8) = [47]) then (some (cut 47 a0)) else none) else none
theorem vy.eq (a0 : List UInt8) (h : a0.length≤1048576) : vy.sh a0 = some (cut 47 a0):=by simp [vy.sh,h]
def yF.sh (a0 : List UInt8) : Option (Bool):=
 ((bif (decide ((a0.length : Int) < 36)) then (bif decide (a0.length≤1048576) then (some (decide (((cut 47 a0).length : Int)≤4))) else none) else some false)).bind fun z2=>((bif z2 then (bif decide (a0.length≤1048576) then (bif decide ((cut 47 a0).length≤4611686018427387904) then (((GR (fun (x0_ : List UInt8)=>bif decide (x0_.length≤4611686018427387904) then (some (yi x0_)) else none) (cut 47 a0))).bind fun z21=>some z21) else none) else none) else some false)).bind fun z11=>some z11
theorem yF.eq (a0 : List UInt8) : yF.sh a0 = some (qI a0):=by
 unfold yF.sh
 by_cases h : a0.length < 36
 ·have h1 : (a0.length : Int) < 36:=by omega
  have h2 : a0.length≤1048576:=by omega
  have h3 : (cut 47 a0).length≤4611686018427387904:=by have:=jY 47 a0; omega
  have h4 : ((cut 47 a0).length : Int)≤4 ↔ (cut 47 a0).length≤4:=by omega
  have h5:=XN (p:=fun (x0_ : List UInt8)=>bif decide (x0_.length≤4611686018427387904) then (some (yi x0_)) else none) (q:=yi) (l:=cut 47 a0) (fun x hx=>by
   have:=cut_mem 47 a0 x hx
   have h6 : x.length≤4611686018427387904:=by omega
   simp [h6])
  simp only [h1,h2,h3,h4,h5,decide_true,cond_true,Option.bind_some]
  by_cases h7 : (cut 47 a0).length≤4
  ·simp [h7,qI,h]
  ·simp [h7,qI]
 ·have h1 : ¬ (a0.length : Int) < 36:=by omega
  simp [h1,qI,h]
def y5 : List (Bool ⊕ Int)→Int
 | a :: b :: l=>if Ju a then J7 b else y5 l
 | _=>0
def yc.b1 (a0 : List (Bool ⊕ Int)) : Int→Option (Step (Int) (Int) (Unit)):=
 fun x3_1=>bif (decide ((IntKind.wrap .i64 (x3_1 + 1)) < (a0.length : Int))) then (bif inR x3_1 a0.length then (bif (Ju (gt a0 x3_1)) then (bif inR (IntKind.wrap .i64 (x3_1 + 1)) a0.length then (some (.ret (J7 (gt a0 (IntKind.wrap .i64 (x3_1 + 1)))))) else none) else (some (.nxt (IntKind.wrap .i64 (x3_1 + 2))))) else none) else (some (.brk ()))
def yc.sh (k : Nat) (a0 : List (Bool ⊕ Int)) : Option (Int):=
  (ql (yc.b1 a0) k 0).bind fun z=>match z with | .inl t=>some t | .inr _=>some 0
theorem yc.eq (a0 : List (Bool ⊕ Int)) (h : a0.length≤4611686018427387904) : ∃ k,yc.sh k a0 = some (y5 a0):=by
  refine ⟨a0.length + 1,?_⟩
  unfold yc.sh
  have key : ∀ (m i k : Nat),a0.length≤i + m→i≤a0.length→m < k→∃ z,ql (yc.b1 a0) k (i : Int) = some z∧(match z with | .inl t=>some t | .inr _=>some 0) = some (y5 (a0.drop i)):=by
    intro m
    induction m using Nat.strongRecOn with
    | _ m ih=>
      intro i k him hi hk
      obtain ⟨k,rfl⟩ : ∃ j,k = j + 1:=⟨k - 1,by omega⟩
      simp only [ql,yc.b1]
      have hw : IntKind.wrap .i64 ((i : Int) + 1) = ((i + 1 : Nat) : Int):=by rw [wrap_small (by omega) (by omega)]; simp
      by_cases h1 : i + 1 < a0.length
      · have h2 : i < a0.length:=by omega
        have e : a0.drop i = a0[i] :: a0[i + 1] :: a0.drop (i + 2):=by rw [List.drop_eq_getElem_cons h2,List.drop_eq_getElem_cons h1]
        have g1 : a0.getD i default = a0[i]:=by simp [List.getD_eq_getElem?_getD,List.getElem?_eq_getElem h2]
        have g2 : a0.getD (i + 1) default = a0[i + 1]:=by simp [List.getD_eq_getElem?_getD,List.getElem?_eq_getElem h1]
        rw [hw]
        simp only [ye,h1,decide_true,cond_true,qW h2,qW h1,vr,g1,g2,e,y5]
        cases hb : Ju a0[i] with
        | true=>simp
        | false=>
          simp only [cond_false,Option.bind_some]
          have hw2 : IntKind.wrap .i64 ((i : Int) + 2) = ((i + 2 : Nat) : Int):=by rw [wrap_small (by omega) (by omega)]; simp
          rw [hw2]
          by_cases hm : m = 0
          · omega
          · obtain ⟨z,hz,hP⟩:=ih (m - 1) (by omega) (i + 2) k (by omega) (by omega) (by omega)
            exact ⟨z,hz,by simpa using hP⟩
      · rw [hw]
        simp only [ye,h1,decide_false,cond_false,Option.bind_some]
        refine ⟨_,rfl,?_⟩
        have : (a0.drop i).length≤1:=by simp; omega
        cases hd : a0.drop i with
        | nil=>simp [y5]
        | cons x r=>cases r with
          | nil=>simp [y5]
          | cons y s=>rw [hd] at this; simp at this
  obtain ⟨z,hz,hP⟩:=key a0.length 0 (a0.length + 1) (by omega) (by omega) (by omega)
  simp only [Int.natCast_zero] at hz
  rw [hz]; simp only [Option.bind_some]; simpa using hP
theorem GG {α : Type} [DecidableEq α] [Inhabited α] : ∀ (a b : List α),a.length = b.length→(List.range a.length).findSome? (fun j=>if !decide (a.getD j default = b.getD j default) then some false else none) = if decide (a = b) then none else some false:=by
 intro a b hl
 by_cases h : a = b
 ·subst h
  have : (List.range a.length).findSome? (fun j=>if !decide (a.getD j default = a.getD j default) then some false else none) = none:=by
   rw [List.findSome?_eq_none_iff]; intro j _; simp
  rw [this]; simp
 ·have : ∃ j,j < a.length∧a.getD j default ≠ b.getD j default:=by
   apply Classical.byContradiction
   intro hn
   apply h
   apply List.ext_getElem hl
   intro i h1 h2
   have:=fun hh=>hn ⟨i,h1,hh⟩
   simp only [ne_eq,Classical.not_not] at this
   simpa [List.getD_eq_getElem?_getD,List.getElem?_eq_getElem h1,List.getElem?_eq_getElem h2] using Classical.not_not.1 this
  obtain ⟨j,hj,hne⟩:=this
  simp only [h,decide_false,Bool.false_eq_true,if_false]
  cases hf : (List.range a.length).findSome? (fun j=>if !decide (a.getD j default = b.getD j default) then some false else none) with
  | none=>
   rw [List.findSome?_eq_none_iff] at hf
   have:=hf j (List.mem_range.2 hj)
   have hd : decide (a.getD j default = b.getD j default) = false:=by simpa using hne
   rw [hd] at this; simp at this
  | some t=>
   obtain ⟨j,_,ht⟩:=List.exists_of_findSome?_eq_some hf
   split at ht
   ·rw [← ht]
   ·cases ht
def qR (r : Rec) : Int:=
 if !within r.kind 1 4 then 9 else if !qI r.path then 10
 else if decide (20 < r.body.length) || (decide (r.kind = 2) && decide (r.body = [])) then 8
 else if ((decide (r.kind = 3) || decide (r.kind = 4)) && !decide (r.body = [])) || (!decide (r.kind = 3) && r.opq) then 3
 else if !within r.mode 0 511 || ((decide (r.kind = 2) || decide (r.kind = 4)) && !decide (r.mode = 0)) then 4 else 0
def yM.sh (a0 : Rec) : Option (Int):=
 bif (!(within a0.kind 1 4)) then (some 9) else (bif (!(qI a0.path)) then (some 10) else (bif ((decide (20 < (a0.body.length : Int))) || ((decide (a0.kind = 2)) && (decide (a0.body = ([] : List UInt8))))) then (some 8) else (bif (((!decide (a0.body = ([] : List UInt8))) && ((decide (a0.kind = 3)) || (decide (a0.kind = 4)))) || (a0.opq && (!(decide (a0.kind = 3))))) then (some 3) else (bif ((!(within a0.mode 0 511)) || ((!decide (a0.mode = 0)) && ((decide (a0.kind = 4)) || (decide (a0.kind = 2))))) then (some 4) else (some 0)))))
theorem bif_if {α : Type} (b : Bool) (x y : α) : (bif b then x else y) = if b then x else y:=by cases b <;> rfl
theorem yM.eq (a0 : Rec) : yM.sh a0 = some (qR a0):=by
 unfold yM.sh qR
 have e1 : decide ((20 : Int) < (a0.body.length : Int)) = decide (20 < a0.body.length):=by rw [decide_eq_decide]; omega
 have e2 : (((!decide (a0.body = ([] : List UInt8))) && ((decide (a0.kind = 3)) || (decide (a0.kind = 4)))) || (a0.opq && (!(decide (a0.kind = 3))))) = (((decide (a0.kind = 3) || decide (a0.kind = 4)) && !decide (a0.body = [])) || (!decide (a0.kind = 3) && a0.opq)):=by
  rw [Bool.and_comm (!decide (a0.body = ([] : List UInt8))),Bool.and_comm a0.opq]
 have e3 : ((!(within a0.mode 0 511)) || ((!decide (a0.mode = 0)) && ((decide (a0.kind = 4)) || (decide (a0.kind = 2))))) = (!within a0.mode 0 511 || ((decide (a0.kind = 2) || decide (a0.kind = 4)) && !decide (a0.mode = 0))):=by
  rw [Bool.and_comm (!decide (a0.mode = 0)),Bool.or_comm (decide (a0.kind = 4))]
 rw [e1,e2,e3]
 simp only [bif_if]
 split
 ·rfl
 ·split
  ·rfl
  ·split
   ·rfl
   ·split
    ·rfl
    ·split <;> rfl
def jR.sh (a0 : Rec) : Option (Bool):=
 some (decide ((qR a0) = 0))
theorem jR.eq (a0 : Rec) : jR.sh a0 = some (decide (qR a0 = 0)):=rfl
def qh.sh (a0 : Rec) : Option (Int):=
 bif decide (([.inl (!(within a0.kind 1 4)),.inr 9,.inl (!(qI a0.path)),.inr 10,.inl ((decide (20 < (a0.body.length : Int))) || ((decide (a0.kind = 2)) && (decide (a0.body = ([] : List UInt8))))),.inr 8,.inl ((((decide (a0.kind = 3)) || (decide (a0.kind = 4))) && (!decide (a0.body = ([] : List UInt8)))) || ((!decide (a0.kind = 3)) && a0.opq)),.inr 3,.inl ((!(within a0.mode 0 511)) || (((decide (a0.kind = 2)) || (decide (a0.kind = 4))) && (!decide (a0.mode = 0)))),.inr 4] : List (Bool ⊕ Int)).length≤4611686018427387904) then (some (y5 ([.inl (!(within a0.kind 1 4)),.inr 9,.inl (!(qI a0.path)),.inr 10,.inl ((decide (20 < (a0.body.length : Int))) || ((decide (a0.kind = 2)) && (decide (a0.body = ([] : List UInt8))))),.inr 8,.inl ((((decide (a0.kind = 3)) || (decide (a0.kind = 4))) && (!decide (a0.body = ([] : List UInt8)))) || ((!decide (a0.kind = 3)) && a0.opq)),.inr 3,.inl ((!(within a0.mode 0 511)) || (((decide (a0.kind = 2)) || (decide (a0.kind = 4))) && (!decide (a0.mode = 0)))),.inr 4] : List (Bool ⊕ Int)))) else none
theorem qh.eq (a0 : Rec) : qh.sh a0 = some (qR a0):=by
 unfold qh.sh qR
 have e1 : decide ((20 : Int) < (a0.body.length : Int)) = decide (20 < a0.body.length):=by rw [decide_eq_decide]; omega
 rw [e1]; simp only [List.length_cons,List.length_nil]
 simp only [y5,Ju,J7]
 rfl
def je.sh (a0 : Rec) : Option (Bool):=
 some (decide ((qR a0) = 0))
theorem je.eq (a0 : Rec) : je.sh a0 = some (decide (qR a0 = 0)):=rfl
def y6 (a b : List UInt8) : Bool:=(b ++ [47]).isPrefixOf a
theorem jQ {t : List UInt8} (h : qI t = true) : t.length < 36:=by simp [qI] at h; exact h.1
theorem pathOK_ne {t : List UInt8} (h : qI t = true) : t ≠ []:=by rintro rfl; revert h; decide
def VY (d p : List UInt8) : List UInt8:=if d = [] then p else d ++ [47] ++ p
theorem Q1 (a : List UInt8) : lt8 a a = false:=by
 induction a with
 | nil=>rfl
 | cons x a ih=>simp only [lt8] at ih ⊢; simp [Op.bytesLess,ih]
def vC : List (List UInt8)→List (List UInt8)→Bool
 | x :: xs,y :: ys=>if x = y then vC xs ys else lt8 x y
 | [],_ :: _=>true
 | _,[]=>false
def cmpS (x y : List UInt8) : Int:=if lt8 x y then -1 else if x = y then 0 else 1
def cmpL : List (List UInt8)→List (List UInt8)→Int
 | x :: xs,y :: ys=>if cmpS x y = 0 then cmpL xs ys else cmpS x y
 | [],_ :: _=>-1
 | _ :: _,[]=>1
 | [],[]=>0
theorem Vo : ∀ a b,decide (cmpL a b < 0) = vC a b:=by
 intro a
 induction a with
 | nil=>intro b; cases b <;> simp [cmpL,vC]
 | cons x a ih=>
  intro b
  cases b with
  | nil=>simp [cmpL,vC]
  | cons y b=>
   unfold cmpL vC cmpS
   by_cases h : x = y
   ·subst h; simp [Q1,ih]
   ·cases hl : lt8 x y <;> simp [h]
def vi.sh (a0 : List UInt8) : Option (Bool):=
 some (!decide (a0 = a0))
theorem vi.eq (a0 : List UInt8) : vi.sh a0 = some false:=by simp [vi.sh]
def vz.sh (a0 : List UInt8) (a1 : List UInt8) : Option (Int):=
 bif false then (bif false then (some 0) else (some (-1))) else (bif false then (some 1) else (bif (lt8 a0 a1) then (some (-1)) else (bif (!(lt8 a0 a1 || decide (a0 = a1))) then (some 1) else (some 0))))
theorem vz.eq (a0 a1 : List UInt8) : vz.sh a0 a1 = some (cmpS a0 a1):=by
 unfold vz.sh cmpS
 cases lt8 a0 a1 with
 | true=>simp
 | false=>by_cases h : a0 = a1 <;> simp [h]
theorem jx {β : Type} (f : Nat→Option β) (n : Nat) : (List.range (n + 1)).findSome? f = match f 0 with | some t=>some t | none=>(List.range n).findSome? fun j=>f (j + 1):=by
  rw [List.range_succ_eq_map,List.findSome?_cons,List.findSome?_map]; rfl
theorem X2 : ∀ (v w : List (List UInt8)),(match (List.range (min v.length w.length)).findSome? (fun j=>if v.getD j default = w.getD j default then none else some (lt8 (v.getD j default) (w.getD j default))) with | some t=>t | none=>decide (v.length < w.length)) = vC v w:=by
  intro v
  induction v with
  | nil=>intro w; cases w <;> simp [vC]
  | cons x v ih=>
    intro w
    cases w with
    | nil=>simp [vC]
    | cons y w=>
      simp only [List.length_cons,Nat.add_min_add_right,jx,List.getD_cons_zero,List.getD_cons_succ]
      by_cases h : x = y
      · simp only [h,if_true,vC]
        rw [← ih w]
        simp only [Nat.add_lt_add_iff_right]
      · simp [h,vC]
theorem Jp : ∀ (v w : List (List UInt8)),(match (List.range v.length).findSome? (fun j=>if w.length≤j then some 1 else if cmpS (v.getD j default) (w.getD j default) = 0 then none else some (cmpS (v.getD j default) (w.getD j default))) with | some t=>t | none=>if v.length < w.length then -1 else 0) = cmpL v w:=by
  intro v
  induction v with
  | nil=>intro w; cases w <;> simp [cmpL]
  | cons x v ih=>
    intro w
    simp only [List.length_cons,jx]
    cases w with
    | nil=>simp [cmpL]
    | cons y w=>
      simp only [List.length_cons,List.getD_cons_zero,List.getD_cons_succ,Nat.add_le_add_iff_right,Nat.add_lt_add_iff_right]
      by_cases h : cmpS x y = 0
      · simp only [h,if_true,cmpL]
        rw [← ih w]
        simp
      · simp [h,cmpL]
def vq.b1 (a0 : List UInt8) (a1 : List UInt8) : Int→Option (Step (Bool) (Int) (Unit)):=
 fun x7_11=>bif ((decide (x7_11 < ((cut 47 a0).length : Int))) && (decide (x7_11 < ((cut 47 a1).length : Int)))) then (bif inR x7_11 (cut 47 a0).length then (bif inR x7_11 (cut 47 a1).length then (bif (!decide ((gt (cut 47 a0) x7_11) = (gt (cut 47 a1) x7_11))) then (bif inR x7_11 (cut 47 a0).length then (bif inR x7_11 (cut 47 a1).length then (some (.ret (lt8 (gt (cut 47 a0) x7_11) (gt (cut 47 a1) x7_11)))) else none) else none) else (some (.nxt (IntKind.wrap .i64 (x7_11 + 1))))) else none) else none) else (some (.brk ()))
def vq.sh (k : Nat) (a0 : List UInt8) (a1 : List UInt8) : Option (Bool):=
  bif decide (a0.length≤1048576) then (bif decide (a1.length≤1048576) then ((ql (vq.b1 a0 a1) k 0).bind fun z=>match z with | .inl t=>some t | .inr _=>some (decide (((cut 47 a0).length : Int) < ((cut 47 a1).length : Int)))) else none) else none
theorem vq.eq (a0 a1 : List UInt8) (h0 : a0.length≤1048576) (h1 : a1.length≤1048576) : ∃ k,vq.sh k a0 a1 = some (vC (cut 47 a0) (cut 47 a1)):=by
 refine ⟨(cut 47 a0).length + 1,?_⟩
 unfold vq.sh
 have hl0:=jY 47 a0
 have hb : ∀ i : Nat,i < min (cut 47 a0).length (cut 47 a1).length→vq.b1 a0 a1 i = some (sc (if (cut 47 a0).getD i default = (cut 47 a1).getD i default then none else some (lt8 ((cut 47 a0).getD i default) ((cut 47 a1).getD i default)) : Option Bool) ((i : Int) + 1)):=by
  intro i hi
  have hi0 : i < (cut 47 a0).length:=by omega
  have hi1 : i < (cut 47 a1).length:=by omega
  simp only [vq.b1,ye,hi0,hi1,decide_true,Bool.and_self,cond_true,qW hi0,qW hi1,vr,vj hi0 (by omega)]
  by_cases he : (cut 47 a0).getD i default = (cut 47 a1).getD i default
  ·simp only [he,decide_true,Bool.not_true,if_true,cond_false,VR]
  ·simp only [he,decide_false,Bool.not_false,if_false,cond_true,V7]
 have hn : vq.b1 a0 a1 ((min (cut 47 a0).length (cut 47 a1).length : Nat) : Int) = some (.brk ()):=by
  simp only [vq.b1,ye]
  have : (decide (min (cut 47 a0).length (cut 47 a1).length < (cut 47 a0).length) && decide (min (cut 47 a0).length (cut 47 a1).length < (cut 47 a1).length)) = false:=by simp; omega
  rw [this]; rfl
 simp only [h0,h1,decide_true,cond_true]
 rw [yO _ _ hb hn _ (by omega),← X2]
 cases (List.range (min (cut 47 a0).length (cut 47 a1).length)).findSome? _ with
 | some t=>simp
 | none=>
  have : ((cut 47 a0).length : Int) < ((cut 47 a1).length : Int) ↔ (cut 47 a0).length < (cut 47 a1).length:=by omega
  simp [this]
def yk (a b : List UInt8) : Bool:=(qI a && qI b) && vC (cut 47 a) (cut 47 b)
def qw.b1 (a0 : List (List UInt8)) (a1 : List (List UInt8)) : Int→Option (Step (Int) (Int) (Unit)):=
 fun x11_1=>bif (decide (x11_1 < (a0.length : Int))) then (bif inR x11_1 a0.length then (bif (decide ((a1.length : Int)≤x11_1)) then (some (.ret 1)) else (bif inR x11_1 a1.length then (bif (!decide ((cmpS (gt a0 x11_1) (gt a1 x11_1)) = 0)) then (some (.ret (cmpS (gt a0 x11_1) (gt a1 x11_1)))) else (some (.nxt (IntKind.wrap .i64 (x11_1 + 1))))) else none)) else none) else (some (.brk ()))
def qw.sh (k : Nat) (a0 : List (List UInt8)) (a1 : List (List UInt8)) : Option (Int):=
  (ql (qw.b1 a0 a1) k 0).bind fun z=>match z with | .inl t=>some t | .inr _=>bif (decide ((a0.length : Int) < (a1.length : Int))) then (some (-1)) else (some 0)
theorem qw.eq (a0 a1 : List (List UInt8)) (h0 : a0.length≤4611686018427387904) (h1 : a1.length≤4611686018427387904) : ∃ k,qw.sh k a0 a1 = some (cmpL a0 a1):=by
 refine ⟨a0.length + 1,?_⟩
 unfold qw.sh
 have hb : ∀ i : Nat,i < a0.length→qw.b1 a0 a1 i = some (sc (if a1.length≤i then some 1 else if cmpS (a0.getD i default) (a1.getD i default) = 0 then none else some (cmpS (a0.getD i default) (a1.getD i default)) : Option Int) ((i : Int) + 1)):=by
  intro i hi
  simp only [qw.b1,ye,hi,decide_true,cond_true,qW hi,vr,vj hi h0]
  by_cases hm : a1.length≤i
  ·have : (a1.length : Int)≤(i : Int):=by omega
   simp [hm,this]
  ·have h2 : ¬ (a1.length : Int)≤(i : Int):=by omega
   have h3 : i < a1.length:=by omega
   simp only [h2,hm,decide_false,cond_false,qW h3,cond_true,if_false]
   by_cases he : cmpS (a0.getD i default) (a1.getD i default) = 0
   ·simp only [he,decide_true,Bool.not_true,if_true,cond_false,VR]
   ·simp only [he,decide_false,Bool.not_false,if_false,cond_true,V7]
 have hn : qw.b1 a0 a1 a0.length = some (.brk ()):=by simp [qw.b1]
 rw [yO _ _ hb hn _ (by omega),← Jp]
 cases (List.range a0.length).findSome? _ with
 | some t=>simp
 | none=>
  by_cases h : a0.length < a1.length
  ·have : (a0.length : Int) < (a1.length : Int):=by omega
   simp [h,this]
  ·have : ¬ (a0.length : Int) < (a1.length : Int):=by omega
   simp [h,this]
def impl_compare.sh (a0 : List UInt8) (a1 : List UInt8) : Option (Int):=
 bif decide (a0.length≤1048576) then (bif decide (a1.length≤1048576) then (bif decide ((cut 47 a0).length≤4611686018427387904) then (bif decide ((cut 47 a1).length≤4611686018427387904) then (some (cmpL (cut 47 a0) (cut 47 a1))) else none) else none) else none) else none
theorem impl_compare.eq (a0 a1 : List UInt8) (h0 : a0.length≤1048576) (h1 : a1.length≤1048576) : impl_compare.sh a0 a1 = some (cmpL (cut 47 a0) (cut 47 a1)):=by
 have h2:=jY 47 a0
 have h3:=jY 47 a1
 have h4 : (cut 47 a0).length≤4611686018427387904:=by omega
 have h5 : (cut 47 a1).length≤4611686018427387904:=by omega
 simp [impl_compare.sh,h0,h1,h4,h5]
def yL.sh (a0 : List UInt8) (a1 : List UInt8) : Option (Bool):=
 ((bif ((qI a0) && (qI a1)) then (bif decide (a0.length≤1048576) then (bif decide (a1.length≤1048576) then (some (decide ((cmpL (cut 47 a0) (cut 47 a1)) < 0))) else none) else none) else some false)).bind fun z10=>some z10
theorem yL.eq (a0 a1 : List UInt8) : yL.sh a0 a1 = some (yk a0 a1):=by
 unfold yL.sh yk
 cases hc : (qI a0 && qI a1) with
 | false=>simp
 | true=>
  simp only [Bool.and_eq_true] at hc
  have h0:=jQ hc.1
  have h1:=jQ hc.2
  have h4 : a0.length≤1048576:=by omega
  have h5 : a1.length≤1048576:=by omega
  simp only [h4,h5,decide_true,cond_true,Option.bind_some,Vo,Bool.true_and]
def qU.b1  : Int × List UInt8→Option (Step (List UInt8) (Int × List UInt8) (List UInt8)):=
 fun q=>match q with
 | (x0_2,x3_3)=>bif (decide (0 < x0_2)) then (bif decide ((j7 ([IntKind.wrap .u8 (IntKind.wrap .i64 (48 + (x0_2.tmod 10)))] : List Int)).length + x3_3.length≤9223372036854775807) then (some (.nxt (IntKind.wrap .i64 (x0_2.tdiv 10),(j7 ([IntKind.wrap .u8 (IntKind.wrap .i64 (48 + (x0_2.tmod 10)))] : List Int)) ++ x3_3))) else none) else (some (.brk x3_3))
def qU.sh (k : Nat) (a0 : Int) : Option (List UInt8):=
  bif (decide (a0≤0)) then (some ([109,48] : List UInt8)) else ((ql (qU.b1) k (a0,([] : List UInt8))).bind fun z=>match z with | .inl t=>some t | .inr x3_7=>bif decide (([109] : List UInt8).length + x3_7.length≤9223372036854775807) then (some (([109] : List UInt8) ++ x3_7)) else none)
theorem qU.fits (a0 : Int) (h : a0≤4611686018427387904) : ∃ r,qU.sh (a0.toNat + 1) a0 = some r:=by
 unfold qU.sh
 by_cases h0 : a0≤0
 ·exact ⟨_,by rw [decide_eq_true h0]; rfl⟩
 ·rw [decide_eq_false h0]
  simp only [cond_false]
  obtain ⟨z,hz,hP⟩ : ∃ z,ql qU.b1 (a0.toNat + 1) (a0,([] : List UInt8)) = some z∧∃ out : List UInt8,z = .inr out∧out.length≤a0.toNat:=by
   refine JC (fun (v : Int × List UInt8)=>0≤v.1∧v.1≤4611686018427387904∧v.2.length + v.1.toNat≤a0.toNat) (fun v=>v.1.toNat) (fun z=>∃ out : List UInt8,z = .inr out∧out.length≤a0.toNat) ?_ (a0.toNat + 1) (a0,([] : List UInt8)) ⟨by omega,h,by simp⟩ (by simp)
   rintro ⟨n,out⟩ ⟨h1,h2,h3⟩
   simp only at h1 h2 h3
   unfold qU.b1
   by_cases hn : 0 < n
   ·have h4 : (j7 ([IntKind.wrap .u8 (IntKind.wrap .i64 (48 + (n.tmod 10)))] : List Int)).length + out.length≤9223372036854775807:=by simp [j7]; omega
    simp only [hn,decide_true,cond_true,h4]
    have hd : n.tdiv 10 = n / 10:=Int.tdiv_eq_ediv_of_nonneg (by omega)
    have hw : IntKind.wrap .i64 (n / 10) = n / 10:=wrap_small (by omega) (by omega)
    refine ⟨_,rfl,⟨by simp only [hd,hw]; omega,by simp only [hd,hw]; omega,?_⟩,by simp only [hd,hw]; omega⟩
    simp only [hd,hw,j7,List.length_append,List.length_map,List.length_cons,List.length_nil]
    omega
   ·simp only [hn,decide_false,cond_false]
    exact ⟨_,rfl,_,rfl,by omega⟩
  obtain ⟨out,rfl,ho⟩:=hP
  rw [hz]
  have h5 : ([109] : List UInt8).length + out.length≤9223372036854775807:=by simp; omega
  exact ⟨[109] ++ out,by simp only [Option.bind_some,h5,decide_true,cond_true]⟩
def vU (a : Int) : List UInt8:=(qU.sh (a.toNat + 1) a).getD []
theorem qU.eq (a0 : Int) (h : a0≤4611686018427387904) : ∃ k,qU.sh k a0 = some (vU a0):=by
 obtain ⟨r,hr⟩:=qU.fits a0 h
 exact ⟨a0.toNat + 1,by simp [vU,hr]⟩
theorem held_run {α : Type} [Inhabited α] [DecidableEq α] (xs : List α) (m : Nat→α) (k0 : Int) (step : Nat) (b : Int × Int→Option (Step Int (Int × Int) Int))
  (hb : ∀ i : Nat,i < xs.length→b (k0 + (i * step : Nat),i) = some (if xs.getD i default = m i then .nxt (k0 + ((i + 1) * step : Nat),(i : Int) + 1) else .ret (-1))) (hn : b (k0 + (xs.length * step : Nat),xs.length) = some (.brk (k0 + (xs.length * step : Nat)))) :
  ql b (xs.length + 1) (k0,0) = some (if xs = (List.range xs.length).map m then .inr (k0 + (xs.length * step : Nat)) else .inl (-1)):=by
 have key : ∀ d i k,i + d = xs.length→d < k→(∀ j,j < i→xs.getD j default = m j)→ql b k (k0 + (i * step : Nat),i) = some (if xs = (List.range xs.length).map m then .inr (k0 + (xs.length * step : Nat)) else .inl (-1)):=by
  intro d
  induction d with
  | zero=>
   intro i k hi hk hj
   obtain ⟨k,rfl⟩ : ∃ j,k = j + 1:=⟨k - 1,by omega⟩
   have : i = xs.length:=by omega
   subst this
   have he : xs = (List.range xs.length).map m:=by
    apply List.ext_getElem (by simp)
    intro i h1 h2
    have:=hj i h1
    simpa [List.getD_eq_getElem?_getD,List.getElem?_eq_getElem h1] using this
   simp only [ql,hn,Option.bind_some]
   rw [if_pos he]
  | succ d ih=>
   intro i k hi hk hj
   obtain ⟨k,rfl⟩ : ∃ j,k = j + 1:=⟨k - 1,by omega⟩
   have hlt : i < xs.length:=by omega
   simp only [ql,hb i hlt,Option.bind_some]
   by_cases he : xs.getD i default = m i
   ·simp only [he,if_true]
    have:=ih (i + 1) k (by omega) (by omega) (fun j hj'=>by
     by_cases h : j = i
     ·subst h; exact he
     ·exact hj j (by omega))
    rw [Int.natCast_add,Int.natCast_one] at this
    exact this
   ·simp only [he,if_false]
    rw [if_neg]
    intro h
    apply he
    have h2 : xs[i]? = ((List.range xs.length).map m)[i]?:=by rw [← h]
    simp [hlt] at h2
    simp [List.getD_eq_getElem?_getD,List.getElem?_eq_getElem hlt,h2]
 have:=key xs.length 0 (xs.length + 1) (by omega) (by omega) (fun j hj=>by omega)
 simpa using this
theorem JI {α : Type} (xs : List α) (m : Nat→α) (i : Nat) (h : i < xs.length) : j4 ((List.range i).map m ++ xs.drop i) (i : Int) (m i) = (List.range (i + 1)).map m ++ xs.drop (i + 1):=by
 unfold j4
 rw [Int.toNat_natCast,List.set_append_right _ _ (by simp)]
 simp only [List.length_map,List.length_range,Nat.sub_self,List.drop_eq_getElem_cons h,List.set_cons_zero,List.range_succ,List.map_append,List.map_cons,List.map_nil,List.append_assoc,List.singleton_append]
theorem GU {α : Type} (xs : List α) (m : Nat→α) (k0 : Int) (step : Nat) (b : Int × Int × List α→Option (Step (Int × List α) (Int × Int × List α) (Int × List α)))
  (hb : ∀ i : Nat,i < xs.length→∀ y : List α,y.length = xs.length→b (k0 + (i * step : Nat),i,y) = some (.nxt (k0 + ((i + 1) * step : Nat),(i : Int) + 1,j4 y i (m i))))
  (hn : ∀ y : List α,y.length = xs.length→b (k0 + (xs.length * step : Nat),xs.length,y) = some (.brk (k0 + (xs.length * step : Nat),y))) :
  ql b (xs.length + 1) (k0,0,xs) = some (.inr (k0 + (xs.length * step : Nat),(List.range xs.length).map m)):=by
 have key : ∀ d i k,i + d = xs.length→d < k→ql b k (k0 + (i * step : Nat),i,(List.range i).map m ++ xs.drop i) = some (.inr (k0 + (xs.length * step : Nat),(List.range xs.length).map m)):=by
  intro d
  induction d with
  | zero=>
   intro i k hi hk
   obtain ⟨k,rfl⟩ : ∃ j,k = j + 1:=⟨k - 1,by omega⟩
   have : i = xs.length:=by omega
   subst this
   have h9:=hn ((List.range xs.length).map m ++ xs.drop xs.length) (by simp)
   rw [ql,h9]
   simp
  | succ d ih=>
   intro i k hi hk
   obtain ⟨k,rfl⟩ : ∃ j,k = j + 1:=⟨k - 1,by omega⟩
   have hlt : i < xs.length:=by omega
   have h9:=hb i hlt ((List.range i).map m ++ xs.drop i) (by simp; omega)
   rw [ql,h9]
   simp only [Option.bind_some,JI xs m i hlt]
   have:=ih (i + 1) k (by omega) (by omega)
   rw [Int.natCast_add,Int.natCast_one] at this
   exact this
 have:=key xs.length 0 (xs.length + 1) (by omega) (by omega)
 simpa using this
theorem fill_run {α T : Type} (ys : List α) (m : Nat→α) (b : Int × List α→Option (Step T (Int × List α) (List α)))
  (hb : ∀ i : Nat,i < ys.length→∀ y : List α,y.length = ys.length→b ((i : Int),y) = some (.nxt ((i : Int) + 1,j4 y i (m i)))) (hn : ∀ y : List α,y.length = ys.length→b ((ys.length : Int),y) = some (.brk y)) :
  ql b (ys.length + 1) (0,ys) = some (.inr ((List.range ys.length).map m)):=by
 have key : ∀ d i k,i + d = ys.length→d < k→ql b k ((i : Int),(List.range i).map m ++ ys.drop i) = some (.inr ((List.range ys.length).map m)):=by
  intro d
  induction d with
  | zero=>
   intro i k hi hk
   obtain ⟨k,rfl⟩ : ∃ j,k = j + 1:=⟨k - 1,by omega⟩
   have : i = ys.length:=by omega
   subst this
   have h9:=hn ((List.range ys.length).map m ++ ys.drop ys.length) (by simp)
   rw [ql,h9]
   simp
  | succ d ih=>
   intro i k hi hk
   obtain ⟨k,rfl⟩ : ∃ j,k = j + 1:=⟨k - 1,by omega⟩
   have hlt : i < ys.length:=by omega
   have h9:=hb i hlt ((List.range i).map m ++ ys.drop i) (by simp; omega)
   rw [ql,h9]
   simp only [Option.bind_some,JI ys m i hlt]
   have:=ih (i + 1) k (by omega) (by omega)
   rw [Int.natCast_add,Int.natCast_one] at this
   exact this
 have:=key ys.length 0 (ys.length + 1) (by omega) (by omega)
 simpa using this
theorem map_getD {α : Type} (d : α) (xs : List α) : (List.range xs.length).map (fun i=>xs.getD i d) = xs:=by
 apply List.ext_getElem (by simp)
 intro i h1 h2
 simp [List.getD_eq_getElem?_getD,List.getElem?_eq_getElem h2]
def yC {α : Type} (q : α→Bool) : List α→Int
 | []=>-1
 | x :: l=>if q x then 0 else if yC q l = -1 then -1 else yC q l + 1
theorem Vs {α : Type} {p : α→Option Bool} {q : α→Bool} : ∀ {l : List α},(∀ x ∈ l,p x = some (q x))→QD p l = some (yC q l):=by
 intro l
 induction l with
 | nil=>intro _; rfl
 | cons x l ih=>
  intro h
  simp only [QD,yC,h x (by simp),Option.bind_some]
  rw [ih fun y hy=>h y (by simp [hy])]
  cases q x <;> simp
theorem GT {α : Type} (q : α→Bool) (l : List α) : -1≤yC q l:=(YZ (p:=fun x=>some (q x)) (Vs (fun _ _=>rfl))).1
theorem G2 {α : Type} (q : α→Bool) : ∀ (l : List α),yC q l < l.length:=by
  intro l
  induction l with
  | nil=>simp [yC]
  | cons x l ih => simp only [yC, List.length_cons]; split
                   · omega
                   · split <;> omega
theorem JP {α : Type} [Inhabited α] (q : α→Bool) (l : List α) (b : Int→Option (Step Int Int Unit)) (hb : ∀ i : Nat,i < l.length→b i = bif q (l.getD i default) then some (.ret (i : Int)) else some (.nxt ((i : Int) + 1))) (hn : b l.length = some (.brk ())) :
  ql b (l.length + 1) 0 = some (if yC q l = -1 then .inr () else .inl (yC q l)):=by
 have:=Vq (p:=fun x=>some (q x)) l l.length 0 (by omega) (yC q l) (by simpa using Vs (p:=fun x=>some (q x)) (q:=q) (l:=l) (fun _ _=>rfl)) b (fun i hi=>by rw [hb i hi]; rfl) hn (l.length + 1) (by omega)
 simpa using this
def zeroR : Rec:=⟨0,[],[],0,false⟩
def made (r : Rec) : Rec × Int:=if qR r = 0 then (r,0) else (zeroR,qR r)
def yN.sh (a0 : Rec) (a1 : Rec) : Option (Bool):=
 bif (!decide (a0.kind = a1.kind)) then (some false) else (bif (!decide (a0.path = a1.path)) then (some false) else (bif (!decide (a0.body = a1.body)) then (some false) else (bif (!decide (a0.mode = a1.mode)) then (some false) else (bif (!decide (a0.opq = a1.opq)) then (some false) else (some true)))))
theorem yN.eq (a0 a1 : Rec) : yN.sh a0 a1 = some (decide (a0 = a1)):=by
 obtain ⟨k,p,b,m,o⟩:=a0
 obtain ⟨k',p',b',m',o'⟩:=a1
 unfold yN.sh
 simp only [Rec.mk.injEq]
 by_cases h1 : k = k' <;> by_cases h2 : p = p' <;> by_cases h3 : b = b' <;> by_cases h4 : m = m' <;> by_cases h5 : o = o' <;> simp [h1,h2,h3,h4,h5]
def jg.sh (a0 : Nd) (a1 : Nd) : Option (Bool):=
 bif (!decide (a0.kind = a1.kind)) then (some false) else (bif (!decide (a0.path = a1.path)) then (some false) else (bif (!decide (a0.body = a1.body)) then (some false) else (bif (!decide (a0.mode = a1.mode)) then (some false) else (some true))))
theorem jg.eq (a0 a1 : Nd) : jg.sh a0 a1 = some (decide (a0 = a1)):=by
 obtain ⟨k,p,b,m⟩:=a0
 obtain ⟨k',p',b',m'⟩:=a1
 unfold jg.sh
 simp only [Nd.mk.injEq]
 by_cases h1 : k = k' <;> by_cases h2 : p = p' <;> by_cases h3 : b = b' <;> by_cases h4 : m = m' <;> simp [h1,h2,h3,h4]
def va : List UInt8→Int
 | []=>-1
 | b :: l=>if va l = -1 then (if bn b = 47 then 0 else -1) else va l + 1
theorem jI (t : List UInt8) : (va t = -1∧∀ j,j < t.length→bn (t.getD j 0) ≠ 47)∨∃ i : Nat,i < t.length∧va t = i∧bn (t.getD i 0) = 47∧∀ j,i < j→j < t.length→bn (t.getD j 0) ≠ 47:=by
 induction t with
 | nil=>left; exact ⟨rfl,by simp⟩
 | cons b l ih=>
  rcases ih with ⟨h1,h2⟩ | ⟨i,hi,h1,h2,h3⟩
  ·by_cases hb : bn b = 47
   ·right
    refine ⟨0,by simp,by simp [va,h1,hb],by simpa using hb,?_⟩
    intro j hj hl
    obtain ⟨j,rfl⟩ : ∃ k,j = k + 1:=⟨j - 1,by omega⟩
    simpa using h2 j (by simpa using hl)
   ·left
    refine ⟨by simp [va,h1,hb],?_⟩
    intro j hl
    cases j with
    | zero=>simpa using hb
    | succ j=>simpa using h2 j (by simpa using hl)
  ·right
   refine ⟨i + 1,by simpa using hi,?_,by simpa using h2,?_⟩
   ·have : va l ≠ -1:=by rw [h1]; omega
    simp only [va,this,if_false,h1]; omega
   ·intro j hj hl
    obtain ⟨j,rfl⟩ : ∃ k,j = k + 1:=⟨j - 1,by omega⟩
    simpa using h3 j (by omega) (by simpa using hl)
theorem QU {t : List UInt8} (h : ∀ j,j < t.length→bn (t.getD j 0) ≠ 47) : va t = -1:=by
 rcases jI t with ⟨h1,_⟩ | ⟨i,hi,_,h2,_⟩
 ·exact h1
 ·exact absurd h2 (h i hi)
theorem QR {t : List UInt8} {i : Nat} (hi : i < t.length) (h : bn (t.getD i 0) = 47) (hn : ∀ j,i < j→j < t.length→bn (t.getD j 0) ≠ 47) : va t = i:=by
 rcases jI t with ⟨_,h2⟩ | ⟨k,hk,h1,h2,h3⟩
 ·exact absurd h (h2 i hi)
 ·by_cases e : i = k
  ·rw [h1,e]
  ·by_cases hlt : i < k
   ·exact absurd h2 (hn k hlt hk)
   ·exact absurd h (h3 i (by omega) hi)
theorem VU (t : List UInt8) : -1≤va t:=by
 rcases jI t with ⟨h,_⟩ | ⟨i,_,h,_⟩ <;> omega
theorem V2 (t : List UInt8) : va t < t.length:=by
 rcases jI t with ⟨h,_⟩ | ⟨i,hi,h,_⟩ <;> omega
def qe (t : List UInt8) : List UInt8:=t.take (va t).toNat
theorem GK (t : List UInt8) : (qe t).length≤t.length:=by simp [qe]; omega
def q4.b1 (a0 : List UInt8) : Int→Option (Step (List UInt8) (Int) (Unit)):=
 fun x3_1=>bif (decide (0≤x3_1)) then (bif inR x3_1 a0.length then (bif (decide ((byt a0 x3_1) = 47)) then (bif inS 0 x3_1 (a0.length : Int) then (some (.ret (sub a0 0 x3_1))) else none) else (some (.nxt (IntKind.wrap .i64 (x3_1 - 1))))) else none) else (some (.brk ()))
def q4.sh (k : Nat) (a0 : List UInt8) : Option (List UInt8):=
  (ql (q4.b1 a0) k (IntKind.wrap .i64 ((a0.length : Int) - 1))).bind fun z=>match z with | .inl t=>some t | .inr _=>some ([] : List UInt8)
theorem q4.eq (a0 : List UInt8) (h : a0.length≤4611686018427387904) : ∃ k,q4.sh k a0 = some (qe a0):=by
 refine ⟨a0.length + 1,?_⟩
 unfold q4.sh
 rw [wrap_small (n:=(a0.length : Int) - 1) (by omega) (by omega)]
 have key : ∀ (m k : Nat),m≤a0.length→m < k→(∀ j,m≤j→j < a0.length→bn (a0.getD j 0) ≠ 47)→
   ql (q4.b1 a0) k ((m : Int) - 1) = some (if va a0 = -1 then .inr () else .inl (qe a0)):=by
  intro m
  induction m with
  | zero=>
   intro k _ hk hn
   obtain ⟨k,rfl⟩ : ∃ j,k = j + 1:=⟨k - 1,by omega⟩
   have:=QU fun j hj=>hn j (by omega) hj
   have h0 : ¬ (0 : Int)≤((0 : Nat) : Int) - 1:=by omega
   simp [ql,q4.b1,this]
  | succ m ih=>
   intro k hm hk hn
   obtain ⟨k,rfl⟩ : ∃ j,k = j + 1:=⟨k - 1,by omega⟩
   have hlt : m < a0.length:=by omega
   have e : ((m + 1 : Nat) : Int) - 1 = (m : Int):=by omega
   rw [e]
   have h0 : (0 : Int)≤(m : Int):=by omega
   simp only [ql,q4.b1,h0,decide_true,cond_true,qW hlt,YR]
   by_cases hb : bn (a0.getD m 0) = 47
   ·have hl:=QR hlt hb fun j hj hj2=>hn j (by omega) hj2
    have hne : va a0 ≠ -1:=by omega
    simp only [hb,decide_true,cond_true,Vc (l:=0) (h:=(m : Int)) (n:=(a0.length : Int)) (by omega) (by omega) (by omega),Option.bind_some,hne,if_false]
    simp [sub,qe,hl]
   ·simp only [hb,decide_false,cond_false,Option.bind_some]
    rw [wrap_small (n:=(m : Int) - 1) (by omega) (by omega)]
    exact ih k (by omega) (by omega) fun j hj hj2=>by
     by_cases e : j = m
     ·subst e; exact hb
     ·exact hn j (by omega) hj2
 rw [key a0.length (a0.length + 1) (by omega) (by omega) (fun j h1 h2=>by omega)]
 by_cases hl : va a0 = -1
 ·simp [hl,qe]
 ·simp [hl]
def yr.sh (a0 : List UInt8) : Option (List UInt8):=
 bif decide (a0.length≤1048576) then (bif decide (([47] : List UInt8) = [47]) then (bif inS 0 (if ((va a0) < 0 : Prop) then 0 else (va a0)) (a0.length : Int) then (some (sub a0 0 (if ((va a0) < 0 : Prop) then 0 else (va a0)))) else none) else none) else none
theorem yr.eq (a0 : List UInt8) (h : a0.length≤1048576) : yr.sh a0 = some (qe a0):=by
 unfold yr.sh
 have hge:=VU a0
 have hlt:=V2 a0
 have hm : (if (va a0 < 0 : Prop) then 0 else va a0) = ((va a0).toNat : Int):=by split <;> omega
 simp only [h,decide_true,cond_true,hm]
 rw [Vc (l:=0) (h:=((va a0).toNat : Int)) (n:=(a0.length : Int)) (by omega) (by omega) (by omega)]
 simp [sub,qe]
 omega
end Go.UL
