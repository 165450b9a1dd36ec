import Derived.Test.YtdhmlillkbjjjaaGreatDoorvP22
set_option linter.unusedVariables false
set_option linter.unusedSimpArgs false
namespace Go.UL
open Go.RowKit
def riseN (t : List Nd) : Bool:=decide (t.Pairwise fun a b=>ltP a.path b.path = true)
theorem XP {t : List Nd} (h : riseN t = true) : yu (t.map (·.path)):=List.pairwise_map.2 (of_decide_eq_true h)
theorem riseN_mk {t : List Nd} (h : yu (t.map (·.path))) : riseN t = true:=decide_eq_true (List.pairwise_map.1 h)
def jM (t : List Nd) (p : List UInt8) : Nat:=(t.filter fun x=>ltP x.path p).length
def Qj (t : List Nd) (n : Nd) : List Nd:=t.filter (fun x=>ltP x.path n.path) ++ n :: t.filter (fun x=>!ltP x.path n.path)
theorem lessC_le (t : List Nd) (p : List UInt8) : jM t p≤t.length:=List.length_filter_le _ _
theorem JB {x : Nd} {t : List Nd} {p : List UInt8} (hr : yu ((x :: t).map (·.path))) (hx : ltP x.path p = false) : ∀ y ∈ t,ltP y.path p = false:=by
 intro y hy
 have h1 : ltP x.path y.path = true:=Yo hr y.path (List.mem_map_of_mem hy)
 rcases qo (ltP y.path p) with h | h
 ·rw [j3 h1 h] at hx; cases hx
 ·exact h
theorem less_iff : ∀ {t : List Nd} {p : List UInt8},yu (t.map (·.path))→∀ h,h < t.length→ltP (t.getD h default).path p = decide (h < jM t p):=by
 intro t p
 induction t with
 | nil=>intro _ h hh; simp at hh
 | cons x t ih=>
  intro hr h hh
  have hr2:=V3 hr
  rcases qo (ltP x.path p) with hx | hx
  ·have hc : jM (x :: t) p = jM t p + 1:=by simp [jM,hx]
   cases h with
   | zero=>simp [hx,hc]
   | succ h=>
    rw [List.getD_cons_succ,ih hr2 h (by simpa using hh),hc]
    rw [decide_eq_decide]; omega
  ·have hall:=JB hr hx
   have hc : jM (x :: t) p = 0:=by
    unfold jM
    rw [List.length_eq_zero_iff,List.filter_eq_nil_iff]
    intro y hy
    rcases List.mem_cons.1 hy with rfl | hy
    ·rw [hx]; simp
    ·rw [hall y hy]; simp
   rw [hc]
   have hm : (x :: t).getD h default ∈ x :: t:=by rw [yh hh]; exact List.getElem_mem hh
   rcases List.mem_cons.1 hm with he | hm
   ·rw [he,hx]; simp
   ·rw [hall _ hm]; simp
theorem less_split : ∀ {t : List Nd} {p : List UInt8},yu (t.map (·.path))→t.take (jM t p) = t.filter (fun x=>ltP x.path p)∧t.drop (jM t p) = t.filter (fun x=>!ltP x.path p):=by
 intro t p
 induction t with
 | nil=>intro _; exact ⟨rfl,rfl⟩
 | cons x t ih=>
  intro hr
  obtain ⟨i1,i2⟩:=ih (V3 hr)
  rcases qo (ltP x.path p) with hx | hx
  ·have hc : jM (x :: t) p = jM t p + 1:=by simp [jM,hx]
   rw [hc,List.take_succ_cons,List.drop_succ_cons,i1,i2]
   simp [hx]
  ·have hall:=JB hr hx
   have hc : jM (x :: t) p = 0:=by
    unfold jM
    rw [List.length_eq_zero_iff,List.filter_eq_nil_iff]
    intro y hy
    rcases List.mem_cons.1 hy with rfl | hy
    ·rw [hx]; simp
    ·rw [hall y hy]; simp
   have h1 : (x :: t).filter (fun x=>ltP x.path p) = []:=List.length_eq_zero_iff.1 hc
   have h2 : (x :: t).filter (fun x=>!ltP x.path p) = x :: t:=List.filter_eq_self.2 fun y hy=>by
    rcases List.mem_cons.1 hy with rfl | hy
    ·rw [hx]; rfl
    ·rw [hall y hy]; rfl
   rw [hc,h1,h2]
   exact ⟨rfl,rfl⟩
def cmpN (x y : Nd) : Option Int:=bif decide (x.path.length≤1048576) then (bif decide (y.path.length≤1048576) then some (cmpL (cut 47 x.path) (cut 47 y.path)) else none) else none
theorem cmpN_some {x y : Nd} {r : Int} (h : cmpN x y = some r) : x.path.length≤1048576∧y.path.length≤1048576∧r = cmpL (cut 47 x.path) (cut 47 y.path):=by
 unfold cmpN at h
 by_cases h1 : x.path.length≤1048576
 ·by_cases h2 : y.path.length≤1048576
  ·simp [h1,h2] at h; exact ⟨h1,h2,h.symm⟩
  ·simp [h1,h2] at h
 ·simp [h1] at h
def qR.b1 (a0 : List Nd) (a1 : Nd) (a2 : Nd→Nd→Option Int) : Int × Int→Option (Step (Int × Bool) (Int × Int) (Int)):=
 fun q=>match q with
 | (x9_7,x10_8)=>bif (decide (x9_7 < x10_8)) then (bif inR (IntKind.wrap .i64 ((IntKind.wrap .u64 (IntKind.wrap .i64 (x9_7 + x10_8))).fdiv (2 ^ 1))) a0.length then ((a2 (gt a0 (IntKind.wrap .i64 ((IntKind.wrap .u64 (IntKind.wrap .i64 (x9_7 + x10_8))).fdiv (2 ^ 1)))) a1).bind fun z31=>bif (decide (z31 < 0)) then (some (.nxt (IntKind.wrap .i64 ((IntKind.wrap .i64 ((IntKind.wrap .u64 (IntKind.wrap .i64 (x9_7 + x10_8))).fdiv (2 ^ 1))) + 1),x10_8))) else (some (.nxt (x9_7,IntKind.wrap .i64 ((IntKind.wrap .u64 (IntKind.wrap .i64 (x9_7 + x10_8))).fdiv (2 ^ 1)))))) else none) else (some (.brk x9_7))
def qR.sh (k : Nat) (a0 : List Nd) (a1 : Nd) (a2 : Nd→Nd→Option Int) : Option (Int × Bool):=
  (qt (qR.b1 a0 a1 a2) k (0,(a0.length : Int))).bind fun z=>match z with | .inl t=>some t | .inr x9_12=>bif (!(decide (x9_12 < (a0.length : Int))) || (inR x9_12 a0.length)) then ((a2 (gt a0 x9_12) a1).bind fun z58=>some (x9_12,((decide (x9_12 < (a0.length : Int))) && (decide (z58 = 0))))) else none
theorem qR.eq (a0 : List Nd) (a1 : Nd) (a2 : Nd→Nd→Option Int) {r : Int × Bool} (H : qR.sh 64 a0 a1 a2 = some r) : ∃ k,qR.sh k a0 a1 a2 = some r:=⟨64,H⟩
theorem binS_loop {t : List Nd} {n : Nd} (h0 : t.length≤1048575) (h1 : yu (t.map (·.path))) (h2 : ∀ x ∈ t,x.path.length≤1048576) (h3 : n.path.length≤1048576) :
  ∀ (d i j k : Nat),j - i < 2 ^ d→d < k→i≤jM t n.path→jM t n.path≤j→j≤t.length→qt (qR.b1 t n cmpN) k ((i : Int),(j : Int)) = some (.inr (jM t n.path : Int)):=by
 intro d
 induction d with
 | zero=>
  intro i j k hd hk hi hj hl
  obtain ⟨k,rfl⟩ : ∃ m,k = m + 1:=⟨k - 1,by omega⟩
  have hij : i = j:=by simp at hd; omega
  subst hij
  have he : jM t n.path = i:=by omega
  rw [qt]
  have d1 : decide ((i : Int) < (i : Int)) = false:=decide_eq_false (by omega)
  simp only [qR.b1,d1,cond_false,he]; rfl
 | succ d ih=>
  intro i j k hd hk hi hj hl
  obtain ⟨k,rfl⟩ : ∃ m,k = m + 1:=⟨k - 1,by omega⟩
  rw [qt]
  by_cases hij : i < j
  ·have d1 : decide ((i : Int) < (j : Int)) = true:=decide_eq_true (by omega)
   obtain ⟨m,hm⟩ : ∃ m : Nat,m = (i + j) / 2:=⟨_,rfl⟩
   have w1 : IntKind.wrap .i64 ((i : Int) + (j : Int)) = ((i + j : Nat) : Int):=by rw [wrap_small (by omega) (by omega)]; omega
   have w2 : IntKind.wrap .u64 ((i + j : Nat) : Int) = ((i + j : Nat) : Int):=by rw [IntKind.wrap_u64]; omega
   have w3 : (((i + j : Nat) : Int)).fdiv (2 ^ 1) = (m : Int):=by
    rw [hm,show ((2 : Int) ^ 1) = 2 by rfl,Int.fdiv_eq_ediv_of_nonneg _ (by omega)]; omega
   have w4 : IntKind.wrap .i64 (m : Int) = (m : Int):=wrap_small (by omega) (by omega)
   have w5 : IntKind.wrap .i64 ((m : Int) + 1) = ((m + 1 : Nat) : Int):=by rw [wrap_small (by omega) (by omega)]; omega
   have hml : m < t.length:=by omega
   have hp : (t.getD m default).path.length≤1048576:=h2 _ (by rw [yh hml]; exact List.getElem_mem hml)
   have hc : cmpN (gt t (m : Int)) n = some (cmpL (cut 47 (t.getD m default).path) (cut 47 n.path)):=by
    unfold cmpN; rw [yl]; simp only [decide_eq_true hp,decide_eq_true h3,cond_true]
   have hcl : decide (cmpL (cut 47 (t.getD m default).path) (cut 47 n.path) < 0) = decide (m < jM t n.path):=by
    rw [J0]; exact less_iff h1 m hml
   have hpow : 2 ^ (d + 1) = 2 * 2 ^ d:=by rw [Nat.pow_succ]; omega
   simp only [qR.b1,d1,cond_true,w1,w2,w3,w4,w5,qT hml,hc,Option.bind_some,hcl]
   by_cases hlt : m < jM t n.path
   ·simp only [hlt,decide_true,cond_true]
    exact ih (m + 1) j k (by omega) (by omega) (by omega) hj hl
   ·simp only [hlt,decide_false,cond_false]
    exact ih i m k (by omega) (by omega) hi (by omega) (by omega)
  ·have he : jM t n.path = i:=by omega
   have d1 : decide ((i : Int) < (j : Int)) = false:=decide_eq_false (by omega)
   simp only [qR.b1,d1,cond_false,he]; rfl
theorem binS_run {t : List Nd} {n : Nd} (h0 : t.length≤1048575) (h1 : riseN t = true) (h2 : ∀ x ∈ t,x.path.length≤1048576) (h3 : n.path.length≤1048576) :
  ∃ fd : Bool,qR.sh 64 t n cmpN = some ((jM t n.path : Int),fd):=by
 have hl:=binS_loop h0 (XP h1) h2 h3 20 0 t.length 64 (by omega) (by omega) (Nat.zero_le _) (lessC_le _ _) (Nat.le_refl _)
 have hle:=lessC_le t n.path
 unfold qR.sh
 rw [show ((0 : Int)) = ((0 : Nat) : Int) from rfl,hl]
 have hc : ∃ z,cmpN (gt t (jM t n.path : Int)) n = some z:=by
  unfold cmpN
  have hp : (gt t (jM t n.path : Int)).path.length≤1048576:=by
   rw [yl]
   by_cases hlt : jM t n.path < t.length
   ·rw [yh hlt]; exact h2 _ (List.getElem_mem hlt)
   ·rw [List.getD_eq_getElem?_getD,List.getElem?_eq_none (by omega)]; exact Nat.zero_le _
  exact ⟨_,by simp only [decide_eq_true hp,decide_eq_true h3,cond_true]; rfl⟩
 obtain ⟨z,hz⟩:=hc
 have hg : (!(decide ((jM t n.path : Int) < (t.length : Int))) || inR (jM t n.path : Int) t.length) = true:=by
  by_cases hlt : jM t n.path < t.length
  ·rw [qT hlt]; simp
  ·have : decide ((jM t n.path : Int) < (t.length : Int)) = false:=decide_eq_false (by omega)
   rw [this]; rfl
 exact ⟨_,by simp only [Option.bind_some,hg,cond_true,hz]; rfl⟩
def QF.sh (a0 : Nd) (a1 : Nd) : Option (Int):=
 bif decide (a0.path.length≤1048576) then (bif decide (a1.path.length≤1048576) then (some (cmpL (cut 47 a0.path) (cut 47 a1.path))) else none) else none
theorem QF.eq (a0 a1 : Nd) (h0 : a0.path.length≤1048576) (h1 : a1.path.length≤1048576) : QF.sh a0 a1 = some (cmpL (cut 47 a0.path) (cut 47 a1.path)):=by simp [QF.sh,h0,h1]
theorem cut_app2 : ∀ (p t : List UInt8),cut 47 (p ++ 47 :: t) = cut 47 p ++ cut 47 t:=by
 intro p t
 induction p with
 | nil=>rw [List.nil_append,Vo slash_bn]; rfl
 | cons b p ih=>
  rw [List.cons_append]
  by_cases h : bn b = 47
  ·rw [Vo h,Vo h,ih]; rfl
  ·rw [Vr h,Vr h,ih]
   cases hc : cut 47 p with
   | nil=>exact absurd hc (QG _ _)
   | cons x l=>rfl
theorem Q2 (q p : List UInt8) : vw q p = true ↔ ∃ r,r ≠ []∧cut 47 q = cut 47 p ++ r:=by
 unfold vw
 rw [List.isPrefixOf_iff_prefix]
 constructor
 ·rintro ⟨t,rfl⟩
  refine ⟨cut 47 t,QG _ _,?_⟩
  rw [List.append_assoc,List.singleton_append,cut_app2]
 ·rintro ⟨r,hr,h⟩
  refine ⟨yT r,?_⟩
  have hf : ∀ x ∈ cut 47 p ++ r,∀ b ∈ x,bn b ≠ 47:=by rw [← h]; exact JQ q
  apply cut_inj
  rw [List.append_assoc,List.singleton_append,cut_app2,h,G5 hr fun x hx=>hf x (List.mem_append_right _ hx)]
theorem lessL_app : ∀ (a r : List (List UInt8)),r ≠ []→vy a (a ++ r) = true:=by
 intro a r hr
 induction a with
 | nil=>cases r with
  | nil=>exact absurd rfl hr
  | cons x r=>rfl
 | cons x a ih=>simp [vy,ih]
theorem Y7 {q p : List UInt8} (h : vw q p = true) : ltP p q = true:=by
 obtain ⟨r,hr,e⟩:=(Q2 q p).1 h
 unfold ltP; rw [e]; exact lessL_app _ _ hr
theorem below_ne {q p : List UInt8} (h : vw q p = true) : q ≠ p:=fun e=>VE (Y7 h) e.symm
theorem below_irrefl (p : List UInt8) : vw p p = false:=by
 rcases qo (vw p p) with h | h
 ·exact absurd rfl (below_ne h)
 ·exact h
theorem Vs {a b c : List UInt8} (h1 : vw a b = true) (h2 : vw b c = true) : vw a c = true:=by
 obtain ⟨r,hr,e⟩:=(Q2 a b).1 h1
 obtain ⟨s,hs,f⟩:=(Q2 b c).1 h2
 refine (Q2 a c).2 ⟨s ++ r,by simp [hr],?_⟩
 rw [e,f,List.append_assoc]
theorem Xv {a b : List UInt8} (h : vw a b = true) : vw b a = false:=by
 rcases qo (vw b a) with h1 | h1
 ·exact absurd (Vs h h1) (by rw [below_irrefl]; simp)
 ·exact h1
theorem cut_parent {t : List UInt8} (h : qd t ≠ []) : cut 47 (qd t) = (cut 47 t).dropLast:=by
 rw [parentP_cut] at h ⊢
 refine G5 (fun e=>h (by rw [e]; rfl)) fun x hx=>JQ t x (List.dropLast_subset _ hx)
theorem yH {t : List UInt8} (h : qd t ≠ []) : vw t (qd t) = true:=by
 refine (Q2 _ _).2 ⟨[(cut 47 t).getLast (QG _ _)],by simp,?_⟩
 rw [cut_parent h,List.dropLast_concat_getLast]
theorem VO {t : List UInt8} (h : qd t ≠ []) : ltP (qd t) t = true:=Y7 (yH h)
theorem mem_ancs : ∀ (n : Nat) (t x : List UInt8),t.length≤n→(x ∈ yq t→x ≠ []∧vw t x = true):=by
 intro n
 induction n with
 | zero=>
  intro t x hn hx
  have : t = []:=List.eq_nil_of_length_eq_zero (by omega)
  subst this
  rw [Qh,if_pos j0] at hx; cases hx
 | succ n ih=>
  intro t x hn hx
  rw [Qh] at hx
  by_cases hp : qd t = []
  ·rw [if_pos hp] at hx; cases hx
  ·rw [if_neg hp] at hx
   have ht : t ≠ []:=fun e=>by subst e; exact hp j0
   rcases List.mem_cons.1 hx with rfl | hx
   ·exact ⟨hp,yH hp⟩
   ·obtain ⟨h1,h2⟩:=ih (qd t) x (by have:=QE ht; omega) hx
    exact ⟨h1,Vs (yH hp) h2⟩
theorem jy {t x : List UInt8} (h : x ∈ yq t) : vw t x = true:=(mem_ancs _ t x (Nat.le_refl _) h).2
theorem Yz {t x : List UInt8} (ht : qC t = true) (h : vw t x = true) : x ∈ yq t:=by
 obtain ⟨r,hr,e⟩:=(Q2 t x).1 h
 rw [ancs_cut ht,List.mem_reverse,List.mem_map]
 have hl : 0 < (cut 47 x).length:=List.length_pos_iff.2 (QG _ _)
 have hrl : 0 < r.length:=List.length_pos_iff.2 hr
 refine ⟨(cut 47 x).length - 1,List.mem_range.2 ?_,?_⟩
 ·rw [e,List.length_append]; omega
 ·rw [e,show (cut 47 x).length - 1 + 1 = (cut 47 x).length by omega,List.take_left,Vw]
theorem GS {t x : List UInt8} (ht : qC t = true) (h : vw t x = true) : qC x = true:=by
 obtain ⟨r,hr,e⟩:=(Q2 t x).1 h
 have hrl : 0 < r.length:=List.length_pos_iff.2 hr
 simp only [qC,Bool.and_eq_true,decide_eq_true_eq,e,List.all_append,List.length_append] at ht ⊢
 refine ⟨?_,by omega,ht.2.2.1⟩
 unfold vw at h
 rw [List.isPrefixOf_iff_prefix] at h
 have:=h.length_le
 simp at this; omega
theorem YV {t : List UInt8} (ht : qC t = true) (h : qd t ≠ []) : qC (qd t) = true:=GS ht (yH h)
theorem Xy {t x : List UInt8} (ht : qC t = true) (h : vw t x = true) : qd t ≠ []∧(qd t = x∨vw (qd t) x = true):=by
 have hm:=Yz ht h
 rw [Qh] at hm
 by_cases hp : qd t = []
 ·rw [if_pos hp] at hm; cases hm
 ·rw [if_neg hp] at hm
  refine ⟨hp,?_⟩
  rcases List.mem_cons.1 hm with e | hm
  ·exact .inl e.symm
  ·exact .inr (jy hm)
theorem jV {t x : List UInt8} (h : vw t x = true) : (cut 47 x).length < (cut 47 t).length:=by
 obtain ⟨r,hr,e⟩:=(Q2 t x).1 h
 have hrl : 0 < r.length:=List.length_pos_iff.2 hr
 rw [e,List.length_append]; omega
structure Wood (t : List Nd) : Prop where
 rise : yu (t.map (·.path))
 ok : ∀ n ∈ t,nodeOK n = true
 par : ∀ n ∈ t,qd n.path ≠ []→∃ m ∈ t,m.path = qd n.path∧m.kind = 3
structure Sheet (l : List Rec) : Prop where
 rise : yu (l.map (·.path))
 ok : ∀ r ∈ l,qx r = 0
 par : ∀ r ∈ l,qd r.path ≠ []→∃ q ∈ l,q.path = qd r.path∧q.kind = 3
abbrev vZ (t : List Nd) (p : List UInt8) : Option Nd:=jf (fun n : Nd=>n.path) t p
abbrev qN (l : List Rec) (p : List UInt8) : Option Rec:=jf (fun r : Rec=>r.path) l p
theorem ju {t : List Nd} (h : yu (t.map (·.path))) {n : Nd} (hn : n ∈ t) : vZ t n.path = some n:=Jr (fun n : Nd=>n.path) h n hn
theorem JS {l : List Rec} (h : yu (l.map (·.path))) {r : Rec} (hr : r ∈ l) : qN l r.path = some r:=Jr (fun r : Rec=>r.path) h r hr
theorem jr {t : List Nd} {p : List UInt8} {n : Nd} (h : vZ t p = some n) : n ∈ t∧n.path = p:=lookF_some _ h
theorem yj {l : List Rec} {p : List UInt8} {r : Rec} (h : qN l p = some r) : r ∈ l∧r.path = p:=lookF_some _ h
theorem jn (t : List Nd) (p : List UInt8) : (0≤qU t p ↔ vZ t p ≠ none)∧∀ x,vZ t p = some x→gt t (qU t p) = x:=X3 (fun n : Nd=>n.path) t p
theorem yA (l : List Rec) (p : List UInt8) : (0≤qJ l p ↔ qN l p ≠ none)∧∀ x,qN l p = some x→gt l (qJ l p) = x:=X3 (fun r : Rec=>r.path) l p
theorem G6 {α : Type} [Inhabited α] (f : α→List UInt8) {l : List α} (h : yu (l.map f)) {i j : Nat} (hij : i < j) (hj : j < l.length) : ltP (f (l.getD i default)) (f (l.getD j default)) = true:=by
 rw [yh (by omega),yh hj]
 have:=List.pairwise_iff_getElem.1 (List.pairwise_map.1 h) i j (by omega) hj hij
 exact this
theorem idx_lt {α : Type} [Inhabited α] (f : α→List UInt8) {l : List α} (h : yu (l.map f)) {i : Nat} (hi : i < l.length) {m : α} (hm : m ∈ l) (hlt : ltP (f m) (f (l.getD i default)) = true) : m ∈ l.take i:=by
 obtain ⟨j,hj,rfl⟩:=List.getElem_of_mem hm
 by_cases hji : j < i
 ·rw [List.mem_take_iff_getElem]
  exact ⟨j,by omega,rfl⟩
 ·exfalso
  have e : l[j] = l.getD j default:=(yh hj).symm
  rw [e] at hlt
  by_cases he : i = j
  ·subst he; rw [Qo] at hlt; cases hlt
  ·have:=G6 f h (show i < j by omega) hj
   rw [QN this] at hlt; cases hlt
theorem G2 {α : Type} (f : α→List UInt8) {l : List α} (h : yu (l.map f)) (i : Nat) : yu ((l.take i).map f):=by
 rw [List.map_take]; exact List.Pairwise.sublist (List.take_sublist _ _) h
def woodOK (t : List Nd) : Bool:=(List.range t.length).all (jQ t)
theorem Xg (t : List Nd) : j5 t = (decide (t.length≤24) && woodOK t):=rfl
theorem wood_of {t : List Nd} (h : woodOK t = true) : Wood t:=by
 have hat : ∀ i,i < t.length→jQ t i = true:=fun i hi=>List.all_eq_true.1 h i (List.mem_range.2 hi)
 have hr : yu (t.map (·.path)):=Jc _ fun i h0 hi=>by
  have:=hat i hi
  have h9 : ¬ i = 0:=by omega
  simp only [jQ,Bool.and_eq_true,h9,decide_false,Bool.false_or] at this
  exact this.1.2
 refine ⟨hr,fun n hn=>?_,fun n hn hp=>?_⟩
 ·obtain ⟨i,hi,rfl⟩:=List.getElem_of_mem hn
  have:=hat i hi
  simp only [jQ,Bool.and_eq_true,yh hi] at this
  exact this.1.1
 ·obtain ⟨i,hi,rfl⟩:=List.getElem_of_mem hn
  have:=hat i hi
  simp only [jQ,Bool.and_eq_true,yh hi] at this
  have h2:=this.2
  unfold QS at h2
  simp only [hp,decide_false,Bool.false_or,Bool.and_eq_true,decide_eq_true_eq] at h2
  cases hl : vZ (t.take i) (qd t[i].path) with
  | none=>exact absurd hl ((jn _ _).1.1 h2.1)
  | some m=>
   obtain ⟨hm,he⟩:=jr hl
   rw [(jn _ _).2 m hl] at h2
   exact ⟨m,List.mem_of_mem_take hm,he,h2.2⟩
theorem wood_ok {t : List Nd} (h : Wood t) : woodOK t = true:=by
 refine List.all_eq_true.2 fun i hi=>?_
 have hi:=List.mem_range.1 hi
 have hm : t.getD i default ∈ t:=by rw [yh hi]; exact List.getElem_mem hi
 simp only [jQ,Bool.and_eq_true,h.ok _ hm,true_and]
 refine ⟨?_,?_⟩
 ·by_cases h0 : i = 0
  ·simp [h0]
  ·have:=G6 (fun n : Nd=>n.path) h.rise (show i - 1 < i by omega) hi
   have h9 : vy (cut 47 (t.getD (i - 1) default).path) (cut 47 (t.getD i default).path) = true:=this
   rw [h9]; simp
 ·unfold QS
  by_cases hp : qd (t.getD i default).path = []
  ·rw [decide_eq_true hp]; rfl
  ·obtain ⟨m,hmt,he,hk⟩:=h.par _ hm hp
   have hmi : m ∈ t.take i:=idx_lt (fun n : Nd=>n.path) h.rise hi hmt (by
    show ltP m.path (t.getD i default).path = true
    rw [he]; exact VO hp)
   have hl:=ju (G2 (fun n : Nd=>n.path) h.rise i) hmi
   rw [he] at hl
   have h1:=(jn (t.take i) (qd (t.getD i default).path)).1.2 (by rw [hl]; simp)
   have h2:=(jn (t.take i) (qd (t.getD i default).path)).2 m hl
   have hz : qU (t.take i) (qd (t.getD i default).path) < (t.take i).length:=JA _ _
   simp only [hp,decide_false,Bool.false_or,Bool.and_eq_true,decide_eq_true_eq]
   exact ⟨h1,by rw [h2]; exact hk⟩
theorem treeOK_of {t : List Nd} (h : Wood t) (hl : t.length≤24) : j5 t = true:=by rw [Xg,wood_ok h,decide_eq_true hl]; rfl
theorem Xr {t : List Nd} (h : j5 t = true) : Wood t:=by
 rw [Xg,Bool.and_eq_true] at h
 exact wood_of h.2
theorem treeOK_len {t : List Nd} (h : j5 t = true) : t.length≤24:=(treeOK_rise h).1
theorem codeAt_par {l : List Rec} {i : Nat} (h : jk l i = 0) (hp : qd (l.getD i default).path ≠ []) : 0≤qJ (l.take i) (qd (l.getD i default).path)∧(gt l (qJ (l.take i) (qd (l.getD i default).path))).kind = 3:=by
 unfold jk at h
 split at h
 ·omega
 ·split at h
  ·exact absurd h ‹_›
  ·split at h
   ·omega
   ·split at h
    ·omega
    ·split at h
     ·omega
     ·split at h
      ·omega
      ·rename_i h1 h2
       exact ⟨by omega,by
        by_cases e : (gt l (qJ (l.take i) (qd (l.getD i default).path))).kind = 3
        ·exact e
        ·exact absurd e h2⟩
theorem Vx {l : List Rec} (h : (qn l).2 = 0) : Sheet l:=by
 refine ⟨layerOK_rise h,Xo h,fun r hr hp=>?_⟩
 obtain ⟨i,hi,rfl⟩:=List.getElem_of_mem hr
 have e : l[i] = l.getD i default:=(yh hi).symm
 rw [e] at hp ⊢
 obtain ⟨h1,h2⟩:=codeAt_par (Va h i hi) hp
 cases hl : qN (l.take i) (qd (l.getD i default).path) with
 | none=>exact absurd hl ((yA _ _).1.1 h1)
 | some m=>
  obtain ⟨hm,he⟩:=yj hl
  refine ⟨m,List.mem_of_mem_take hm,he,?_⟩
  have h3:=(yA (l.take i) (qd (l.getD i default).path)).2 m hl
  rw [gtake l i _ h1 (JJ _ _)] at h3
  rw [← h3]; exact h2
theorem QC {l : List Rec} (h : Sheet l) (hn : l.length≤16) : (qn l).2 = 0:=by
 rw [layerFault_of fun i hi=>?_]
 have hm : l.getD i default ∈ l:=by rw [yh hi]; exact List.getElem_mem hi
 unfold jk
 rw [if_neg (by omega),if_neg (by rw [h.ok _ hm]; simp)]
 have hlt : 0 < i→ltP (l.getD (i - 1) default).path (l.getD i default).path = true:=fun h0=>G6 (fun r : Rec=>r.path) h.rise (show i - 1 < i by omega) hi
 rw [if_neg (fun ⟨h0,e⟩=>VE (hlt h0) e.symm),if_neg (fun ⟨h0,e⟩=>by have:=hlt h0; unfold ltP at this; rw [e] at this; cases this)]
 by_cases hp : qd (l.getD i default).path = []
 ·rw [if_pos hp]
 ·obtain ⟨m,hmt,he,hk⟩:=h.par _ hm hp
  have hmi : m ∈ l.take i:=idx_lt (fun r : Rec=>r.path) h.rise hi hmt (by
   show ltP m.path (l.getD i default).path = true
   rw [he]; exact VO hp)
  have hl:=JS (G2 (fun r : Rec=>r.path) h.rise i) hmi
  rw [he] at hl
  have h1:=(yA (l.take i) (qd (l.getD i default).path)).1.2 (by rw [hl]; simp)
  have h2:=(yA (l.take i) (qd (l.getD i default).path)).2 m hl
  rw [gtake l i _ h1 (JJ _ _)] at h2
  rw [if_neg hp,if_neg (by omega),if_neg (by rw [h2]; simp [hk])]
theorem Wood.up {t : List Nd} (h : Wood t) : ∀ (k : Nat) (n : Nd),n ∈ t→n.path.length≤k→∀ p ∈ yq n.path,∃ m ∈ t,m.path = p∧m.kind = 3:=by
 intro k
 induction k with
 | zero=>
  intro n hn hk p hp
  have : n.path = []:=List.eq_nil_of_length_eq_zero (by omega)
  rw [this,Qh,if_pos j0] at hp; cases hp
 | succ k ih=>
  intro n hn hk p hp
  rw [Qh] at hp
  by_cases hpp : qd n.path = []
  ·rw [if_pos hpp] at hp; cases hp
  ·rw [if_neg hpp] at hp
   obtain ⟨m,hm,he,hk3⟩:=h.par n hn hpp
   have hne : n.path ≠ []:=fun e=>by rw [e] at hpp; exact hpp j0
   rcases List.mem_cons.1 hp with rfl | hp
   ·exact ⟨m,hm,he,hk3⟩
   ·exact ih m hm (by rw [he]; have:=QE hne; omega) p (by rw [he]; exact hp)
theorem nodeOK_fault {n : Nd} (h : nodeOK n = true) : qx (Qu n) = 0∧n.kind ≠ 4:=by
 simp only [nodeOK,Bool.and_eq_true,decide_eq_true_eq,Bool.not_eq_true',decide_eq_false_iff_not] at h
 exact h
theorem Wood.above {t : List Nd} (h : Wood t) {n : Nd} (hn : n ∈ t) {p : List UInt8} (hb : vw n.path p = true) : ∃ m ∈ t,m.path = p∧m.kind = 3:=
 h.up _ n hn (Nat.le_refl _) p (Yz (QB (h.ok n hn)) hb)
theorem Sheet.up {t : List Rec} (h : Sheet t) : ∀ (k : Nat) (n : Rec),n ∈ t→n.path.length≤k→∀ p ∈ yq n.path,∃ m ∈ t,m.path = p∧m.kind = 3:=by
 intro k
 induction k with
 | zero=>
  intro n hn hk p hp
  have : n.path = []:=List.eq_nil_of_length_eq_zero (by omega)
  rw [this,Qh,if_pos j0] at hp; cases hp
 | succ k ih=>
  intro n hn hk p hp
  rw [Qh] at hp
  by_cases hpp : qd n.path = []
  ·rw [if_pos hpp] at hp; cases hp
  ·rw [if_neg hpp] at hp
   obtain ⟨m,hm,he,hk3⟩:=h.par n hn hpp
   have hne : n.path ≠ []:=fun e=>by rw [e] at hpp; exact hpp j0
   rcases List.mem_cons.1 hp with rfl | hp
   ·exact ⟨m,hm,he,hk3⟩
   ·exact ih m hm (by rw [he]; have:=QE hne; omega) p (by rw [he]; exact hp)
theorem Sheet.above {t : List Rec} (h : Sheet t) {n : Rec} (hn : n ∈ t) {p : List UInt8} (hb : vw n.path p = true) : ∃ m ∈ t,m.path = p∧m.kind = 3:=
 h.up _ n hn (Nat.le_refl _) p (Yz (vV (h.ok n hn)) hb)
theorem look_filter {α : Type} (f : α→List UInt8) (q : α→Bool) {l : List α} (h : yu (l.map f)) (p : List UInt8) : jf f (l.filter q) p = (jf f l p).filter q:=by
 induction l with
 | nil=>rfl
 | cons x l ih=>
  have ih:=ih (V3 h)
  rw [jO]
  by_cases hx : q x = true
  ·rw [List.filter_cons_of_pos hx,jO,ih]
   by_cases e : f x = p
   ·rw [if_pos e,if_pos e,Option.filter_some,if_pos hx]
   ·rw [if_neg e,if_neg e]
  ·rw [List.filter_cons_of_neg hx,ih]
   by_cases e : f x = p
   ·have : jf f l p = none:=(QH f).2 fun hm=>VE (Yo h p hm) e
    rw [if_pos e,this,Option.filter_some,if_neg hx]; rfl
   ·rw [if_neg e]
theorem Vp {α : Type} (f : α→List UInt8) (q : α→Bool) {l : List α} (h : yu (l.map f)) : yu ((l.filter q).map f):=
 List.Pairwise.sublist (List.Sublist.map f List.filter_sublist) h
theorem Gx {t : List Nd} (h : yu (t.map (·.path))) (q : Nd→Bool) (p : List UInt8) : vZ (t.filter q) p = (vZ t p).filter q:=look_filter (fun n : Nd=>n.path) q h p
theorem X2 {t : List Nd} {n : Nd} (h : yu (t.map (·.path))) (hn : n.path ∉ t.map (·.path)) : yu ((Qj t n).map (·.path))∧∀ p,vZ (Qj t n) p = if p = n.path then some n else vZ t p:=by
 have hr : yu ((Qj t n).map (·.path)):=by
  unfold Qj yu
  rw [List.map_append,List.map_cons,List.pairwise_append,List.pairwise_cons]
  have hgt : ∀ y ∈ (t.filter fun x=>!ltP x.path n.path).map (fun x : Nd=>x.path),ltP n.path y = true:=by
   intro y hy
   obtain ⟨x,hx,rfl⟩:=List.mem_map.1 hy
   obtain ⟨hx1,hx2⟩:=List.mem_filter.1 hx
   rcases qo (ltP n.path x.path) with h1 | h1
   ·exact h1
   ·have h2 : ltP x.path n.path = false:=by simpa using hx2
    exact absurd (List.mem_map_of_mem (f:=fun x : Nd=>x.path) hx1) (by rw [show x.path = n.path from Yl h2 h1]; exact hn)
  refine ⟨Vp _ _ h,⟨hgt,Vp _ _ h⟩,fun a ha b hb=>?_⟩
  obtain ⟨x,hx,rfl⟩:=List.mem_map.1 ha
  have h1:=(List.mem_filter.1 hx).2
  rcases List.mem_cons.1 hb with rfl | hb
  ·exact h1
  ·exact j3 h1 (hgt b hb)
 refine ⟨hr,fun p=>?_⟩
 by_cases e : p = n.path
 ·subst e
  rw [if_pos rfl]
  exact ju hr (by unfold Qj; simp)
 ·rw [if_neg e]
  have key : ∀ x,vZ (Qj t n) p = some x ↔ vZ t p = some x:=by
   intro x
   constructor
   ·intro hx
    obtain ⟨h1,h2⟩:=jr hx
    unfold Qj at h1
    rw [List.mem_append,List.mem_cons] at h1
    rcases h1 with h1 | h1 | h1
    ·rw [← h2]; exact ju h (List.mem_filter.1 h1).1
    ·exact absurd (by rw [← h2,h1]) e
    ·rw [← h2]; exact ju h (List.mem_filter.1 h1).1
   ·intro hx
    obtain ⟨h1,h2⟩:=jr hx
    rw [← h2]
    refine ju hr ?_
    unfold Qj
    rw [List.mem_append,List.mem_cons]
    rcases qo (ltP x.path n.path) with h3 | h3
    ·exact .inl (List.mem_filter.2 ⟨h1,h3⟩)
    ·exact .inr (.inr (List.mem_filter.2 ⟨h1,by rw [h3]; rfl⟩))
  cases hl : vZ t p with
  | none=>
   cases hl2 : vZ (Qj t n) p with
   | none=>rfl
   | some x=>rw [(key x).1 hl2] at hl; cases hl
  | some x=>exact (key x).2 hl
def GD (t : List Nd) (n : Nd) : List Nd:=t.takeWhile (fun x=>ltP x.path n.path) ++ n :: (match t.dropWhile (fun x=>ltP x.path n.path) with | []=>[] | y :: r=>if y.path = n.path then r else y :: r)
theorem rise_while {t : List Nd} {p : List UInt8} (h : yu (t.map (·.path))) : t.takeWhile (fun x=>ltP x.path p) = t.filter (fun x=>ltP x.path p)∧t.dropWhile (fun x=>ltP x.path p) = t.filter (fun x=>!ltP x.path p):=by
 induction t with
 | nil=>exact ⟨rfl,rfl⟩
 | cons x t ih=>
  obtain ⟨i1,i2⟩:=ih (V3 h)
  rcases qo (ltP x.path p) with hx | hx
  ·simp only [List.takeWhile_cons,List.dropWhile_cons,List.filter_cons,hx,if_true,i1,i2]
   simp
  ·have hall:=JB h hx
   have h1 : t.filter (fun x=>ltP x.path p) = []:=List.filter_eq_nil_iff.2 fun y hy=>by rw [hall y hy]; simp
   have h2 : t.filter (fun x=>!ltP x.path p) = t:=List.filter_eq_self.2 fun y hy=>by rw [hall y hy]; rfl
   simp [List.takeWhile_cons,List.dropWhile_cons,List.filter_cons,hx,h1,h2]
theorem putN_place {t : List Nd} {n : Nd} (h : yu (t.map (·.path))) : GD t n = Qj (t.filter fun x=>!decide (x.path = n.path)) n:=by
 obtain ⟨h1,h2⟩:=rise_while (p:=n.path) h
 unfold GD Qj
 rw [h1,h2,List.filter_filter,List.filter_filter]
 have e1 : t.filter (fun x=>ltP x.path n.path && !decide (x.path = n.path)) = t.filter (fun x=>ltP x.path n.path):=by
  refine List.filter_congr fun x _=>?_
  rcases qo (ltP x.path n.path) with h3 | h3
  ·rw [h3,decide_eq_false (VE h3)]; rfl
  ·rw [h3]; rfl
 rw [e1]
 congr 2
 have hr:=Vp (fun x : Nd=>x.path) (fun x=>!ltP x.path n.path) h
 have hnl : ∀ x ∈ t.filter (fun x=>!ltP x.path n.path),ltP x.path n.path = false:=fun x hx=>by simpa using (List.mem_filter.1 hx).2
 have e2 : t.filter (fun x=>(!ltP x.path n.path) && !decide (x.path = n.path)) = (t.filter (fun x=>!ltP x.path n.path)).filter fun x=>!decide (x.path = n.path):=by
  rw [List.filter_filter]
  exact List.filter_congr fun x _=>Bool.and_comm _ _
 rw [e2]
 cases hd : t.filter (fun x=>!ltP x.path n.path) with
 | nil=>rfl
 | cons y r=>
  rw [hd] at hr hnl
  have hrest : ∀ x ∈ r,x.path ≠ n.path:=by
   intro x hx e
   have h3 : ltP y.path x.path = true:=Yo hr x.path (List.mem_map_of_mem hx)
   rw [e,hnl y (List.mem_cons_self ..)] at h3; cases h3
  have hfr : r.filter (fun x=>!decide (x.path = n.path)) = r:=List.filter_eq_self.2 fun x hx=>by rw [decide_eq_false (hrest x hx)]; rfl
  by_cases e : y.path = n.path
  ·simp [e,hfr]
  ·simp [e,hfr]
def doS (t : List Nd) (r : Rec) : List Nd:=
 if r.kind = 4 then ye t r.path true
 else if r.kind ≠ 3∨r.opq = true∨(0≤qU t r.path∧(gt t (qU t r.path)).kind ≠ 3) then GD (ye t r.path false) (jl r) else GD t (jl r)
def doI (t : List Nd) (r : Rec) : List Nd:=
 if (r.kind = 3∧r.opq = false)∧0≤qU t r.path∧(gt t (qU t r.path)).kind = 3 then Y4 t (qU t r.path) ⟨(gt t (qU t r.path)).kind,(gt t (qU t r.path)).path,(gt t (qU t r.path)).body,r.mode⟩
 else if r.kind = 4 then ye t r.path true else Qj (ye t r.path true) (jl r)
def QO (r : Rec) : Option Nd:=if r.kind = 4 then none else some (jl r)
def Ys (t : List Nd) (r : Rec) (p : List UInt8) : Option Nd:=if p = r.path then QO r else if jP r && vw p r.path then none else vZ t p
theorem GR {r : Rec} (h : qx r = 0) (hk : r.kind = 3) : r.body = []:=by
 unfold qx at h
 split at h
 ·omega
 ·split at h
  ·omega
  ·split at h
   ·omega
   ·split at h
    ·omega
    ·rename_i h4
     by_cases e : r.body = []
     ·exact e
     ·exact absurd (by simp [hk,e]) h4
theorem VB {t : List Nd} (h : yu (t.map (·.path))) {p : List UInt8} (hp : p ≠ []) (b : Bool) (q : List UInt8) : vZ (ye t p b) q = if vw q p || (b && decide (q = p)) then none else vZ t q:=by
 unfold ye
 rw [Gx h]
 cases hl : vZ t q with
 | none=>rw [ite_self]; rfl
 | some x=>
  have e:=(jr hl).2
  subst e
  simp only [hp,decide_false,Bool.false_and,Bool.false_or,Option.filter_some]
  cases vw x.path p <;> cases b <;> cases hd : decide (x.path = p) <;> simp
theorem VA {t : List Nd} (h : yu (t.map (·.path))) (p : List UInt8) (b : Bool) : yu ((ye t p b).map (·.path)):=Vp _ _ h
theorem X7 {t : List Nd} (h : Wood t) {p q : List UInt8} (hb : vw q p = true) (hd : ∀ m ∈ t,m.path = p→m.kind ≠ 3) : vZ t q = none:=by
 cases hl : vZ t q with
 | none=>rfl
 | some n=>
  obtain ⟨hn,e⟩:=jr hl
  subst e
  obtain ⟨m,hm,h1,h2⟩:=h.above hn hb
  exact absurd h2 (hd m hm h1)
theorem putN_look {t : List Nd} (h : yu (t.map (·.path))) (n : Nd) : yu ((GD t n).map (·.path))∧∀ p,vZ (GD t n) p = if p = n.path then some n else vZ t p:=by
 rw [putN_place h]
 have hr:=Vp (fun x : Nd=>x.path) (fun x=>!decide (x.path = n.path)) h
 have hn : n.path ∉ (t.filter fun x=>!decide (x.path = n.path)).map (fun x : Nd=>x.path):=by
  intro hm
  obtain ⟨x,hx,e⟩:=List.mem_map.1 hm
  have:=(List.mem_filter.1 hx).2
  simp [e] at this
 obtain ⟨h1,h2⟩:=X2 hr hn
 refine ⟨h1,fun p=>?_⟩
 rw [h2]
 by_cases e : p = n.path
 ·simp [e]
 ·simp only [if_neg e]
  rw [Gx h]
  cases hl : vZ t p with
  | none=>rfl
  | some x=>
   have e2:=(jr hl).2
   subst e2
   rw [Option.filter_some,decide_eq_false e]; rfl
theorem Xi {r : Rec} (h : qx r = 0) : r.path ≠ []:=VQ (vV h)
theorem doS_spec {t : List Nd} {r : Rec} (h : Wood t) (hr : qx r = 0) : yu ((doS t r).map (·.path))∧∀ p,vZ (doS t r) p = Ys t r p:=by
 have hne:=Xi hr
 unfold doS Ys QO
 by_cases h4 : r.kind = 4
 ·have hst : jP r = true:=by simp [jP,h4]
  rw [if_pos h4]
  refine ⟨VA h.rise _ _,fun p=>?_⟩
  rw [VB h.rise hne]
  by_cases e : p = r.path
  ·simp [e,h4]
  ·simp [e,hst]
 ·rw [if_neg h4]
  by_cases hc : r.kind ≠ 3∨r.opq = true∨(0≤qU t r.path∧(gt t (qU t r.path)).kind ≠ 3)
  ·rw [if_pos hc]
   obtain ⟨h1,h2⟩:=putN_look (VA h.rise r.path false) (jl r)
   refine ⟨h1,fun p=>?_⟩
   rw [h2]
   have hpath : (jl r).path = r.path:=rfl
   by_cases e : p = r.path
   ·rw [if_pos (by rw [e]; rfl),if_pos e,if_neg h4]
   ·rw [if_neg (by rw [hpath]; exact e),if_neg e,VB h.rise hne]
    simp only [Bool.false_and,Bool.or_false]
    rcases qo (jP r) with hs | hs
    ·rw [hs]; rfl
    ·rw [hs]
     simp only [Bool.false_and,Bool.false_eq_true,if_false]
     rcases qo (vw p r.path) with hb | hb
     ·rw [hb,if_pos rfl]
      have hs2 : r.kind = 3∧r.opq = false:=by simpa [jP] using hs
      rcases hc with hc | hc | hc
      ·exact absurd hs2.1 hc
      ·rw [hs2.2] at hc; cases hc
      ·refine (X7 h hb fun m hm e2=>?_).symm
       have hl:=ju h.rise hm
       rw [e2] at hl
       rw [(jn t r.path).2 m hl] at hc
       exact hc.2
     ·rw [hb]; rfl
  ·rw [if_neg hc]
   obtain ⟨h1,h2⟩:=putN_look h.rise (jl r)
   refine ⟨h1,fun p=>?_⟩
   rw [h2]
   have hpath : (jl r).path = r.path:=rfl
   have hs : jP r = false:=by
    simp only [not_or,ne_eq,Decidable.not_not] at hc
    simp only [jP,hc.1,decide_true,Bool.not_true,Bool.false_or]
    cases ho : r.opq with
    | false=>rfl
    | true=>exact absurd ho hc.2.1
   by_cases e : p = r.path
   ·rw [if_pos (by rw [e]; rfl),if_pos e,if_neg h4]
   ·rw [if_neg (by rw [hpath]; exact e),if_neg e,hs]; rfl
theorem set_look {t : List Nd} {n : Nd} (h : yu (t.map (·.path))) {k : Nat} (hk : k < t.length) (hp : n.path = (t.getD k default).path) : yu ((t.set k n).map (·.path))∧∀ p,vZ (t.set k n) p = if p = n.path then some n else vZ t p:=by
 have hm : (t.set k n).map (fun x : Nd=>x.path) = t.map (fun x : Nd=>x.path):=by
  rw [List.map_set,hp,yh hk]
  apply List.ext_getElem
  ·simp
  ·intro i h1 h2
   rw [List.getElem_set]
   split
   ·rename_i e; subst e; simp
   ·rfl
 have hr : yu ((t.set k n).map (fun x : Nd=>x.path)):=by rw [hm]; exact h
 refine ⟨hr,fun p=>?_⟩
 by_cases e : p = n.path
 ·subst e; rw [if_pos rfl]
  exact ju hr (List.mem_set hk n)
 ·rw [if_neg e]
  have key : ∀ x,vZ (t.set k n) p = some x ↔ vZ t p = some x:=by
   intro x
   constructor
   ·intro hx
    obtain ⟨h1,h2⟩:=jr hx
    rw [← h2]
    rcases List.mem_or_eq_of_mem_set h1 with h1 | h1
    ·exact ju h h1
    ·exact absurd (by rw [← h2,h1]) e
   ·intro hx
    obtain ⟨h1,h2⟩:=jr hx
    rw [← h2]
    refine ju hr ?_
    obtain ⟨j,hj,rfl⟩:=List.getElem_of_mem h1
    have hjk : k ≠ j:=fun e2=>e (by subst e2; rw [← h2,hp,yh hk])
    rw [List.mem_iff_getElem]
    exact ⟨j,by simpa using hj,by rw [List.getElem_set_ne hjk]⟩
  cases hl : vZ t p with
  | none=>
   cases hl2 : vZ (t.set k n) p with
   | none=>rfl
   | some x=>rw [(key x).1 hl2] at hl; cases hl
  | some x=>exact (key x).2 hl
theorem doI_spec {t : List Nd} {r : Rec} (h : Wood t) (hr : qx r = 0) : yu ((doI t r).map (·.path))∧∀ p,vZ (doI t r) p = Ys t r p:=by
 have hne:=Xi hr
 unfold doI Ys QO
 by_cases hc : (r.kind = 3∧r.opq = false)∧0≤qU t r.path∧(gt t (qU t r.path)).kind = 3
 ·rw [if_pos hc]
  obtain ⟨⟨h3,ho⟩,hf,hk⟩:=hc
  have hs : jP r = false:=by simp [jP,h3,ho]
  obtain ⟨m,hm⟩ : ∃ m,vZ t r.path = some m:=by
   cases hl : vZ t r.path with
   | none=>exact absurd hl ((jn t r.path).1.1 hf)
   | some m=>exact ⟨m,rfl⟩
  have hg:=(jn t r.path).2 m hm
  obtain ⟨hmt,hmp⟩:=jr hm
  rw [hg] at hk ⊢
  have hin:=JY (t:=t) (p:=r.path) (by omega)
  have hlt : (qU t r.path).toNat < t.length:=by have:=j9 hin; omega
  have hgd : t.getD (qU t r.path).toNat default = m:=hg
  have hb1 : m.body = []:=GR (r:=Qu m) (nodeOK_fault (h.ok m hmt)).1 hk
  have hb2 : r.body = []:=GR hr h3
  have hnd : (⟨m.kind,m.path,m.body,r.mode⟩ : Nd) = jl r:=by unfold jl; rw [hk,hmp,hb1,h3,hb2]
  rw [hnd]
  obtain ⟨h1,h2⟩:=set_look (n:=jl r) h.rise hlt (by rw [hgd]; exact hmp.symm)
  refine ⟨h1,fun p=>?_⟩
  have:=h2 p
  unfold Y4
  rw [this]
  have h4 : r.kind ≠ 4:=by omega
  by_cases e : p = r.path
  ·rw [if_pos (by rw [e]; rfl),if_pos e,if_neg h4]
  ·rw [if_neg (show ¬ p = (jl r).path from e),if_neg e,hs]; rfl
 ·rw [if_neg hc]
  by_cases h4 : r.kind = 4
  ·have hst : jP r = true:=by simp [jP,h4]
   rw [if_pos h4]
   refine ⟨VA h.rise _ _,fun p=>?_⟩
   rw [VB h.rise hne]
   by_cases e : p = r.path
   ·simp [e,h4]
   ·simp [e,hst]
  ·rw [if_neg h4]
   have hn : (jl r).path ∉ (ye t r.path true).map (fun x : Nd=>x.path):=by
    intro hm
    have:=(Yb (fun n : Nd=>n.path)).1 hm
    exact this (by show vZ (ye t r.path true) r.path = none; rw [VB h.rise hne]; simp)
   obtain ⟨h1,h2⟩:=X2 (VA h.rise r.path true) hn
   refine ⟨h1,fun p=>?_⟩
   rw [h2]
   by_cases e : p = r.path
   ·rw [if_pos (by rw [e]; rfl),if_pos e,if_neg h4]
   ·rw [if_neg (show ¬ p = (jl r).path from e),if_neg e,VB h.rise hne]
    simp only [e,decide_false,Bool.and_false,Bool.or_false]
    rcases qo (jP r) with hs | hs
    ·rw [hs]; rfl
    ·rw [hs]
     simp only [Bool.false_and,Bool.false_eq_true,if_false]
     rcases qo (vw p r.path) with hb | hb
     ·rw [hb,if_pos rfl]
      have hs2 : r.kind = 3∧r.opq = false:=by simpa [jP] using hs
      refine (X7 h hb fun m hm e2 hk=>hc ?_).symm
      have hl:=ju h.rise hm
      rw [e2] at hl
      refine ⟨hs2,(jn t r.path).1.2 (by rw [hl]; simp),?_⟩
      rw [(jn t r.path).2 m hl]; exact hk
     ·rw [hb]; rfl
theorem doI_doS {t : List Nd} {r : Rec} (h : Wood t) (hr : qx r = 0) : doI t r = doS t r:=by
 obtain ⟨a1,a2⟩:=doI_spec h hr
 obtain ⟨b1,b2⟩:=doS_spec h hr
 exact Jl (fun n : Nd=>n.path) a1 b1 fun p=>(a2 p).trans (b2 p).symm
theorem y9 (r : Rec) : qx r = 0 ↔ within r.kind 1 4 = true∧qC r.path = true∧(decide (20 < r.body.length) || (decide (r.kind = 2) && decide (r.body = []))) = false∧
  (((decide (r.kind = 3) || decide (r.kind = 4)) && !decide (r.body = [])) || (!decide (r.kind = 3) && r.opq)) = false∧(!within r.mode 0 511 || ((decide (r.kind = 2) || decide (r.kind = 4)) && !decide (r.mode = 0))) = false:=by
 unfold qx
 generalize (!within r.mode 0 511 || ((decide (r.kind = 2) || decide (r.kind = 4)) && !decide (r.mode = 0))) = c5
 generalize (((decide (r.kind = 3) || decide (r.kind = 4)) && !decide (r.body = [])) || (!decide (r.kind = 3) && r.opq)) = c4
 generalize (decide (20 < r.body.length) || (decide (r.kind = 2) && decide (r.body = []))) = c3
 cases within r.kind 1 4 <;> cases qC r.path <;> cases c3 <;> cases c4 <;> cases c5 <;> simp
theorem V1 {r : Rec} (h : qx r = 0) (b : Bool) (hb : b = true→r.kind = 3) : qx ⟨r.kind,r.path,r.body,r.mode,b⟩ = 0:=by
 obtain ⟨h1,h2,h3,h4,h5⟩:=(y9 r).1 h
 refine (y9 _).2 ⟨h1,h2,h3,?_,h5⟩
 rw [Bool.or_eq_false_iff] at h4 ⊢
 refine ⟨h4.1,?_⟩
 cases b with
 | false=>simp
 | true=>simp [hb rfl]
theorem Xq {r : Rec} (hr : qx r = 0) (h4 : r.kind ≠ 4) : nodeOK (jl r) = true:=by
 simp only [nodeOK,Bool.and_eq_true,decide_eq_true_eq,Bool.not_eq_true',decide_eq_false_iff_not]
 exact ⟨V1 hr false (fun h=>by cases h),h4⟩
theorem doS_wood {t : List Nd} {r : Rec} (h : Wood t) (hr : qx r = 0) (hp : qd r.path ≠ []→∃ m ∈ t,m.path = qd r.path∧m.kind = 3) : Wood (doS t r):=by
 obtain ⟨b1,b2⟩:=doS_spec h hr
 have hmem : ∀ n ∈ doS t r,Ys t r n.path = some n:=fun n hn=>by rw [← b2]; exact ju b1 hn
 have hback : ∀ p x,Ys t r p = some x→x ∈ doS t r∧x.path = p:=fun p x hx=>by rw [← b2] at hx; exact jr hx
 refine ⟨b1,fun n hn=>?_,fun n hn hpp=>?_⟩
 ·have:=hmem n hn
  unfold Ys at this
  split at this
  ·unfold QO at this
   split at this
   ·cases this
   ·rename_i h4; rw [← Option.some.inj this]; exact Xq hr h4
  ·split at this
   ·cases this
   ·exact h.ok n (jr this).1
 ·have hs:=hmem n hn
  unfold Ys at hs
  by_cases e : n.path = r.path
  ·rw [e] at hpp
   obtain ⟨m,hm,h1,h2⟩:=hp hpp
   have hb:=yH hpp
   have hx : Ys t r (qd r.path) = some m:=by
    unfold Ys
    rw [if_neg (fun e2=>below_ne hb e2.symm),Xv hb,Bool.and_false,← h1]
    exact ju h.rise hm
   obtain ⟨g1,g2⟩:=hback _ _ hx
   exact ⟨m,g1,by rw [g2,e],h2⟩
  ·rw [if_neg e] at hs
   split at hs
   ·cases hs
   ·rename_i hns
    have hnt:=(jr hs).1
    have hnok:=QB (h.ok n hnt)
    obtain ⟨m,hm,h1,h2⟩:=h.par n hnt hpp
    have hb:=yH hpp
    by_cases e2 : qd n.path = r.path
    ·
     rw [e2] at hb
     have hst : jP r = false:=by
      rcases qo (jP r) with h3 | h3
      ·exact absurd (by rw [h3,hb]; rfl) hns
      ·exact h3
     have h3 : r.kind = 3:=by
      have : r.kind = 3∧r.opq = false:=by simpa [jP] using hst
      exact this.1
     have hx : Ys t r (qd n.path) = some (jl r):=by
      unfold Ys QO
      rw [if_pos e2,if_neg (by omega)]
     obtain ⟨g1,g2⟩:=hback _ _ hx
     exact ⟨_,g1,g2,h3⟩
    ·have hx : Ys t r (qd n.path) = some m:=by
      unfold Ys
      rw [if_neg e2]
      rw [if_neg (fun h3=>hns ?_),← h1]
      ·exact ju h.rise hm
      ·rw [Bool.and_eq_true] at h3
       rw [h3.1,Vs hb h3.2]; rfl
     obtain ⟨g1,g2⟩:=hback _ _ hx
     exact ⟨m,g1,g2,h2⟩
def vd (l : List Rec) (t : List Nd) : List Nd:=l.foldl doS t
theorem Xh (l : List Rec) (r : Rec) (t : List Nd) : vd (l ++ [r]) t = doS (vd l t) r:=by simp [vd]
def seenL (l : List Rec) (t : List Nd) (p : List UInt8) : Option Nd:=match qN l p with
 | some r=>QO r
 | none=>if Vn l p then none else vZ t p
theorem QL (l : List Rec) (p : List UInt8) : Vn l p = true ↔ ∃ x ∈ yq p,∃ r,qN l x = some r∧jP r = true:=by
 unfold Vn
 rw [List.any_eq_true]
 constructor
 ·rintro ⟨x,hx,h⟩
  rw [Bool.and_eq_true,decide_eq_true_eq] at h
  cases hl : qN l x with
  | none=>exact absurd hl ((yA l x).1.1 h.1)
  | some r=>
   rw [(yA l x).2 r hl] at h
   exact ⟨x,hx,r,hl,h.2⟩
 ·rintro ⟨x,hx,r,hl,h⟩
  refine ⟨x,hx,?_⟩
  rw [Bool.and_eq_true,decide_eq_true_eq,(yA l x).2 r hl]
  exact ⟨(yA l x).1.2 (by rw [hl]; simp),h⟩
theorem jp (l : List Rec) (p : List UInt8) : yi l p = true ↔ ∃ x ∈ yq p,∃ r,qN l x = some r∧r.opq = true:=by
 unfold yi
 rw [List.any_eq_true]
 constructor
 ·rintro ⟨x,hx,h⟩
  rw [Bool.and_eq_true,decide_eq_true_eq] at h
  cases hl : qN l x with
  | none=>exact absurd hl ((yA l x).1.1 h.1)
  | some r=>
   rw [(yA l x).2 r hl] at h
   exact ⟨x,hx,r,hl,h.2⟩
 ·rintro ⟨x,hx,r,hl,h⟩
  refine ⟨x,hx,?_⟩
  rw [Bool.and_eq_true,decide_eq_true_eq,(yA l x).2 r hl]
  exact ⟨(yA l x).1.2 (by rw [hl]; simp),h⟩
theorem Gc {l : List Rec} {r : Rec} (h : yu ((l ++ [r]).map (·.path))) (p : List UInt8) : qN (l ++ [r]) p = if p = r.path then some r else qN l p:=by
 have hl : yu (l.map (fun r : Rec=>r.path)):=by
  rw [List.map_append] at h
  exact (List.pairwise_append.1 h).1
 by_cases e : p = r.path
 ·subst e; rw [if_pos rfl]; exact JS h (by simp)
 ·rw [if_neg e]
  unfold qN jf
  rw [List.find?_append]
  have : List.find? (fun x : Rec=>decide (x.path = p)) [r] = none:=by simp [Ne.symm e]
  rw [this]; simp
theorem Yh {l : List Rec} {p : List UInt8} : qN l p ≠ none ↔ p ∈ l.map (·.path):=(Yb (fun r : Rec=>r.path)).symm
theorem Sheet.init {l : List Rec} {r : Rec} (h : Sheet (l ++ [r])) : Sheet l∧(∀ x ∈ l,ltP x.path r.path = true)∧qx r = 0∧(qd r.path ≠ []→∃ q ∈ l,q.path = qd r.path∧q.kind = 3):=by
 have hr:=h.rise
 rw [List.map_append] at hr
 obtain ⟨h1,_,h3⟩:=List.pairwise_append.1 hr
 have hlt : ∀ x ∈ l,ltP x.path r.path = true:=fun x hx=>h3 x.path (List.mem_map_of_mem hx) r.path (by simp)
 refine ⟨⟨h1,fun x hx=>h.ok x (List.mem_append_left _ hx),fun x hx hp=>?_⟩,hlt,h.ok r (by simp),fun hp=>?_⟩
 ·obtain ⟨q,hq,e,hk⟩:=h.par x (List.mem_append_left _ hx) hp
  rcases List.mem_append.1 hq with hq | hq
  ·exact ⟨q,hq,e,hk⟩
  ·rw [List.mem_singleton.1 hq] at e
   have h4:=VO hp
   rw [← e,QN (hlt x hx)] at h4; cases h4
 ·obtain ⟨q,hq,e,hk⟩:=h.par r (by simp) hp
  rcases List.mem_append.1 hq with hq | hq
  ·exact ⟨q,hq,e,hk⟩
  ·rw [List.mem_singleton.1 hq] at e
   have h4:=VO hp
   rw [← e,Qo] at h4; cases h4
theorem list_snoc {α : Type} : ∀ (n : Nat) (l : List α),l.length = n + 1→∃ m x,l = m ++ [x]∧m.length = n:=by
 intro n l h
 have hne : l ≠ []:=fun e=>by rw [e] at h; cases h
 exact ⟨l.dropLast,l.getLast hne,(List.dropLast_concat_getLast hne).symm,by simp; omega⟩
theorem YF (t : List Nd) (ht : Wood t) : ∀ (n : Nat) (l : List Rec),l.length = n→Sheet l→Wood (vd l t)∧(∀ p,vZ (vd l t) p = seenL l t p)∧(vd l t).length≤t.length + n∧l.foldl doI t = vd l t:=by
 intro n
 induction n with
 | zero=>
  intro l hn _
  have : l = []:=List.eq_nil_of_length_eq_zero hn
  subst this
  refine ⟨ht,fun p=>?_,by simp [vd],rfl⟩
  have : Vn [] p = false:=by
   rcases qo (Vn [] p) with h | h
   ·obtain ⟨x,_,r,hl,_⟩:=(QL [] p).1 h; cases hl
   ·exact h
  show vZ t p = if Vn [] p then none else vZ t p
  rw [this]; rfl
 | succ n ih=>
  intro l hn hl
  obtain ⟨m,r,rfl,hm⟩:=list_snoc n l hn
  obtain ⟨hs,hlt,hr,hpar⟩:=hl.init
  obtain ⟨i1,i2,i3,i4⟩:=ih m hm hs
  have hpw : qd r.path ≠ []→∃ q ∈ vd m t,q.path = qd r.path∧q.kind = 3:=by
   intro hp
   obtain ⟨q,hq,e,hk⟩:=hpar hp
   have hlook : vZ (vd m t) (qd r.path) = some (jl q):=by
    rw [i2]
    unfold seenL
    rw [← e,JS hs.rise hq]
    show QO q = _
    unfold QO; rw [if_neg (by omega)]
   obtain ⟨g1,g2⟩:=jr hlook
   exact ⟨jl q,g1,g2,hk⟩
  rw [Xh]
  obtain ⟨b1,b2⟩:=doS_spec i1 hr
  have hw:=doS_wood i1 hr hpw
  refine ⟨hw,fun p=>?_,?_,by rw [List.foldl_append,i4]; exact doI_doS i1 hr⟩
  ·rw [b2]
   unfold Ys seenL
   rw [Gc hl.rise]
   by_cases e : p = r.path
   ·rw [if_pos e,if_pos e]
   ·rw [if_neg e,if_neg e]
    have hcut : ∀ x ∈ yq p,qN (m ++ [r]) x = if x = r.path then some r else qN m x:=fun x _=>Gc hl.rise x
    by_cases hsb : (jP r && vw p r.path) = true
    ·rw [if_pos hsb]
     rw [Bool.and_eq_true] at hsb
     have hno : qN m p = none:=by
      cases hlm : qN m p with
      | none=>rfl
      | some q=>
       obtain ⟨h1,h2⟩:=yj hlm
       have h3:=hlt q h1
       rw [h2,QN (Y7 hsb.2)] at h3; cases h3
     rw [hno]
     by_cases hpo : r.path ∈ yq p
     ·have : Vn (m ++ [r]) p = true:=(QL _ _).2 ⟨r.path,hpo,r,by rw [Gc hl.rise,if_pos rfl],hsb.1⟩
      simp only [this,if_true]
     ·
      have hc : vZ t p = none:=by
       cases hlt2 : vZ t p with
       | none=>rfl
       | some q=>
        obtain ⟨h1,h2⟩:=jr hlt2
        exact absurd (Yz (by rw [← h2]; exact QB (ht.ok q h1)) hsb.2) hpo
      simp only [hc,ite_self]
    ·rw [if_neg hsb,i2]
     unfold seenL
     cases hlm : qN m p with
     | some q=>rfl
     | none=>
      have : Vn (m ++ [r]) p = Vn m p:=by
       rw [Bool.eq_iff_iff,QL,QL]
       constructor
       ·rintro ⟨x,hx,q,hq,hst⟩
        rw [hcut x hx] at hq
        by_cases e2 : x = r.path
        ·rw [if_pos e2] at hq
         have : r = q:=Option.some.inj hq
         subst this
         exact absurd (by rw [hst,← e2,jy hx]; rfl) hsb
        ·rw [if_neg e2] at hq
         exact ⟨x,hx,q,hq,hst⟩
       ·rintro ⟨x,hx,q,hq,hst⟩
        refine ⟨x,hx,q,?_,hst⟩
        rw [hcut x hx,if_neg (fun e2=>?_)]
        ·exact hq
        ·have h3:=hlt q (yj hq).1
         rw [(yj hq).2,e2,Qo] at h3; cases h3
      simp only [this]
  ·refine Nat.le_trans ?_ (show (vd m t).length + 1≤t.length + (n + 1) by omega)
   have hput : ∀ (s : List Nd) (x : Nd),(GD s x).length≤s.length + 1:=by
    intro s x
    unfold GD
    have hl2 : (s.takeWhile fun y=>ltP y.path x.path).length + (s.dropWhile fun y=>ltP y.path x.path).length = s.length:=by
     rw [← List.length_append,List.takeWhile_append_dropWhile]
    cases hd : s.dropWhile (fun y=>ltP y.path x.path) with
    | nil=>simp; rw [hd] at hl2; simp at hl2; omega
    | cons y q=>
     rw [hd] at hl2
     simp only [List.length_append,List.length_cons] at hl2 ⊢
     split
     ·omega
     ·simp only [List.length_cons]; omega
   unfold doS
   split
   ·have:=YJ (vd m t) r.path true; omega
   ·split
    ·have h1:=YJ (vd m t) r.path false
     have h2:=hput (ye (vd m t) r.path false) (jl r)
     omega
    ·exact hput _ _
theorem Sheet.take {l : List Rec} (h : Sheet l) (i : Nat) : Sheet (l.take i):=by
 refine ⟨G2 (fun r : Rec=>r.path) h.rise i,fun r hr=>h.ok r (List.mem_of_mem_take hr),fun r hr hp=>?_⟩
 obtain ⟨q,hq,e,hk⟩:=h.par r (List.mem_of_mem_take hr) hp
 obtain ⟨j,hj,rfl⟩:=List.mem_take_iff_getElem.1 hr
 have hjl : j < l.length:=by omega
 have hlt : ltP q.path (l.getD j default).path = true:=by rw [e,yh hjl]; exact VO hp
 have hq2:=idx_lt (fun r : Rec=>r.path) h.rise hjl hq hlt
 refine ⟨q,?_,e,hk⟩
 have : l.take j = (l.take i).take j:=by rw [List.take_take,Nat.min_eq_left (by omega)]
 rw [this] at hq2
 exact List.mem_of_mem_take hq2
def okT (l : List Rec) (t : List Nd) : Bool:=decide ((qn l).2 = 0) && woodOK t
theorem okT_of {l : List Rec} {t : List Nd} (h : okT l t = true) : Sheet l∧Wood t:=by
 rw [okT,Bool.and_eq_true,decide_eq_true_eq] at h
 exact ⟨Vx h.1,wood_of h.2⟩
theorem okT_mk {l : List Rec} {t : List Nd} (h : (qn l).2 = 0) (k : Wood t) : okT l t = true:=by rw [okT,decide_eq_true h,wood_ok k]; rfl
theorem Ge {t : List Nd} (h : Wood t) : ∀ x ∈ t,x.path.length≤1048576:=fun x hx=>jo (QB (h.ok x hx))
def qZ.b1 (a0 : List Nd) (a1 : Nd) : Int→Option (Step (List Nd) (Int) (Int)):=
 fun x5_7=>bif (!(decide (x5_7 < (a0.length : Int))) || (inR x5_7 a0.length)) then (bif (!(decide (x5_7 < (a0.length : Int))) || (decide (((gt a0 x5_7).path).length≤1048576))) then (bif (!(decide (x5_7 < (a0.length : Int))) || (decide (a1.path.length≤1048576))) then (bif ((decide (x5_7 < (a0.length : Int))) && (vy (cut 47 ((gt a0 x5_7).path)) (cut 47 a1.path))) then (some (.nxt (IntKind.wrap .i64 (x5_7 + 1)))) else (some (.brk x5_7))) else none) else none) else none
def qZ.sh (k : Nat) (a0 : List Nd) (a1 : Nd) : Option (List Nd):=
  (qt (qZ.b1 a0 a1) k 0).bind fun z=>match z with | .inl t=>some t | .inr x5_11=>bif inS x5_11 (a0.length : Int) (a0.length : Int) then (bif (!(decide (x5_11 < (a0.length : Int))) || (inR x5_11 a0.length)) then (bif ((decide (x5_11 < (a0.length : Int))) && (decide (((gt a0 x5_11).path) = a1.path))) then (bif inS (IntKind.wrap .i64 (x5_11 + 1)) (a0.length : Int) (a0.length : Int) then (bif inS 0 x5_11 (a0.length : Int) then (bif decide ((([] : List Nd).length + (sub a0 0 x5_11).length) * 48≤140737488355328) then (bif decide (((([] : List Nd) ++ (sub a0 0 x5_11)).length + ([a1] : List Nd).length) * 48≤140737488355328) then (bif decide ((((([] : List Nd) ++ (sub a0 0 x5_11)) ++ ([a1] : List Nd)).length + (sub a0 (IntKind.wrap .i64 (x5_11 + 1)) (a0.length : Int)).length) * 48≤140737488355328) then (some (((([] : List Nd) ++ (sub a0 0 x5_11)) ++ ([a1] : List Nd)) ++ (sub a0 (IntKind.wrap .i64 (x5_11 + 1)) (a0.length : Int)))) else none) else none) else none) else none) else none) else (bif inS 0 x5_11 (a0.length : Int) then (bif decide ((([] : List Nd).length + (sub a0 0 x5_11).length) * 48≤140737488355328) then (bif decide (((([] : List Nd) ++ (sub a0 0 x5_11)).length + ([a1] : List Nd).length) * 48≤140737488355328) then (bif decide ((((([] : List Nd) ++ (sub a0 0 x5_11)) ++ ([a1] : List Nd)).length + (sub a0 x5_11 (a0.length : Int)).length) * 48≤140737488355328) then (some (((([] : List Nd) ++ (sub a0 0 x5_11)) ++ ([a1] : List Nd)) ++ (sub a0 x5_11 (a0.length : Int)))) else none) else none) else none) else none)) else none) else none
theorem while_run {t : List Nd} {n : Nd} (h0 : t.length≤1000000) (h1 : ∀ x ∈ t,x.path.length≤1048576) (h2 : n.path.length≤1048576) :
  qt (qZ.b1 t n) (t.length + 1) 0 = some (.inr ((t.takeWhile fun x=>ltP x.path n.path).length : Int)):=by
 have key : ∀ (d i k : Nat),i + d = t.length→d < k→qt (qZ.b1 t n) k (i : Int) = some (.inr ((i + ((t.drop i).takeWhile fun x=>ltP x.path n.path).length : Nat) : Int)):=by
  intro d
  induction d with
  | zero=>
   intro i k hi hk
   obtain ⟨k,rfl⟩ : ∃ m,k = m + 1:=⟨k - 1,by omega⟩
   have d1 : decide ((i : Int) < (t.length : Int)) = false:=decide_eq_false (by omega)
   have hd : t.drop i = []:=List.drop_eq_nil_of_le (by omega)
   rw [qt,hd]
   simp only [qZ.b1,d1,Bool.not_false,Bool.true_or,Bool.false_and,cond_true,cond_false,List.takeWhile_nil,List.length_nil,Nat.add_zero]; rfl
  | succ d ih=>
   intro i k hi hk
   obtain ⟨k,rfl⟩ : ∃ m,k = m + 1:=⟨k - 1,by omega⟩
   have hlt : i < t.length:=by omega
   have d1 : decide ((i : Int) < (t.length : Int)) = true:=decide_eq_true (by omega)
   have p1 : decide ((gt t (i : Int)).path.length≤1048576) = true:=decide_eq_true (by rw [yl,yh hlt]; exact h1 _ (List.getElem_mem hlt))
   have w1 : IntKind.wrap .i64 ((i : Int) + 1) = ((i + 1 : Nat) : Int):=by rw [wrap_small (by omega) (by omega)]; omega
   rw [qt,Jg hlt]
   simp only [qZ.b1,d1,qT hlt,p1,decide_eq_true h2,Bool.not_true,Bool.false_or,Bool.true_and,cond_true,w1]
   rcases qo (vy (cut 47 (gt t (i : Int)).path) (cut 47 n.path)) with hl | hl
   ·have hl' : ltP (gt t (i : Int)).path n.path = true:=hl
    rw [hl]
    simp only [cond_true,List.takeWhile_cons,hl',if_true,List.length_cons]
    refine (ih (i + 1) k (by omega) (by omega)).trans ?_
    congr 2; omega
   ·have hl' : ltP (gt t (i : Int)).path n.path = false:=hl
    rw [hl]
    simp only [cond_false,List.takeWhile_cons,hl',Bool.false_eq_true,if_false,List.length_nil,Nat.add_zero]; rfl
 have:=key t.length 0 (t.length + 1) (by omega) (by omega)
 rw [List.drop_zero,Nat.zero_add] at this
 exact this
theorem take_while_len {α : Type} (q : α→Bool) (t : List α) : t.take (t.takeWhile q).length = t.takeWhile q∧t.drop (t.takeWhile q).length = t.dropWhile q:=by
 have h : t = t.takeWhile q ++ t.dropWhile q:=List.takeWhile_append_dropWhile.symm
 constructor
 ·conv=>lhs; rw [h]
  rw [List.take_append_of_le_length (by simp)]; simp
 ·conv=>lhs; rw [h]
  have : (t.takeWhile q ++ t.dropWhile q).takeWhile q = t.takeWhile q:=by rw [← h]
  rw [this,List.drop_left]
theorem qZ.eq (a0 : List Nd) (a1 : Nd) (h0 : a0.length≤1000000) (h1 : ∀ x ∈ a0,x.path.length≤1048576) (h2 : a1.path.length≤1048576) : ∃ k,qZ.sh k a0 a1 = some (GD a0 a1):=by
 refine ⟨a0.length + 1,?_⟩
 unfold qZ.sh
 rw [while_run h0 h1 h2]
 obtain ⟨c,hc⟩ : ∃ c,c = (a0.takeWhile fun x=>ltP x.path a1.path).length:=⟨_,rfl⟩
 obtain ⟨t1,t2⟩:=take_while_len (fun x : Nd=>ltP x.path a1.path) a0
 rw [← hc] at t1 t2 ⊢
 have hle : c≤a0.length:=by rw [hc]; exact (List.takeWhile_prefix _).length_le
 have s1 : inS (c : Int) (a0.length : Int) (a0.length : Int) = true:=Vf (by omega) (by omega) (by omega)
 have s2 : inS 0 (c : Int) (a0.length : Int) = true:=Vf (by omega) (by omega) (by omega)
 have e1 : sub a0 0 (c : Int) = a0.take c:=by show sub a0 ((0 : Nat) : Int) (c : Int) = _; rw [Gt]; rfl
 have e2 : sub a0 (c : Int) (a0.length : Int) = a0.drop c:=by rw [Gt,List.take_length]
 have l1 : (a0.take c).length≤1000000:=by simp; omega
 have l2 : (a0.drop c).length≤1000000:=by simp; omega
 have g1 : decide ((([] : List Nd).length + (a0.take c).length) * 48≤140737488355328) = true:=decide_eq_true (by simp only [List.length_nil]; omega)
 have g2 : decide (((([] : List Nd) ++ a0.take c).length + ([a1] : List Nd).length) * 48≤140737488355328) = true:=decide_eq_true (by simp only [List.nil_append,List.length_cons,List.length_nil]; omega)
 have g3 : decide ((((([] : List Nd) ++ a0.take c) ++ ([a1] : List Nd)).length + (a0.drop c).length) * 48≤140737488355328) = true:=decide_eq_true (by simp only [List.nil_append,List.length_append,List.length_cons,List.length_nil]; omega)
 simp only [Option.bind_some,s1,s2,e1,e2,g1,g2,g3,cond_true]
 by_cases hlt : c < a0.length
 ·have d1 : decide ((c : Int) < (a0.length : Int)) = true:=decide_eq_true (by omega)
  have w1 : IntKind.wrap .i64 ((c : Int) + 1) = ((c + 1 : Nat) : Int):=by rw [wrap_small (by omega) (by omega)]; omega
  have s3 : inS ((c + 1 : Nat) : Int) (a0.length : Int) (a0.length : Int) = true:=Vf (by omega) (by omega) (by omega)
  have e3 : sub a0 ((c + 1 : Nat) : Int) (a0.length : Int) = a0.drop (c + 1):=by rw [Gt,List.take_length]
  have l3 : (a0.drop (c + 1)).length≤1000000:=by simp; omega
  have g4 : decide ((((([] : List Nd) ++ a0.take c) ++ ([a1] : List Nd)).length + (a0.drop (c + 1)).length) * 48≤140737488355328) = true:=decide_eq_true (by simp only [List.nil_append,List.length_append,List.length_cons,List.length_nil]; omega)
  rw [Jg hlt] at t2
  simp only [d1,qT hlt,w1,s3,e3,g4,Bool.not_true,Bool.false_or,Bool.true_and,cond_true]
  unfold GD
  rw [← t1,← t2]
  by_cases he : (gt a0 (c : Int)).path = a1.path
  ·simp [he]
  ·simp [he,Jg hlt]
 ·have d1 : decide ((c : Int) < (a0.length : Int)) = false:=decide_eq_false (by omega)
  have hn : a0.drop c = []:=List.drop_eq_nil_of_le (by omega)
  simp only [d1,Bool.not_false,Bool.true_or,Bool.false_and,cond_true,cond_false]
  unfold GD
  rw [← t1,← t2,hn]; simp
def Qc.sh (a0 : Rec) : Option (Nd):=
 some (⟨a0.kind,a0.path,a0.body,a0.mode⟩ : Nd)
theorem Qc.eq (a0 : Rec) : Qc.sh a0 = some (jl a0):=rfl
def j2.sh (a0 : Rec) : Option (Nd):=
 some (⟨a0.kind,a0.path,a0.body,a0.mode⟩ : Nd)
theorem j2.eq (a0 : Rec) : j2.sh a0 = some (jl a0):=rfl
def Vh.sh (a0 : List Nd) (a1 : Rec) : Option (List Nd):=
 bif decide (a0.length≤1048576) then (bif (decide (a1.kind = 4)) then (bif decide (a0.length≤1048576) then (some (ye a0 a1.path true)) else none) else (((bif ((!decide (a1.kind = 3)) || a1.opq) then some true else (((bif (decide (0≤(qU a0 a1.path))) then (bif inR (qU a0 a1.path) a0.length then (some (!decide (((gt a0 (qU a0 a1.path)).kind) = 3))) else none) else some false)).bind fun z24=>some z24))).bind fun z23=>bif z23 then (bif decide (a0.length≤1048576) then (bif decide ((ye a0 a1.path false).length≤1000000) then (bif decide (∀ x ∈ (ye a0 a1.path false),x.path.length≤1048576) then (bif decide ((jl a1).path.length≤1048576) then (some (GD (ye a0 a1.path false) (jl a1))) else none) else none) else none) else none) else (bif decide (a0.length≤1000000) then (bif decide (∀ x ∈ a0,x.path.length≤1048576) then (bif decide ((jl a1).path.length≤1048576) then (some (GD a0 (jl a1))) else none) else none) else none))) else none
theorem Vh.eq (a0 : List Nd) (a1 : Rec) (h0 : a0.length≤1000000) (h1 : ∀ x ∈ a0,x.path.length≤1048576) (h2 : a1.path.length≤1048576) : Vh.sh a0 a1 = some (doS a0 a1):=by
 unfold Vh.sh doS
 have b1 : decide (a0.length≤1048576) = true:=decide_eq_true (by omega)
 have b2 : decide (a0.length≤1000000) = true:=decide_eq_true h0
 have b3 : decide ((ye a0 a1.path false).length≤1000000) = true:=decide_eq_true (Nat.le_trans (YJ _ _ _) h0)
 have b4 : ∀ x ∈ ye a0 a1.path false,x.path.length≤1048576:=fun x hx=>h1 x (List.mem_filter.1 hx).1
 have b5 : decide ((jl a1).path.length≤1048576) = true:=decide_eq_true h2
 simp only [b1,b2,b3,b5,decide_eq_true h1,decide_eq_true b4,cond_true]
 by_cases h4 : a1.kind = 4
 ·simp [h4]
 ·simp only [h4,decide_false,cond_false,if_false]
  by_cases h3 : a1.kind = 3
  ·rcases qo a1.opq with ho | ho
   ·simp [h3,ho]
   ·by_cases hf : 0≤qU a0 a1.path
    ·by_cases hk : (gt a0 (qU a0 a1.path)).kind = 3 <;> simp [h3,ho,hf,JY (t:=a0) (p:=a1.path) (by omega),hk]
    ·simp [h3,ho,hf]
  ·simp [h3]
theorem apply_at {l : List Rec} {t : List Nd} (hs : Sheet l) (ht : Wood t) {i : Nat} (hi : i≤l.length) : Wood (vd (l.take i) t)∧(vd (l.take i) t).length≤t.length + i∧(l.take i).foldl doI t = vd (l.take i) t:=by
 obtain ⟨h1,_,h3,h4⟩:=YF t ht i (l.take i) (by simp; omega) (hs.take i)
 exact ⟨h1,h3,h4⟩
theorem apply_next {l : List Rec} {t : List Nd} {i : Nat} (hi : i < l.length) : vd (l.take (i + 1)) t = doS (vd (l.take i) t) (gt l (i : Int)):=by
 rw [List.take_succ_eq_append_getElem hi,Xh,yl,yh hi]
def yr.b1 (a0 : List Rec) : List Nd × Int→Option (Step (List Nd) (List Nd × Int) (List Nd)):=
 fun q=>match q with
 | (x1_13,x5_15)=>bif (decide (x5_15 < (a0.length : Int))) then (bif inR x5_15 a0.length then (bif decide (x1_13.length≤1000000) then (bif decide (∀ x ∈ x1_13,x.path.length≤1048576) then (bif decide ((gt a0 x5_15).path.length≤1048576) then (some (.nxt ((doS x1_13 (gt a0 x5_15)),IntKind.wrap .i64 (x5_15 + 1)))) else none) else none) else none) else none) else (some (.brk x1_13))
def yr.sh (k : Nat) (a0 : List Rec) (a1 : List Nd) : Option (List Nd):=
  bif decide ((([] : List Nd).length + a1.length) * 48≤140737488355328) then ((qt (yr.b1 a0) k (([] : List Nd) ++ a1,0)).bind fun z=>match z with | .inl t=>some t | .inr x1_19=>some x1_19) else none
theorem yr.eq (a0 : List Rec) (a1 : List Nd) (h0 : a0.length≤16) (h1 : a1.length≤1000) (h2 : okT a0 a1 = true) : ∃ k,yr.sh k a0 a1 = some (vd a0 a1):=by
 obtain ⟨hs,ht⟩:=okT_of h2
 refine ⟨a0.length + 1,?_⟩
 unfold yr.sh
 have key : ∀ (d i k : Nat),i + d = a0.length→d < k→qt (yr.b1 a0) k (vd (a0.take i) a1,(i : Int)) = some (.inr (vd a0 a1)):=by
  intro d
  induction d with
  | zero=>
   intro i k hi hk
   obtain ⟨k,rfl⟩ : ∃ m,k = m + 1:=⟨k - 1,by omega⟩
   have d1 : decide ((i : Int) < (a0.length : Int)) = false:=decide_eq_false (by omega)
   rw [qt,List.take_of_length_le (by omega)]
   simp only [yr.b1,d1,cond_false]; rfl
  | succ d ih=>
   intro i k hi hk
   obtain ⟨k,rfl⟩ : ∃ m,k = m + 1:=⟨k - 1,by omega⟩
   have hlt : i < a0.length:=by omega
   obtain ⟨w1,w2,_⟩:=apply_at hs ht (show i≤a0.length by omega)
   have d1 : decide ((i : Int) < (a0.length : Int)) = true:=decide_eq_true (by omega)
   have d2 : decide ((vd (a0.take i) a1).length≤1000000) = true:=decide_eq_true (by omega)
   have d3 : decide ((gt a0 (i : Int)).path.length≤1048576) = true:=decide_eq_true (by
    rw [yl,yh hlt]; exact jo (vV (hs.ok _ (List.getElem_mem hlt))))
   have e1 : IntKind.wrap .i64 ((i : Int) + 1) = ((i + 1 : Nat) : Int):=by rw [wrap_small (by omega) (by omega)]; omega
   rw [qt]
   simp only [yr.b1,d1,d2,d3,decide_eq_true (Ge w1),qT hlt,cond_true,e1]
   rw [← apply_next hlt]
   exact ih (i + 1) k (by omega) (by omega)
 have g1 : decide ((([] : List Nd).length + a1.length) * 48≤140737488355328) = true:=decide_eq_true (by simp only [List.length_nil]; omega)
 have hk:=key a0.length 0 (a0.length + 1) (by omega) (by omega)
 rw [List.take_zero] at hk
 have hk2 : qt (yr.b1 a0) (a0.length + 1) (([] : List Nd) ++ a1,0) = some (.inr (vd a0 a1)):=hk
 rw [hk2]
 simp only [g1,cond_true,Option.bind_some]
def ja.b1 (a0 : List Rec) : List Nd × Int→Option (Step (List Nd) (List Nd × Int) (List Nd)):=
 fun q=>match q with
 | (x5_6,x13_8)=>bif (decide (x13_8 < (a0.length : Int))) then (bif inR x13_8 a0.length then (bif decide (x5_6.length≤1048576) then (((bif (((decide (((gt a0 x13_8).kind) = 3)) && (!((gt a0 x13_8).opq))) && (decide (0≤(qU x5_6 ((gt a0 x13_8).path))))) then (bif inR (qU x5_6 ((gt a0 x13_8).path)) x5_6.length then (some (decide (((gt x5_6 (qU x5_6 ((gt a0 x13_8).path))).kind) = 3))) else none) else some false)).bind fun z58=>bif z58 then (bif inR (qU x5_6 ((gt a0 x13_8).path)) x5_6.length then (some (.nxt (Y4 x5_6 (qU x5_6 ((gt a0 x13_8).path)) (⟨(gt x5_6 (qU x5_6 ((gt a0 x13_8).path))).kind,(gt x5_6 (qU x5_6 ((gt a0 x13_8).path))).path,(gt x5_6 (qU x5_6 ((gt a0 x13_8).path))).body,(gt a0 x13_8).mode⟩ : Nd),IntKind.wrap .i64 (x13_8 + 1)))) else none) else (bif decide (x5_6.length≤1048576) then (bif decide (((gt a0 x13_8).path).length≤1048576) then (bif (!decide (((gt a0 x13_8).kind) = 4)) then (bif decide ((ye x5_6 ((gt a0 x13_8).path) true).length≤1048575) then (bif decide (riseN (ye x5_6 ((gt a0 x13_8).path) true) = true) then (bif decide (∀ x ∈ (ye x5_6 ((gt a0 x13_8).path) true),x.path.length≤1048576) then (bif decide ((jl (gt a0 x13_8)).path.length≤1048576) then (some (.nxt ((Qj (ye x5_6 ((gt a0 x13_8).path) true) (jl (gt a0 x13_8))),IntKind.wrap .i64 (x13_8 + 1)))) else none) else none) else none) else none) else (some (.nxt ((ye x5_6 ((gt a0 x13_8).path) true),IntKind.wrap .i64 (x13_8 + 1))))) else none) else none)) else none) else none) else (some (.brk x5_6))
def ja.sh (k : Nat) (a0 : List Rec) (a1 : List Nd) : Option (List Nd):=
  bif decide (a1.length≤1048576) then ((qt (ja.b1 a0) k (a1,0)).bind fun z=>match z with | .inl t=>some t | .inr x5_12=>some x5_12) else none
theorem ja.eq (a0 : List Rec) (a1 : List Nd) (h0 : a0.length≤16) (h1 : a1.length≤1000) (h2 : okT a0 a1 = true) : ∃ k,ja.sh k a0 a1 = some (vd a0 a1):=by
 obtain ⟨hs,ht⟩:=okT_of h2
 refine ⟨a0.length + 1,?_⟩
 unfold ja.sh
 have key : ∀ (d i k : Nat),i + d = a0.length→d < k→qt (ja.b1 a0) k (vd (a0.take i) a1,(i : Int)) = some (.inr (vd a0 a1)):=by
  intro d
  induction d with
  | zero=>
   intro i k hi hk
   obtain ⟨k,rfl⟩ : ∃ m,k = m + 1:=⟨k - 1,by omega⟩
   have d1 : decide ((i : Int) < (a0.length : Int)) = false:=decide_eq_false (by omega)
   rw [qt,List.take_of_length_le (by omega)]
   simp only [ja.b1,d1,cond_false]; rfl
  | succ d ih=>
   intro i k hi hk
   obtain ⟨k,rfl⟩ : ∃ m,k = m + 1:=⟨k - 1,by omega⟩
   have hlt : i < a0.length:=by omega
   obtain ⟨w1,w2,_⟩:=apply_at hs ht (show i≤a0.length by omega)
   have hr0 : qx (gt a0 (i : Int)) = 0:=by rw [yl,yh hlt]; exact hs.ok _ (List.getElem_mem hlt)
   have hn:=apply_next (t:=a1) hlt
   rw [← doI_doS w1 hr0] at hn
   have hI:=ih (i + 1) k (by omega) (by omega)
   rw [hn] at hI
   obtain ⟨x,hx⟩ : ∃ x,vd (a0.take i) a1 = x:=⟨_,rfl⟩
   obtain ⟨r,hr⟩ : ∃ r,gt a0 (i : Int) = r:=⟨_,rfl⟩
   rw [hx] at w1 w2 hI ⊢
   rw [hr] at hr0 hI
   have hp:=jo (vV hr0)
   have d1 : decide ((i : Int) < (a0.length : Int)) = true:=decide_eq_true (by omega)
   have d2 : decide (x.length≤1048576) = true:=decide_eq_true (by omega)
   have d3 : decide (r.path.length≤1048576) = true:=decide_eq_true hp
   have d4 : decide ((ye x r.path true).length≤1048575) = true:=decide_eq_true (by have:=YJ x r.path true; omega)
   have d5 : riseN (ye x r.path true) = true:=riseN_mk (VA w1.rise _ _)
   have d6 : ∀ y ∈ ye x r.path true,y.path.length≤1048576:=fun y hy=>Ge w1 y (List.mem_filter.1 hy).1
   have d7 : decide ((jl r).path.length≤1048576) = true:=decide_eq_true hp
   have e1 : IntKind.wrap .i64 ((i : Int) + 1) = ((i + 1 : Nat) : Int):=by rw [wrap_small (by omega) (by omega)]; omega
   rw [qt]
   simp only [ja.b1,d1,d2,qT hlt,cond_true,e1,hr,d3,d4,d5,d7,decide_eq_true d6,decide_true]
   unfold doI at hI
   by_cases c1 : r.kind = 3∧r.opq = false
   ·obtain ⟨c3,co⟩:=c1
    by_cases cf : 0≤qU x r.path
    ·have hin:=JY (t:=x) (p:=r.path) (by omega)
     by_cases ck : (gt x (qU x r.path)).kind = 3
     ·rw [if_pos ⟨⟨c3,co⟩,cf,ck⟩] at hI
      simp only [c3,co,cf,ck,hin,decide_true,Bool.not_false,Bool.and_true,Bool.and_self,cond_true,Option.bind_some]
      rw [ck] at hI
      exact hI
     ·rw [if_neg (fun h=>ck h.2.2),if_neg (by omega)] at hI
      simp only [c3,co,cf,ck,hin,decide_true,decide_false,Bool.not_false,Bool.and_true,Bool.and_self,cond_true,cond_false,Option.bind_some,show ¬ (3 : Int) = 4 by decide]
      exact hI
    ·rw [if_neg (fun h=>cf h.2.1),if_neg (by omega)] at hI
     simp only [c3,co,cf,decide_true,decide_false,Bool.not_false,Bool.and_true,Bool.and_false,cond_true,cond_false,Option.bind_some,show ¬ (3 : Int) = 4 by decide]
     exact hI
   ·rw [if_neg (fun h=>c1 h.1)] at hI
    have c2 : (decide (r.kind = 3) && !r.opq) = false:=by
     rcases qo r.opq with co | co
     ·simp [co]
     ·by_cases c3 : r.kind = 3
      ·exact absurd ⟨c3,co⟩ c1
      ·simp [c3]
    simp only [c2,Bool.false_and,cond_false,Option.bind_some]
    by_cases c4 : r.kind = 4
    ·rw [if_pos c4] at hI
     simp only [c4,decide_true,Bool.not_true,cond_false]
     exact hI
    ·rw [if_neg c4] at hI
     simp only [c4,decide_false,Bool.not_false,cond_true]
     exact hI
 have g1 : decide (a1.length≤1048576) = true:=decide_eq_true (by omega)
 have hk:=key a0.length 0 (a0.length + 1) (by omega) (by omega)
 rw [List.take_zero] at hk
 have hk2 : qt (ja.b1 a0) (a0.length + 1) (a1,0) = some (.inr (vd a0 a1)):=hk
 rw [hk2]
 simp only [g1,cond_true,Option.bind_some]
def Qz (l : List Rec) (t : List Nd) : Int:=if decide (4096 < l.length) || decide (4096 < t.length) then 2 else if !decide ((qn l).2 = 0) || !j5 t then 1 else 0
def fitT (t : List Nd) : List Nd × Int:=if 24 < t.length then ([],7) else (t,0)
def qE (l : List Rec) (t : List Nd) : List Nd × Int:=if Qz l t = 0 then fitT (vd l t) else ([],Qz l t)
theorem rt_dec (a : List Rec) (b : List Nd) : (decide ((4096 : Int) < (a.length : Int)) || decide ((4096 : Int) < (b.length : Int))) = (decide (4096 < a.length) || decide (4096 < b.length)):=by
 have h : ∀ n : Nat,decide ((4096 : Int) < (n : Int)) = decide (4096 < n):=fun n=>by rw [decide_eq_decide]; omega
 rw [h,h]
theorem n24_dec (n : Nat) : decide ((24 : Int) < (n : Int)) = decide (24 < n):=by rw [decide_eq_decide]; omega
def jN.sh (a0 : List Rec) (a1 : List Nd) : Option (List Nd × Int):=
 bif ((decide (4096 < (a0.length : Int))) || (decide (4096 < (a1.length : Int)))) then (some (([] : List Nd),2)) else (bif decide (a0.length≤1048576) then (bif decide (∀ x ∈ a0,x.path.length≤1048576) then (((bif (!(decide ((qn a0).2 = 0))) then some true else (bif decide (∀ x ∈ a1,x.path.length≤1048576) then (some (!(j5 a1))) else none))).bind fun z19=>bif z19 then (some (([] : List Nd),1)) else (bif decide (a0.length≤16) then (bif decide (a1.length≤1000) then (bif decide (okT a0 a1 = true) then (bif (decide (24 < ((vd a0 a1).length : Int))) then (some (([] : List Nd),7)) else (some ((vd a0 a1),0))) else none) else none) else none)) else none) else none)
theorem jN.eq (a0 : List Rec) (a1 : List Nd) (h0 : a0.length≤1048576) (h1 : a1.length≤1048576) (h2 : ∀ x ∈ a0,x.path.length≤1048576) (h3 : ∀ x ∈ a1,x.path.length≤1048576) : jN.sh a0 a1 = some ((qE a0 a1).1,(qE a0 a1).2):=by
 unfold jN.sh qE
 rw [rt_dec]
 by_cases h : (decide (4096 < a0.length) || decide (4096 < a1.length)) = true
 ·have : Qz a0 a1 = 2:=by simp only [Qz,h,if_true]
  simp only [h,cond_true,this]; rfl
 ·have hf : (decide (4096 < a0.length) || decide (4096 < a1.length)) = false:=by simpa using h
  simp only [hf,cond_false,decide_eq_true h0,decide_eq_true h2,decide_eq_true h3,cond_true]
  by_cases c1 : (qn a0).2 = 0
  ·rcases qo (j5 a1) with c2 | c2
   ·have hc : Qz a0 a1 = 0:=by simp only [Qz,h,if_false,c1,c2]; rfl
    have l1:=je c1
    have l2:=treeOK_len c2
    have b2 : a1.length≤1000:=by omega
    simp only [c1,c2,hc,l1,b2,okT_mk c1 (Xr c2),decide_true,Bool.not_true,cond_false,cond_true,Option.bind_some,if_true,n24_dec,fitT]
    by_cases h24 : 24 < (vd a0 a1).length <;> simp [h24]
   ·have hc : Qz a0 a1 = 1:=by simp only [Qz,h,if_false,c1,c2]; rfl
    simp only [c1,c2,hc,decide_true,Bool.not_true,Bool.not_false,cond_false,cond_true,Option.bind_some]; rfl
  ·have hc : Qz a0 a1 = 1:=by simp only [Qz,h,if_false,c1]; simp
   simp only [c1,hc,decide_false,Bool.not_false,cond_true,Option.bind_some]; rfl
def jA.sh (a0 : List Rec) (a1 : List Nd) : Option (List Nd × Int):=
 bif decide (a0.length≤1048576) then (bif decide (∀ x ∈ a0,x.path.length≤1048576) then (((bif (!(decide ((vf a0).2 = 0))) then some true else (bif decide (a1.length≤1048576) then (bif decide (∀ x ∈ a1,x.path.length≤1048576) then (some (!(j5 a1))) else none) else none))).bind fun z14=>bif decide (([.inl ((decide (4096 < a0.length)) || (decide (4096 < a1.length))),.inr 2,.inl z14,.inr 1] : List (Bool ⊕ Int)).length≤4611686018427387904) then ((some (vY ([.inl ((decide (4096 < a0.length)) || (decide (4096 < a1.length))),.inr 2,.inl z14,.inr 1] : List (Bool ⊕ Int)))).bind fun z31=>bif (!decide (z31 = 0)) then (some ([],z31)) else (bif decide (a0.length≤16) then (bif decide (a1.length≤1000) then (bif decide (okT a0 a1 = true) then (bif (decide (24 < ((vd a0 a1).length : Int))) then (some ([],7)) else (some ((vd a0 a1),0))) else none) else none) else none)) else none) else none) else none
theorem jA.eq (a0 : List Rec) (a1 : List Nd) (h0 : a0.length≤1048576) (h1 : a1.length≤1048576) (h2 : ∀ x ∈ a0,x.path.length≤1048576) (h3 : ∀ x ∈ a1,x.path.length≤1048576) : jA.sh a0 a1 = some ((qE a0 a1).1,(qE a0 a1).2):=by
 unfold jA.sh qE
 simp only [h0,h1,decide_true,cond_true,decide_eq_true h2,decide_eq_true h3,JW,List.length_cons,List.length_nil,vY,XA,anyI]
 by_cases h : (decide (4096 < a0.length) || decide (4096 < a1.length)) = true
 ·have hc : Qz a0 a1 = 2:=by simp only [Qz,h,if_true]
  cases hz : decide ((vf a0).2 = 0) <;> simp [h,hc]
 ·have hf : (decide (4096 < a0.length) || decide (4096 < a1.length)) = false:=by simpa using h
  rw [G8,hf]
  by_cases c1 : (qn a0).2 = 0
  ·rcases qo (j5 a1) with c2 | c2
   ·have hc : Qz a0 a1 = 0:=by simp only [Qz,h,if_false,c1,c2]; rfl
    have l1:=je c1
    have l2:=treeOK_len c2
    have b2 : a1.length≤1000:=by omega
    by_cases h24 : 24 < (vd a0 a1).length <;> simp [c1,c2,hc,l1,b2,okT_mk c1 (Xr c2),n24_dec,fitT,h24]
   ·have hc : Qz a0 a1 = 1:=by simp only [Qz,h,if_false,c1,c2]; rfl
    simp [c1,c2,hc]
  ·have hc : Qz a0 a1 = 1:=by simp only [Qz,h,if_false,c1]; simp
   simp [c1,hc]
theorem fitT_len (t : List Nd) : (fitT t).1.length≤24:=by
 unfold fitT
 split
 ·simp
 ·simp only; omega
theorem resStep_dir {t : List Nd} {p : List UInt8} {i : Nat} {m : Nd} (h : vZ t p = some m) (hk : m.kind = 3) (hi : i ≠ 0) : YD t p i = none:=by
 unfold YD
 have h1:=(jn t p).1.2 (by rw [h]; simp)
 rw [if_neg (by omega),if_neg hi,(jn t p).2 m h]
 simp [hk]
theorem way_above {t : List Nd} {p x : List UInt8} (ht : Wood t) (hp : qC p = true) {m : Nd} (hm : vZ t x = some m) (hx : x = p∨x ∈ yq p) :
  ∀ y ∈ yq x,∃ q,vZ t y = some q∧q.kind = 3:=by
 intro y hy
 obtain ⟨hmt,he⟩:=jr hm
 obtain ⟨q,hq,e,hk⟩:=ht.above hmt (p:=y) (by rw [he]; exact jy hy)
 exact ⟨q,by rw [← e]; exact ju ht.rise hq,hk⟩
theorem resolve_there {t : List Nd} {p : List UInt8} (ht : Wood t) (hp : qC p = true) {m : Nd} (hm : vZ t p = some m) : Y8 t p = (qU t p,0):=by
 unfold Y8
 refine resGo_some _ (i:=0) (by simp) ?_ fun j h0 hj=>?_
 ·have h1:=(jn t p).1.2 (by rw [hm]; simp)
  show YD t p 0 = _
  unfold YD
  rw [if_neg (by omega),if_pos rfl]
 ·have hja : j - 1 < (yq p).length:=by simp at hj; omega
  have he : ([p] ++ yq p).getD j [] = (yq p)[j - 1]:=by
   rw [List.getD_eq_getElem?_getD,List.getElem?_append_right (by simp; omega)]
   simp [List.getElem?_eq_getElem hja]
  rw [he]
  obtain ⟨q,hq,hk⟩:=way_above ht hp hm (.inl rfl) _ (List.getElem_mem hja)
  exact resStep_dir hq hk (by omega)
theorem stackOK_of {xs : List (List Rec)} (h : YL xs = true) : xs.length≤5∧∀ l ∈ xs,(qn l).2 = 0:=by
 unfold YL at h
 rw [Bool.and_eq_true,List.all_eq_true] at h
 exact ⟨of_decide_eq_true h.1,fun l hl=>of_decide_eq_true (h.2 l hl)⟩
theorem wood_nil : Wood []:=wood_of rfl
theorem J9 {l : List Rec} {s : List Nd} (h : (qn l).2 = 0) (hs : Wood s) : Wood (vd l s)∧(vd l s).length≤s.length + 16:=by
 have h1:=YF s hs _ l rfl (Vx h)
 have:=je h
 exact ⟨h1.1,by have:=h1.2.2.1; omega⟩
end Go.UL
