import Derived.Test.YtdhmlillkbjjjaaGreatDoorvP28
set_option linter.unusedVariables false
set_option linter.unusedSimpArgs false
namespace Go.UL
open Go.RowKit
theorem foldI_runK {α β ρ : Type} [Inhabited α] (l : List α) (f : β→α→β) (Inv : Nat→β→Prop) (b : β × Int→Option (Step ρ (β × Int) β)) (K : Nat) (hK : l.length < K)
  (h1 : ∀ (i : Nat) (s : β),i < l.length→Inv i s→b (s,(i : Int)) = some (.nxt (f s (gt l (i : Int)),((i + 1 : Nat) : Int)))∧Inv (i + 1) (f s (gt l (i : Int))))
  (h2 : ∀ s : β,b (s,(l.length : Int)) = some (.brk s)) (s0 : β) (h0 : Inv 0 s0) : qt b K (s0,0) = some (.inr (l.foldl f s0))∧Inv l.length (l.foldl f s0):=by
 have key : ∀ (d i k : Nat) (s : β),i + d = l.length→d < k→Inv i s→qt b k (s,(i : Int)) = some (.inr ((l.drop i).foldl f s))∧Inv l.length ((l.drop i).foldl f s):=by
  intro d
  induction d with
  | zero=>
   intro i k s hi hk hs
   obtain ⟨k,rfl⟩ : ∃ m,k = m + 1:=⟨k - 1,by omega⟩
   have : i = l.length:=by omega
   subst this
   rw [qt,h2 s,List.drop_length]; exact ⟨rfl,hs⟩
  | succ d ih=>
   intro i k s hi hk hs
   obtain ⟨k,rfl⟩ : ∃ m,k = m + 1:=⟨k - 1,by omega⟩
   have hlt : i < l.length:=by omega
   obtain ⟨e1,e2⟩:=h1 i s hlt hs
   rw [qt,e1,Jg hlt]
   exact ih (i + 1) k _ (by omega) (by omega) e2
 have:=key l.length 0 K s0 (by omega) (by omega) h0
 simpa using this
theorem paths_len {a : List (List Rec)} (h : YL a = true) : (yw a).length≤80:=by
 obtain ⟨h5,hL⟩:=stackOK_of h
 refine Nat.le_trans (riseOf_len _) ?_
 rw [List.length_map]
 have : ∀ (ls : List (List Rec)),(∀ l ∈ ls,l.length≤16)→ls.flatten.length≤ls.length * 16:=by
  intro ls
  induction ls with
  | nil=>intro _; simp
  | cons l ls ih=>
   intro h
   have a1:=h l (by simp)
   have a2:=ih fun x hx=>h x (by simp [hx])
   simp only [List.flatten_cons,List.length_append,List.length_cons]; omega
 have:=this a fun l hl=>je (hL l hl)
 omega
theorem paths_mem {a : List (List Rec)} {p : List UInt8} : p ∈ yw a ↔ ∃ l ∈ a,∃ r ∈ l,r.path = p:=by
 rw [yw,riseOf_mem]
 simp only [List.mem_map,List.mem_flatten]
 constructor
 ·rintro ⟨r,⟨l,hl,hr⟩,e⟩; exact ⟨l,hl,r,hr,e⟩
 ·rintro ⟨l,hl,r,hr,e⟩; exact ⟨r,⟨l,hl,hr⟩,e⟩
theorem paths_ok {a : List (List Rec)} (h : YL a = true) : ∀ p ∈ yw a,qC p = true:=by
 intro p hp
 obtain ⟨l,hl,r,hr,rfl⟩:=paths_mem.1 hp
 exact jS ((stackOK_of h).2 l hl) r hr
theorem V5 {l : List Rec} {r x : Rec} (h : js l r = some x) : x.path = r.path:=by
 unfold js at h
 split at h
 ·split at h
  ·cases h
  ·rw [← Option.some.inj h]
 ·rw [← Option.some.inj h]
theorem Yw {f : Rec→Option Rec} (hf : ∀ r x,f r = some x→x.path = r.path) : ∀ {l : List Rec},yu (l.map (·.path))→yu ((l.filterMap f).map (·.path))∧∀ q ∈ (l.filterMap f).map (·.path),q ∈ l.map (·.path):=by
 intro l
 induction l with
 | nil=>intro _; exact ⟨List.Pairwise.nil,by simp⟩
 | cons r l ih=>
  intro h
  obtain ⟨i1,i2⟩:=ih (V3 h)
  have hlt:=Yo h
  cases hr : f r with
  | none=>rw [List.filterMap_cons_none hr]; exact ⟨i1,fun q hq=>List.mem_cons_of_mem _ (i2 q hq)⟩
  | some x=>
   rw [List.filterMap_cons_some hr,List.map_cons,hf r x hr]
   exact ⟨List.pairwise_cons.2 ⟨fun q hq=>hlt q (i2 q hq),i1⟩,fun q hq=>by
    rcases List.mem_cons.1 hq with rfl | hq
    ·exact List.mem_cons_self
    ·exact List.mem_cons_of_mem _ (i2 q hq)⟩
def Qw (l : List Rec) (p : List UInt8) : Option (Option Nd):=match qN l p with
 | some r=>some (QO r)
 | none=>if Vn l p then some none else none
theorem seen_view (l : List Rec) (t : List Nd) (p : List UInt8) : seenL l t p = (Qw l p).getD (vZ t p):=by
 unfold seenL Qw
 cases qN l p with
 | some r=>rfl
 | none=>cases Vn l p <;> rfl
theorem VV {p : List UInt8} (h : qd p ≠ []) : yq p = qd p :: yq (qd p):=by rw [Qh,if_neg h]
theorem JZ {p : List UInt8} (h : qd p = []) : yq p = []:=by rw [Qh,if_pos h]
theorem Gd {p x y : List UInt8} (hp : qC p = true) (hx : x ∈ yq p) (hy : y ∈ yq x) : y ∈ yq p:=Yz hp (Vs (jy hx) (jy hy))
theorem ancs_ok {p x : List UInt8} (hp : qC p = true) (hx : x ∈ yq p) : qC x = true:=GS hp (jy hx)
theorem X4 {p x : List UInt8} (hp : qC p = true) (hx : x ∈ yq p) : (cut 47 x).length < 4:=by
 have h1:=jV (jy hx)
 have h2:=Jh hp
 omega
theorem Sheet.path {l : List Rec} (hs : Sheet l) {p : List UInt8} {r : Rec} (h : qN l p = some r) : qC p = true:=by
 obtain ⟨h1,h2⟩:=yj h
 rw [← h2]; exact vV (hs.ok r h1)
theorem Sheet.fault {l : List Rec} (hs : Sheet l) {p : List UInt8} {r : Rec} (h : qN l p = some r) : qx r = 0:=hs.ok r (yj h).1
theorem Sheet.anc {l : List Rec} (hs : Sheet l) {p x : List UInt8} {r : Rec} (h : qN l p = some r) (hx : x ∈ yq p) : ∃ m,qN l x = some m∧m.kind = 3:=by
 obtain ⟨h1,h2⟩:=yj h
 obtain ⟨m,hm,e,hk⟩:=hs.above (n:=r) h1 (p:=x) (by rw [h2]; exact jy hx)
 exact ⟨m,by rw [← e]; exact JS hs.rise hm,hk⟩
theorem Sheet.opqk {l : List Rec} (hs : Sheet l) {p : List UInt8} {r : Rec} (h : qN l p = some r) (ho : r.opq = true) : r.kind = 3:=GA (hs.fault h) ho
theorem Xe {l : List Rec} {p : List UInt8} (h : ∀ x ∈ yq p,∀ r,qN l x = some r→r.kind = 3) : Vn l p = yi l p:=by
 rw [Bool.eq_iff_iff,QL,jp]
 constructor
 ·rintro ⟨x,hx,r,hr,hs⟩
  refine ⟨x,hx,r,hr,?_⟩
  simpa [jP,h x hx r hr] using hs
 ·rintro ⟨x,hx,r,hr,hs⟩
  exact ⟨x,hx,r,hr,by simp [jP,hs]⟩
def YO (l : List Rec) (x : List UInt8) : Bool:=yi l x || (match qN l x with | some r=>r.opq | none=>false)
theorem Jd {l : List Rec} {p : List UInt8} (h : qd p ≠ []) : yi l p = YO l (qd p):=by
 rw [Bool.eq_iff_iff,jp]
 unfold YO
 rw [Bool.or_eq_true,jp,VV h]
 constructor
 ·rintro ⟨x,hx,r,hr,ho⟩
  rcases List.mem_cons.1 hx with rfl | hx
  ·right; rw [hr]; exact ho
  ·exact .inl ⟨x,hx,r,hr,ho⟩
 ·rintro (⟨x,hx,r,hr,ho⟩ | ho)
  ·exact ⟨x,List.mem_cons_of_mem _ hx,r,hr,ho⟩
  ·cases hl : qN l (qd p) with
   | none=>rw [hl] at ho; cases ho
   | some r=>rw [hl] at ho; exact ⟨_,List.mem_cons_self,r,hl,ho⟩
theorem Je {l : List Rec} (hs : Sheet l) {q : List UInt8} (hq : qC q = true) (hp : qd q ≠ []) {m : Rec} (hm : qN l (qd q) = some m) (hk : m.kind = 3) (hn : qN l q = none) : Qw l q = if YO l (qd q) then some none else none:=by
 unfold Qw
 rw [hn]
 show (if Vn l q = true then some none else none) = _
 rw [Xe,Jd hp]
 intro x hx r hr
 rw [VV hp] at hx
 rcases List.mem_cons.1 hx with rfl | hx
 ·rw [hm] at hr; rw [← Option.some.inj hr]; exact hk
 ·obtain ⟨m2,h1,h2⟩:=hs.anc hm hx
  rw [h1] at hr; rw [← Option.some.inj hr]; exact h2
theorem pigeon {α : Type} [DecidableEq α] : ∀ (l m : List α),l.Nodup→(∀ x ∈ l,x ∈ m)→l.length≤m.length:=by
 intro l
 induction l with
 | nil=>intro m _ _; simp
 | cons x l ih=>
  intro m hd hs
  have hx:=hs x (by simp)
  have h1:=List.nodup_cons.1 hd
  have h2:=ih (m.erase x) h1.2 fun y hy=>(List.mem_erase_of_ne (fun e=>h1.1 (by rw [← e]; exact hy))).2 (hs y (by simp [hy]))
  rw [List.length_erase_of_mem hx] at h2
  have : 0 < m.length:=List.length_pos_of_mem hx
  simp only [List.length_cons]; omega
def YH (i : Nat) : List UInt8:=[122,UInt8.ofNat (97 + i / 16),UInt8.ofNat (97 + i % 16)]
theorem freeN_ok : ∀ i,i < 256→jh (YH i) = true:=by
 have h : (List.range 256).all (fun i=>jh (YH i)) = true:=by decide +kernel
 intro i hi
 exact (List.all_eq_true.1 h) i (List.mem_range.2 hi)
theorem freeN_noslash : ∀ i,i < 256→cut 47 (YH i) = [YH i]:=by
 have h : (List.range 256).all (fun i=>decide (cut 47 (YH i) = [YH i])) = true:=by decide +kernel
 intro i hi
 exact of_decide_eq_true ((List.all_eq_true.1 h) i (List.mem_range.2 hi))
theorem freeN_inj {i j : Nat} (hi : i < 256) (hj : j < 256) (h : YH i = YH j) : i = j:=by
 unfold YH at h
 injection h with _ h
 injection h with h1 h
 injection h with h2 _
 have e1:=congrArg UInt8.toNat h1
 have e2:=congrArg UInt8.toNat h2
 simp only [UInt8.toNat_ofNat'] at e1 e2
 omega
theorem joinL_le : ∀ (l : List (List UInt8)),(∀ x ∈ l,x.length≤8)→(yT l).length≤9 * l.length - 1:=by
 intro l
 induction l with
 | nil=>intro _; simp [yT]
 | cons x l ih=>
  intro h
  have h1:=h x (by simp)
  have h2:=ih fun y hy=>h y (by simp [hy])
  by_cases e : l = []
  ·subst e; simp [yT]; omega
  ·rw [VW x e]
   have:=List.length_pos_iff.2 e
   simp only [List.length_append,List.length_cons]; omega
theorem XC {p : List UInt8} (h : qC p = true) : (cut 47 p).length≤4∧∀ x ∈ cut 47 p,jh x = true:=by
 simp only [qC,Bool.and_eq_true,decide_eq_true_eq,List.all_eq_true] at h
 exact ⟨h.2.1,h.2.2⟩
theorem child_ok {x part : List UInt8} (hx : qC x = true) (hd : (cut 47 x).length < 4) (hp : jh part = true) (hc : cut 47 part = [part]) : qC (x ++ 47 :: part) = true∧qd (x ++ 47 :: part) = x:=by
 have hcut : cut 47 (x ++ 47 :: part) = cut 47 x ++ [part]:=by rw [cut_app2,hc]
 obtain ⟨h1,h2⟩:=XC hx
 have h3:=joinL_le (cut 47 x) fun y hy=>Gh (h2 y hy)
 rw [Vw] at h3
 have h4:=Gh hp
 have hok : qC (x ++ 47 :: part) = true:=by
  simp only [qC,Bool.and_eq_true,decide_eq_true_eq,List.all_eq_true,hcut]
  refine ⟨by simp; omega,by simp; omega,fun y hy=>?_⟩
  rcases List.mem_append.1 hy with hy | hy
  ·exact h2 y hy
  ·rw [List.mem_singleton.1 hy]; exact hp
 refine ⟨hok,?_⟩
 have hb : vw (x ++ 47 :: part) x = true:=(Q2 _ _).2 ⟨[part],by simp,hcut⟩
 obtain ⟨g1,g2 | g2⟩:=Xy hok hb
 ·exact g2
 ·have g3:=jV g2
  rw [cut_parent g1,hcut] at g3
  simp at g3
theorem fresh {a b : List Rec} (hlen : a.length + b.length < 256) {x : List UInt8} (hx : qC x = true) (hd : (cut 47 x).length < 4) :
  ∃ q,qC q = true∧qd q = x∧qN a q = none∧qN b q = none:=by
 have key : ∃ i,i < 256∧(x ++ 47 :: YH i) ∉ a.map (·.path) ++ b.map (·.path):=by
  refine Classical.byContradiction fun hno=>?_
  have hall : ∀ i,i < 256→(x ++ 47 :: YH i) ∈ a.map (·.path) ++ b.map (·.path):=fun i hi=>Classical.byContradiction fun h=>hno ⟨i,hi,h⟩
  have hnd : ((List.range 256).map fun i=>x ++ 47 :: YH i).Nodup:=by
   refine List.pairwise_map.2 (List.Pairwise.imp_of_mem (R:=fun i j=>i < j) (fun {i j} hi hj hlt e=>?_) List.pairwise_lt_range)
   have h1:=List.append_cancel_left e
   injection h1 with _ h1
   have:=freeN_inj (List.mem_range.1 hi) (List.mem_range.1 hj) h1
   omega
  have hle:=pigeon _ _ hnd fun y hy=>by
   obtain ⟨i,hi,rfl⟩:=List.mem_map.1 hy
   exact hall i (List.mem_range.1 hi)
  simp at hle
  omega
 obtain ⟨i,hi,hni⟩:=key
 obtain ⟨h1,h2⟩:=child_ok hx hd (freeN_ok i hi) (freeN_noslash i hi)
 rw [List.mem_append,not_or] at hni
 refine ⟨_,h1,h2,?_,?_⟩
 ·cases h : qN a (x ++ 47 :: YH i) with
  | none=>rfl
  | some r=>exact absurd (Yh.1 (by rw [h]; simp)) hni.1
 ·cases h : qN b (x ++ 47 :: YH i) with
  | none=>rfl
  | some r=>exact absurd (Yh.1 (by rw [h]; simp)) hni.2
theorem look_fm {f : Rec→Option Rec} (hf : ∀ r x,f r = some x→x.path = r.path) {l : List Rec} (h : yu (l.map (·.path))) (p : List UInt8) : qN (l.filterMap f) p = (qN l p).bind f:=by
 have h2:=(mrgF_spec (fun r : Rec=>r.path) f some (fun _ _=>none) hf (fun y z e=>by rw [Option.some.inj e]) (fun x y z _ e=>by cases e) _ l [] (Nat.le_refl _) h List.Pairwise.nil).2 p
 rw [mrgF_nil] at h2
 refine h2.trans ?_
 show mrgO f some (fun _ _=>none) (qN l p) none = _
 cases qN l p <;> rfl
theorem QW {l : List Rec} (hs : Sheet l) (p : List UInt8) : qN (qb l) p = (qN l p).bind (js l):=look_fm (fun _ _=>V5) hs.rise p
theorem Ym {l : List Rec} {r : Rec} (h : yi l r.path = true) : js l r = if r.kind = 4 then none else some ⟨r.kind,r.path,r.body,r.mode,false⟩:=by unfold js; rw [if_pos h]
theorem Vj {l : List Rec} {r : Rec} (h : yi l r.path = false) : js l r = some ⟨r.kind,r.path,r.body,r.mode,r.opq && decide ((cut 47 r.path).length < 4)⟩:=by unfold js; rw [if_neg (by rw [h]; simp)]
theorem YK {r : Rec} (h : qx r = 0) (hk : r.kind = 4) : r.body = []∧r.mode = 0∧r.opq = false:=by
 obtain ⟨_,_,_,h4,h5⟩:=(y9 r).1 h
 rw [Bool.or_eq_false_iff] at h4 h5
 simp [hk] at h4 h5
 exact ⟨h4.1,h5.2,h4.2⟩
theorem view_show {l : List Rec} {p : List UInt8} {n : Nd} (h : Qw l p = some (some n)) : ∃ r,qN l p = some r∧r.kind ≠ 4∧jl r = n:=by
 unfold Qw at h
 cases hl : qN l p with
 | none=>
  rw [hl] at h
  rcases qo (Vn l p) with hc | hc
  ·simp [hc] at h
  ·simp [hc] at h
 | some r=>
  rw [hl] at h
  have h : QO r = some n:=Option.some.inj h
  unfold QO at h
  by_cases hk : r.kind = 4
  ·rw [if_pos hk] at h; cases h
  ·rw [if_neg hk] at h; exact ⟨r,rfl,hk,Option.some.inj h⟩
theorem JE {l : List Rec} {p : List UInt8} {r : Rec} (h : qN l p = some r) : Qw l p = some (QO r):=by unfold Qw; rw [h]
set_option linter.unusedSectionVars false
section
variable {a b : List Rec} (ha : Sheet a) (hb : Sheet b) (hlen : a.length + b.length < 256) (hv : ∀ p, qC p = true → Qw a p = Qw b p)
include ha hb hlen hv
theorem dir_both {x : List UInt8} {m : Rec} (h : qN a x = some m) (hk : m.kind ≠ 4) : ∃ m',qN b x = some m'∧m'.kind ≠ 4∧jl m' = jl m:=by
 have h1:=hv x (ha.path h)
 rw [JE h] at h1
 unfold QO at h1
 rw [if_neg hk] at h1
 exact view_show h1.symm
theorem cover_eq {x : List UInt8} {m m' : Rec} (hx : qC x = true) (hd : (cut 47 x).length < 4) (h : qN a x = some m) (hk : m.kind = 3) (h' : qN b x = some m') (hk' : m'.kind = 3) : YO a x = YO b x:=by
 obtain ⟨q,h1,h2,h3,h4⟩:=fresh hlen hx hd
 have hne : qd q ≠ []:=by rw [h2]; exact VQ hx
 have e1:=Je ha h1 hne (by rw [h2]; exact h) hk h3
 have e2:=Je hb h1 hne (by rw [h2]; exact h') hk' h4
 rw [h2] at e1 e2
 have e3:=hv q h1
 rw [e1,e2] at e3
 cases h5 : YO a x <;> cases h6 : YO b x <;> simp [h5,h6] at e3 ⊢
theorem under_eq {p : List UInt8} {r : Rec} (h : qN a p = some r) : yi a p = yi b p∧∀ x ∈ yq p,∃ m,qN b x = some m∧m.kind = 3:=by
 have hp:=ha.path h
 have hall : ∀ x ∈ yq p,∃ m,qN b x = some m∧m.kind = 3:=fun x hx=>by
  obtain ⟨m,h1,h2⟩:=ha.anc h hx
  obtain ⟨m',h3,_,h5⟩:=dir_both ha hb hlen hv h1 (by omega)
  exact ⟨m',h3,by have:=congrArg Nd.kind h5; simp only [jl] at this; omega⟩
 refine ⟨?_,hall⟩
 by_cases hpp : qd p = []
 ·have : ∀ l,yi l p = false:=fun l=>by unfold yi; rw [JZ hpp]; rfl
  rw [this,this]
 ·have hx : qd p ∈ yq p:=by rw [VV hpp]; exact List.mem_cons_self
  obtain ⟨m,h1,h2⟩:=ha.anc h hx
  obtain ⟨m',h3,h4⟩:=hall _ hx
  rw [Jd hpp,Jd hpp]
  exact cover_eq ha hb hlen hv (ancs_ok hp hx) (X4 hp hx) h1 h2 h3 h4
theorem XX {p : List UInt8} {r : Rec} (h : qN (qb a) p = some r) : qN (qb b) p = some r:=by
 rw [QW ha] at h
 rw [QW hb]
 cases h0 : qN a p with
 | none=>rw [h0] at h; cases h
 | some r0=>
  rw [h0] at h
  have h : js a r0 = some r:=h
  have hp:=ha.path h0
  have e0:=(yj h0).2
  obtain ⟨hu,hall⟩:=under_eq ha hb hlen hv h0
  by_cases hk : r0.kind = 4
  ·obtain ⟨w1,w2,w3⟩:=YK (ha.fault h0) hk
   have hun : yi a p = false:=by
    rcases qo (yi a p) with hh | hh
    ·rw [Ym (by rw [e0]; exact hh),if_pos hk] at h; cases h
    ·exact hh
   rw [Vj (by rw [e0]; exact hun)] at h
   have hv1:=hv p hp
   rw [JE h0] at hv1
   unfold QO at hv1
   rw [if_pos hk] at hv1
   cases h1 : qN b p with
   | none=>
    unfold Qw at hv1
    rw [h1] at hv1
    have hc : Vn b p = yi b p:=Xe fun x hx m hm=>by
     obtain ⟨m',g1,g2⟩:=hall x hx
     rw [g1] at hm; rw [← Option.some.inj hm]; exact g2
    rw [hc,← hu,hun] at hv1
    cases hv1
   | some rb=>
    have e1:=(yj h1).2
    rw [JE h1] at hv1
    have hk2 : rb.kind = 4:=by
     have:=Option.some.inj hv1
     unfold QO at this
     split at this
     ·assumption
     ·cases this
    obtain ⟨y1,y2,y3⟩:=YK (hb.fault h1) hk2
    show js b rb = some r
    rw [Vj (by rw [e1,← hu]; exact hun),← h,hk,hk2,e0,e1,w1,w2,w3,y1,y2,y3]
  ·obtain ⟨rb,h1,hk2,hnd⟩:=dir_both ha hb hlen hv h0 hk
   have e1:=(yj h1).2
   simp only [jl,Nd.mk.injEq] at hnd
   obtain ⟨n1,n2,n3,n4⟩:=hnd
   refine (congrArg (fun o : Option Rec=>o.bind (js b)) h1).trans ?_
   show js b rb = some r
   rcases qo (yi a p) with hun | hun
   ·rw [Ym (by rw [e0]; exact hun),if_neg hk] at h
    rw [Ym (by rw [e1,← hu]; exact hun),if_neg hk2,← h,n1,n2,n3,n4]
   ·rw [Vj (by rw [e0]; exact hun)] at h
    rw [Vj (by rw [e1,← hu]; exact hun),← h,n1,n2,n3,n4]
    congr 2
    by_cases hd : (cut 47 r0.path).length < 4
    ·have hoo : rb.opq = r0.opq:=by
      by_cases h3 : r0.kind = 3
      ·have hc:=cover_eq ha hb hlen hv hp (by rw [← e0]; exact hd) h0 h3 h1 (by omega)
       unfold YO at hc
       rw [h0,h1,← hu,hun] at hc
       simpa using hc.symm
      ·have g1 : r0.opq = false:=by
        rcases qo r0.opq with g | g
        ·exact absurd (ha.opqk h0 g) h3
        ·exact g
       have g2 : rb.opq = false:=by
        rcases qo rb.opq with g | g
        ·exact absurd (hb.opqk h1 g) (by omega)
        ·exact g
       rw [g1,g2]
     rw [hoo]
    ·simp [hd]
end
theorem canon_of_view {a b : List Rec} (ha : Sheet a) (hb : Sheet b) (hlen : a.length + b.length < 256) (hv : ∀ p,qC p = true→Qw a p = Qw b p) : qb a = qb b:=by
 refine Jl (fun r : Rec=>r.path) (Yw (fun _ _=>V5) ha.rise).1 (Yw (fun _ _=>V5) hb.rise).1 fun p=>?_
 cases h : qN (qb a) p with
 | some r=>exact h.trans (XX ha hb hlen hv h).symm
 | none=>
  cases h' : qN (qb b) p with
  | none=>exact h.trans h'.symm
  | some r=>
   have:=XX hb ha (by omega) (fun q hq=>(hv q hq).symm) h'
   rw [h] at this; cases this
theorem JO {l : List Rec} (hs : Sheet l) : ∀ (n : Nat) (p : List UInt8),(cut 47 p).length≤n→qC p = true→yi (qb l) p = yi l p:=by
 intro n
 induction n with
 | zero=>
  intro p hn hp
  have h1 : ∀ x ∈ yq p,False:=fun x hx=>by have:=jV (jy hx); omega
  rw [Bool.eq_iff_iff,jp,jp]
  exact ⟨fun ⟨x,hx,_⟩=>(h1 x hx).elim,fun ⟨x,hx,_⟩=>(h1 x hx).elim⟩
 | succ n ih=>
  intro p hn hp
  rw [Bool.eq_iff_iff,jp,jp]
  constructor
  ·rintro ⟨x,hx,r,hr,ho⟩
   rw [QW hs] at hr
   cases h0 : qN l x with
   | none=>rw [h0] at hr; cases hr
   | some r0=>
    rw [h0] at hr
    have hr : js l r0 = some r:=hr
    refine ⟨x,hx,r0,h0,?_⟩
    unfold js at hr
    split at hr
    ·split at hr
     ·cases hr
     ·rw [← Option.some.inj hr] at ho; cases ho
    ·rw [← Option.some.inj hr] at ho
     simp only [Bool.and_eq_true] at ho
     exact ho.1
  ·rintro ⟨x,hx,r0,h0,ho⟩
   have hd:=jV (jy hx)
   have hx4:=X4 hp hx
   have hi:=ih x (by omega) (ancs_ok hp hx)
   rcases qo (yi l x) with hu | hu
   ·rw [hu,jp] at hi
    obtain ⟨y,hy,r,hr,hro⟩:=hi
    exact ⟨y,Gd hp hx hy,r,hr,hro⟩
   ·have e0:=(yj h0).2
    refine ⟨x,hx,_,by rw [QW hs,h0]; exact Vj (by rw [e0]; exact hu),?_⟩
    simp only [Bool.and_eq_true,decide_eq_true_eq]
    exact ⟨ho,by rw [e0]; exact hx4⟩
theorem Gl {l : List Rec} {p : List UInt8} (h : yi l p = true) : Vn l p = true:=by
 obtain ⟨x,hx,r,hr,ho⟩:=(jp l p).1 h
 exact (QL l p).2 ⟨x,hx,r,hr,by simp [jP,ho]⟩
theorem YI {l : List Rec} {r x : Rec} (h : js l r = some x) : x.kind = r.kind∧x.path = r.path∧x.body = r.body∧x.mode = r.mode∧(x.opq = true→r.opq = true):=by
 unfold js at h
 split at h
 ·split at h
  ·cases h
  ·rw [← Option.some.inj h]; exact ⟨rfl,rfl,rfl,rfl,fun h=>by cases h⟩
 ·rw [← Option.some.inj h]; exact ⟨rfl,rfl,rfl,rfl,fun h=>by simp only [Bool.and_eq_true] at h; exact h.1⟩
theorem cuts_canon {l : List Rec} (hs : Sheet l) {p : List UInt8} (hp : qC p = true) : Vn (qb l) p = Vn l p:=by
 rw [Bool.eq_iff_iff]
 constructor
 ·intro h
  obtain ⟨x,hx,r,hr,ho⟩:=(QL _ _).1 h
  rw [QW hs] at hr
  cases h0 : qN l x with
  | none=>rw [h0] at hr; cases hr
  | some r0=>
   rw [h0] at hr
   have hr : js l r0 = some r:=hr
   obtain ⟨k1,_,_,_,k5⟩:=YI hr
   refine (QL _ _).2 ⟨x,hx,r0,h0,?_⟩
   unfold jP at ho ⊢
   rw [k1] at ho
   rw [Bool.or_eq_true] at ho ⊢
   exact ho.imp id k5
 ·intro h
  obtain ⟨x,hx,r0,h0,ho⟩:=(QL _ _).1 h
  have e0:=(yj h0).2
  rcases qo (yi l x) with hu | hu
  ·have hup : yi l p = true:=by
    obtain ⟨y,hy,r,hr,hro⟩:=(jp _ _).1 hu
    exact (jp _ _).2 ⟨y,Gd hp hx hy,r,hr,hro⟩
   exact Gl (by rw [JO hs _ p (Nat.le_refl _) hp]; exact hup)
  ·by_cases hk : r0.kind = 3
   ·have hop : r0.opq = true:=by simpa [jP,hk] using ho
    exact Gl (by rw [JO hs _ p (Nat.le_refl _) hp]; exact (jp _ _).2 ⟨x,hx,r0,h0,hop⟩)
   ·refine (QL _ _).2 ⟨x,hx,_,by rw [QW hs,h0]; exact Vj (by rw [e0]; exact hu),?_⟩
    simp [jP,hk]
theorem show_same {r x : Rec} (h1 : x.kind = r.kind) (h2 : x.path = r.path) (h3 : x.body = r.body) (h4 : x.mode = r.mode) : QO x = QO r:=by
 unfold QO jl; rw [h1,h2,h3,h4]
theorem view_canon {l : List Rec} (hs : Sheet l) {p : List UInt8} (hp : qC p = true) : Qw (qb l) p = Qw l p:=by
 have hc:=cuts_canon hs hp
 have hu:=JO hs _ p (Nat.le_refl _) hp
 have hl:=QW hs p
 unfold Qw
 cases h0 : qN l p with
 | none=>
  rw [h0] at hl
  have hl : qN (qb l) p = none:=hl
  rw [hl,hc]
 | some r=>
  rw [h0] at hl
  have hl : qN (qb l) p = js l r:=hl
  have e0:=(yj h0).2
  cases hr : js l r with
  | some x=>
   rw [hl,hr]
   obtain ⟨k1,k2,k3,k4,_⟩:=YI hr
   exact congrArg some (show_same k1 k2 k3 k4)
  | none=>
   rw [hl,hr]
   unfold js at hr
   split at hr
   ·rename_i hun
    split at hr
    ·rename_i hk
     rw [e0] at hun
     have:=Gl (hu.trans hun)
     simp only [this,if_true]
     unfold QO; rw [if_pos hk]
    ·cases hr
   ·cases hr
theorem V8 {l : List Rec} (hs : Sheet l) : Sheet (qb l):=by
 have hmem : ∀ x ∈ qb l,∃ r ∈ l,js l r = some x:=fun x hx=>List.mem_filterMap.1 hx
 refine ⟨(Yw (fun _ _=>V5) hs.rise).1,fun x hx=>?_,fun x hx hp=>?_⟩
 ·obtain ⟨r,hr,e⟩:=hmem x hx
  obtain ⟨k1,k2,k3,k4,k5⟩:=YI e
  have:=V1 (hs.ok r hr) x.opq (fun h=>GA (hs.ok r hr) (k5 h))
  rw [← k1,← k2,← k3,← k4] at this
  exact this
 ·obtain ⟨r,hr,e⟩:=hmem x hx
  rw [V5 e] at hp ⊢
  obtain ⟨q,hq,e2,hk⟩:=hs.par r hr hp
  cases hc : js l q with
  | none=>
   exfalso
   unfold js at hc
   split at hc
   ·rw [if_neg (by omega)] at hc; cases hc
   ·cases hc
  | some y=>
   obtain ⟨k1,k2,_⟩:=YI hc
   exact ⟨y,List.mem_filterMap.2 ⟨q,hq,hc⟩,by rw [k2,e2],by rw [k1,hk]⟩
theorem Sheet.nil : Sheet []:=⟨List.Pairwise.nil,by simp,by simp⟩
theorem QU {l : List Rec} {t : List Nd} (hs : Sheet l) (ht : Wood t) (p : List UInt8) : vZ (vd l t) p = (Qw l p).getD (vZ t p):=by
 rw [(YF t ht _ l rfl hs).2.1,seen_view]
theorem wood_eq {s t : List Nd} (hs : Wood s) (ht : Wood t) (h : ∀ p,qC p = true→vZ s p = vZ t p) : s = t:=by
 refine Jl (fun n : Nd=>n.path) hs.rise ht.rise fun p=>?_
 rcases qo (qC p) with hp | hp
 ·exact h p hp
 ·have hno : ∀ {t : List Nd},Wood t→vZ t p = none:=fun {t} hw=>by
   cases hl : vZ t p with
   | none=>rfl
   | some n=>
    obtain ⟨h1,h2⟩:=jr hl
    rw [← h2,QB (hw.ok n h1)] at hp; cases hp
  exact (hno hs).trans (hno ht).symm
theorem apply_wood {l : List Rec} {t : List Nd} (hl : Sheet l) (ht : Wood t) : Wood (vd l t):=(YF t ht _ l rfl hl).1
theorem apply_view {a b : List Rec} {t : List Nd} (ha : Sheet a) (hb : Sheet b) (ht : Wood t) (h : ∀ p,qC p = true→Qw a p = Qw b p) : vd a t = vd b t:=
 wood_eq (apply_wood ha ht) (apply_wood hb ht) fun p hp=>by rw [QU ha ht,QU hb ht,h p hp]
theorem YB {l : List Rec} {t : List Nd} (hl : Sheet l) (ht : Wood t) : vd (qb l) t = vd l t:=apply_view (V8 hl) hl ht fun _ hp=>view_canon hl hp
theorem apply_same {a b : List Rec} {t : List Nd} (ha : Sheet a) (hb : Sheet b) (ht : Wood t) (h : qb a = qb b) : vd a t = vd b t:=by
 rw [← YB ha ht,h,YB hb ht]
theorem X0 {l : List Rec} (hl : Sheet l) (h : l.length < 128) : qb (qb l) = qb l:=by
 have:=Yt l
 exact canon_of_view (V8 hl) hl (by omega) fun p hp=>view_canon hl hp
end Go.UL
