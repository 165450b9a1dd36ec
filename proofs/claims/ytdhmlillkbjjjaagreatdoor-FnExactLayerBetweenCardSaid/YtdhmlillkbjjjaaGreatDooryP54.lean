import Derived.Test.YtdhmlillkbjjjaaGreatDooryP48
set_option linter.unusedVariables false
set_option linter.unusedSimpArgs false
namespace Go.UL
open Go.RowKit
def firstP (x y : List Rec) : Option (List UInt8):=(yx [x,y]).find? fun p=>!decide (VA x p = VA y p)
def XE (a b : List Rec) : List Nd × Int:=if GM a b = 0 then (match firstP (Yn a) (Yn b) with
  | none=>([],18)
  | some p=>(witP (Yn a) (Yn b) p,0)) else ([],GM a b)
def yh (b : List Nd) (p : List UInt8) : Rec:=match vR b p with
 | some n=>qM n
 | none=>⟨4,p,[],0,false⟩
theorem jO (b : List Nd) (p : List UInt8) : (yh b p).path = p:=by
 unfold yh
 cases h : vR b p with
 | none=>rfl
 | some n=>exact (yB h).2
theorem GS (b : List Nd) (ps : List (List UInt8)) : (ps.map (yh b)).map (·.path) = ps:=by
 rw [List.map_map]
 exact List.map_id'' (fun p=>jO b p) _
theorem JH {b : List Nd} {p : List UInt8} (h : vR b p ≠ none) : qM (nodeAt b p) = yh b p:=by
 cases hl : vR b p with
 | none=>exact absurd hl h
 | some n=>
  have e : nodeAt b p = n:=by rw [Qv,show j2 b p = vR b p from rfl,hl]; rfl
  unfold yh; rw [e,hl]
theorem Yr {b : List Nd} (hb : Wood b) {p : List UInt8} : (nodeAt b p).kind = 0 ↔ vR b p = none:=by
 rw [Qv,show j2 b p = vR b p from rfl]
 cases h : vR b p with
 | none=>exact ⟨fun _=>rfl,fun _=>rfl⟩
 | some n=>
  have hf:=(Ge (hb.ok n (yB h).1)).1
  have:=Xi hf
  refine ⟨fun h2=>?_,fun h2=>by cases h2⟩
  have h3 : n.kind = 0:=h2
  have h4 : (qM n).kind = n.kind:=rfl
  omega
def QJ (ps : List (List UInt8)) (p : List UInt8) : List (List UInt8):=if p ∈ ps then ps else ps ++ [p]
theorem insU_mem {ps : List (List UInt8)} {p z : List UInt8} : z ∈ QJ ps p ↔ z ∈ ps∨z = p:=by
 unfold QJ
 split
 ·rename_i h
  constructor
  ·exact .inl
  ·rintro (h2 | rfl)
   ·exact h2
   ·exact h
 ·simp
theorem Xa {ps : List (List UInt8)} (h : ps.Nodup) (p : List UInt8) : (QJ ps p).Nodup:=by
 unfold QJ
 split
 ·exact h
 ·rename_i hp
  rw [List.nodup_append]
  exact ⟨h,by simp,fun a ha b hb e=>by simp at hb; subst hb; subst e; exact hp ha⟩
theorem GD (ps : List (List UInt8)) (p : List UInt8) : (QJ ps p).length≤ps.length + 1:=by unfold QJ; split <;> simp
def yU (ps qs : List (List UInt8)) : List (List UInt8):=qs.foldl QJ ps
theorem Y6 {z : List UInt8} : ∀ (qs ps : List (List UInt8)),z ∈ yU ps qs ↔ z ∈ ps∨z ∈ qs:=by
 intro qs
 induction qs with
 | nil=>intro ps; simp [yU]
 | cons q qs ih=>
  intro ps
  have:=ih (QJ ps q)
  unfold yU at this ⊢
  rw [List.foldl_cons,this,insU_mem,List.mem_cons]
  constructor
  ·rintro ((h | h) | h)
   ·exact .inl h
   ·exact .inr (.inl h)
   ·exact .inr (.inr h)
  ·rintro (h | h | h)
   ·exact .inl (.inl h)
   ·exact .inl (.inr h)
   ·exact .inr h
theorem V6 : ∀ (qs ps : List (List UInt8)),ps.Nodup→(yU ps qs).Nodup:=by
 intro qs
 induction qs with
 | nil=>intro ps h; exact h
 | cons q qs ih=>intro ps h; exact ih _ (Xa h q)
theorem Q0 : ∀ (qs ps : List (List UInt8)),(yU ps qs).length≤ps.length + qs.length:=by
 intro qs
 induction qs with
 | nil=>intro ps; simp [yU]
 | cons q qs ih=>
  intro ps
  have h1:=ih (QJ ps q)
  have h2:=GD ps q
  show (yU (QJ ps q) qs).length≤_
  simp only [List.length_cons]; omega
theorem YD (ps qs : List (List UInt8)) (p : List UInt8) : yU ps (qs ++ [p]) = QJ (yU ps qs) p:=by unfold yU; rw [List.foldl_append]; rfl
def Va (b : List Nd) (q : List UInt8) : Bool:=!(decide ((nodeAt b q).kind = 0) && !yd b (qe q))
def stI (b : List Nd) (ps : List (List UInt8)) (q : List UInt8) : List (List UInt8):=if Va b q = true then yU ps (yv q ++ [q]) else ps
def Vf (a b : List Nd) : List (List UInt8):=(yV a b).foldl (stI b) []
def yD (a b : List Nd) : List Rec:=(jy (Vf a b)).map (yh b)
def jw (a b : List Nd) : List Rec × Int:=if 16 < (yD a b).length then ([],6) else (yD a b,0)
def qb (a b : List Nd) : List Rec × Int:=if treesCode a b = 0 then jw a b else ([],treesCode a b)
theorem XW {b : List Nd} {ps : List (List UInt8)} (h : ps.Nodup) (q : List UInt8) : (stI b ps q).Nodup:=by
 unfold stI; split
 ·exact V6 _ _ h
 ·exact h
theorem Jx (b : List Nd) {z : List UInt8} : ∀ (qs ps : List (List UInt8)),z ∈ qs.foldl (stI b) ps ↔ z ∈ ps∨∃ q ∈ qs,Va b q = true∧(z = q∨z ∈ yv q):=by
 intro qs
 induction qs with
 | nil=>intro ps; simp
 | cons q qs ih=>
  intro ps
  rw [List.foldl_cons,ih]
  have hs : z ∈ stI b ps q ↔ z ∈ ps∨Va b q = true∧(z = q∨z ∈ yv q):=by
   unfold stI
   split
   ·rename_i h
    rw [Y6,List.mem_append,List.mem_singleton]
    constructor
    ·rintro (h1 | h1 | h1)
     ·exact .inl h1
     ·exact .inr ⟨h,.inr h1⟩
     ·exact .inr ⟨h,.inl h1⟩
    ·rintro (h1 | ⟨_,h1 | h1⟩)
     ·exact .inl h1
     ·exact .inr (.inr h1)
     ·exact .inr (.inl h1)
   ·rename_i h
    exact ⟨.inl,fun h1=>h1.resolve_right fun h2=>h h2.1⟩
  rw [hs]
  constructor
  ·rintro ((h | h) | ⟨x,hx,h⟩)
   ·exact .inl h
   ·exact .inr ⟨q,by simp,h⟩
   ·exact .inr ⟨x,by simp [hx],h⟩
  ·rintro (h | ⟨x,hx,h⟩)
   ·exact .inl (.inl h)
   ·rcases List.mem_cons.1 hx with rfl | hx
    ·exact .inl (.inr h)
    ·exact .inr ⟨x,hx,h⟩
theorem GQ (b : List Nd) : ∀ (qs ps : List (List UInt8)),ps.Nodup→(qs.foldl (stI b) ps).Nodup:=by
 intro qs
 induction qs with
 | nil=>intro ps h; exact h
 | cons q qs ih=>intro ps h; exact ih _ (XW h q)
theorem Yx {a b : List Nd} (ha : qX a = true) (hb : qX b = true) {q : List UInt8} : q ∈ yV a b ↔ vR a q ≠ vR b q:=by
 unfold yV
 rw [List.mem_filter]
 have hm : q ∈ yx [a.map qM,b.map qM] ↔ q ∈ a.map (·.path)∨q ∈ b.map (·.path):=by
  rw [X6]
  constructor
  ·rintro ⟨l,hl,r,hr,e⟩
   rcases List.mem_cons.1 hl with rfl | hl
   ·obtain ⟨n,hn,rfl⟩:=List.mem_map.1 hr
    exact .inl (List.mem_map.2 ⟨n,hn,e⟩)
   ·obtain rfl:=List.mem_singleton.1 hl
    obtain ⟨n,hn,rfl⟩:=List.mem_map.1 hr
    exact .inr (List.mem_map.2 ⟨n,hn,e⟩)
  ·rintro (h | h)
   ·obtain ⟨n,hn,e⟩:=List.mem_map.1 h
    exact ⟨_,List.mem_cons_self,_,List.mem_map_of_mem hn,e⟩
   ·obtain ⟨n,hn,e⟩:=List.mem_map.1 h
    exact ⟨_,List.mem_cons_of_mem _ List.mem_cons_self,_,List.mem_map_of_mem hn,e⟩
 have hd : (!decide (nodeAt a q = nodeAt b q)) = true ↔ vR a q ≠ vR b q:=by
  rw [Bool.not_eq_true',decide_eq_false_iff_not]
  exact GL ha hb q
 rw [hd,hm]
 exact ⟨fun h=>h.2,fun h=>⟨X1 h,h⟩⟩
theorem QT {a b : List Nd} (ha : qX a = true) (hb : qX b = true) {q : List UInt8} (h : q ∈ yV a b) : qI q = true:=by
 have wa:=J6 ((Bool.and_eq_true _ _).mp (by rw [Q9] at ha; exact ha)).2
 have wb:=J6 ((Bool.and_eq_true _ _).mp (by rw [Q9] at hb; exact hb)).2
 have hd:=(Yx ha hb).1 h
 cases h1 : vR a q with
 | some n=>rw [← (yB h1).2]; exact yY (wa.ok n (yB h1).1)
 | none=>
  cases h2 : vR b q with
  | some n=>rw [← (yB h2).2]; exact yY (wb.ok n (yB h2).1)
  | none=>rw [h1,h2] at hd; exact absurd rfl hd
theorem X8 {b : List Nd} (hb : Wood b) {p q : List UInt8} (hc : Va b p = true) (hq : q ∈ yv p) : vR b q ≠ none:=by
 have up : ∀ {n : Nd},n ∈ b→∀ x ∈ yv n.path,vR b x ≠ none:=fun {n} hn x hx=>by
  obtain ⟨m,hm,e,_⟩:=hb.up n.path.length n hn (Nat.le_refl _) x hx
  have:=Vl hb.rise hm
  rw [e] at this
  rw [this]; simp
 cases hl : vR b p with
 | some n=>
  obtain ⟨h1,h2⟩:=yB hl
  exact up h1 q (by rw [h2]; exact hq)
 | none=>
  have hk:=(Yr hb).2 hl
  have hd : yd b (qe p) = true:=by
   unfold Va at hc
   rw [decide_eq_true hk] at hc
   simpa using hc
  by_cases hp : qe p = []
  ·rw [XR hp] at hq; cases hq
  ·obtain ⟨m,hm,hmk⟩:=(GH hp).1 hd
   rw [X5 hp] at hq
   rcases List.mem_cons.1 hq with rfl | hq
   ·rw [hm]; simp
   ·obtain ⟨g1,g2⟩:=yB hm
    exact up g1 q (by rw [g2]; exact hq)
theorem JR {a b : List Nd} (ha : qX a = true) (hb : qX b = true) : ∀ z ∈ Vf a b,qI z = true:=fun z hz=>by
 rcases (Jx b _ _).1 hz with h | ⟨q,hq,_,rfl | h⟩
 ·cases h
 ·exact QT ha hb hq
 ·exact ancs_ok (QT ha hb hq) h
theorem J0 (a b : List Nd) : (Vf a b).Nodup:=GQ b _ _ List.nodup_nil
theorem Yz {b : List Nd} {ps : List (List UInt8)} {ys : List Rec} (hn : ps.Nodup) (hp : ys.Perm (ps.map (yh b))) (hs : ys.Pairwise fun x y=>ltP y.path x.path = false) : ys = (jy ps).map (yh b):=by
 have hpm : (ys.map (·.path)).Perm ps:=by
  have:=hp.map (·.path)
  rwa [GS] at this
 have hnd : (ys.map (·.path)).Nodup:=(hpm.nodup_iff).2 hn
 have hr : ju (ys.map (·.path)):=by
  have h1 : (ys.map (·.path)).Pairwise fun x y=>ltP y x = false:=List.pairwise_map.2 hs
  exact (h1.and hnd).imp fun {x y} h=>by
   rcases qH (ltP x y) with h2 | h2
   ·exact h2
   ·exact absurd (QS h2 h.1) h.2
 have he : ys.map (·.path) = jy ps:=ju.uniq hr (Qq _) fun z=>by rw [Qg,hpm.mem_iff]
 rw [← he,List.map_map]
 have : ys.map (yh b ∘ fun x=>x.path) = ys.map id:=by
  refine List.map_congr_left fun y hy=>?_
  obtain ⟨p,_,rfl⟩:=List.mem_map.1 (hp.mem_iff.1 hy)
  show yh b (yh b p).path = yh b p
  rw [jO]
 rw [this,List.map_id]
theorem Gl {xs ys : List (List UInt8)} (h : ∀ z,z ∈ xs ↔ z ∈ ys) : jy xs = jy ys:=ju.uniq (Qq _) (Qq _) fun z=>by rw [Qg,Qg,h]
def YH (xs : List Rec) (r : Rec) : List Rec:=if yR xs r.path < 0 then xs ++ [r] else xs
theorem JA {b : List Nd} {ps : List (List UInt8)} {p : List UInt8} : yR (ps.map (yh b)) p < 0 ↔ p ∉ ps:=by
 rw [X9]
 have:=Vh (l:=ps.map (yh b)) (p:=p)
 rw [GS] at this
 exact ⟨fun h hp=>this.2 hp h,fun h=>Classical.byContradiction fun h2=>h (this.1 h2)⟩
theorem Vd {b : List Nd} {ps : List (List UInt8)} (p : List UInt8) : YH (ps.map (yh b)) (yh b p) = (QJ ps p).map (yh b):=by
 unfold YH QJ
 rw [jO]
 by_cases h : p ∈ ps
 ·rw [if_neg (fun h2=>JA.1 h2 h),if_pos h]
 ·rw [if_pos (JA.2 h),if_neg h]; simp
def yl (a : List Nd) (n : Nd) : Bool:=decide (qC a n.path < 0) || !decide (gt a (qC a n.path) = n)
def VD (b : List Nd) (n : Nd) : Bool:=decide (qC b n.path < 0) && yd b (qe n.path)
def Qs (a b : List Nd) : List (List UInt8):=a.filterMap fun n=>if VD b n = true then some n.path else none
theorem Vu {t : List Nd} {p : List UInt8} : qC t p < 0 ↔ vR t p = none:=by
 have h:=(vP t p).1
 constructor
 ·intro h1
  cases hl : vR t p with
  | none=>rfl
  | some r=>exact absurd (h.2 (by rw [hl]; simp)) (by omega)
 ·intro h1
  refine Classical.byContradiction fun h2=>h.1 (by omega) h1
theorem Yy {a : List Nd} {n : Nd} : yl a n = true ↔ vR a n.path ≠ some n:=by
 unfold yl
 rw [Bool.or_eq_true,decide_eq_true_eq,Bool.not_eq_true',decide_eq_false_iff_not]
 cases h : vR a n.path with
 | none=>exact ⟨fun _=>by simp,fun _=>.inl (Vu.2 h)⟩
 | some m=>
  have hg:=(vP a n.path).2 m h
  rw [hg]
  constructor
  ·rintro (h1 | h1)
   ·rw [Vu.1 h1] at h; cases h
   ·exact fun e=>h1 (Option.some.inj e)
  ·exact fun h1=>.inr fun e=>h1 (by rw [e])
def Q5 (a b : List Nd) : List (List UInt8):=b.foldl (fun s n=>if yl a n = true then s ++ [n.path] else s) (Qs a b)
theorem XP (a : List Nd) {q : List UInt8} : ∀ (ns : List Nd) (s : List (List UInt8)),q ∈ ns.foldl (fun s n=>if yl a n = true then s ++ [n.path] else s) s ↔ q ∈ s∨∃ n ∈ ns,yl a n = true∧n.path = q:=by
 intro ns
 induction ns with
 | nil=>intro s; simp
 | cons n ns ih=>
  intro s
  rw [List.foldl_cons,ih]
  by_cases h : yl a n = true
  ·rw [if_pos h,List.mem_append,List.mem_singleton]
   constructor
   ·rintro ((h1 | h1) | ⟨m,hm,h1⟩)
    ·exact .inl h1
    ·exact .inr ⟨n,by simp,h,h1.symm⟩
    ·exact .inr ⟨m,by simp [hm],h1⟩
   ·rintro (h1 | ⟨m,hm,h1,h2⟩)
    ·exact .inl (.inl h1)
    ·rcases List.mem_cons.1 hm with rfl | hm
     ·exact .inl (.inr h2.symm)
     ·exact .inr ⟨m,hm,h1,h2⟩
  ·rw [if_neg h]
   constructor
   ·rintro (h1 | ⟨m,hm,h1⟩)
    ·exact .inl h1
    ·exact .inr ⟨m,by simp [hm],h1⟩
   ·rintro (h1 | ⟨m,hm,h1,h2⟩)
    ·exact .inl h1
    ·rcases List.mem_cons.1 hm with rfl | hm
     ·exact absurd h1 h
     ·exact .inr ⟨m,hm,h1,h2⟩
theorem Yp {a b : List Nd} (ha : qX a = true) (hb : qX b = true) {q : List UInt8} : q ∈ Q5 a b ↔ q ∈ yV a b∧Va b q = true:=by
 have wa:=j0 ha
 have wb:=j0 hb
 rw [Q5,XP,Yx ha hb]
 have hg : q ∈ Qs a b ↔ vR a q ≠ none∧vR b q = none∧yd b (qe q) = true:=by
  unfold Qs
  rw [List.mem_filterMap]
  constructor
  ·rintro ⟨n,hn,h⟩
   split at h
   ·rename_i hc
    obtain rfl:=Option.some.inj h
    unfold VD at hc
    rw [Bool.and_eq_true,decide_eq_true_eq] at hc
    refine ⟨?_,Vu.1 hc.1,hc.2⟩
    rw [Vl wa.rise hn]; simp
   ·cases h
  ·rintro ⟨h1,h2,h3⟩
   cases hl : vR a q with
   | none=>exact absurd hl h1
   | some n=>
    obtain ⟨m1,m2⟩:=yB hl
    refine ⟨n,m1,?_⟩
    have : VD b n = true:=by unfold VD; rw [m2,decide_eq_true (Vu.2 h2),h3]; rfl
    rw [if_pos this,m2]
 have hc : Va b q = true ↔ vR b q ≠ none∨yd b (qe q) = true:=by
  unfold Va
  rw [Bool.not_eq_true',Bool.and_eq_false_iff,decide_eq_false_iff_not,Yr wb,Bool.not_eq_false']
 rw [hg,hc]
 constructor
 ·rintro (⟨h1,h2,h3⟩ | ⟨n,hn,h1,rfl⟩)
  ·exact ⟨by rw [h2]; exact h1,.inr h3⟩
  ·have hl:=Vl wb.rise hn
   exact ⟨by rw [hl]; exact Yy.1 h1,.inl (by rw [hl]; simp)⟩
 ·rintro ⟨h1,h2⟩
  cases hl : vR b q with
  | none=>
   rcases h2 with h2 | h2
   ·exact absurd hl h2
   ·exact .inl ⟨by rw [hl] at h1; exact h1,rfl,h2⟩
  | some n=>
   obtain ⟨m1,m2⟩:=yB hl
   exact .inr ⟨n,m1,Yy.2 (by rw [m2,← hl]; exact h1),m2⟩
theorem XO (a b : List Nd) : (Qs a b).length≤a.length:=List.length_filterMap_le _ _
theorem foldC_len (a : List Nd) : ∀ (ns : List Nd) (s : List (List UInt8)),(ns.foldl (fun s n=>if yl a n = true then s ++ [n.path] else s) s).length≤s.length + ns.length:=by
 intro ns
 induction ns with
 | nil=>intro s; simp
 | cons n ns ih=>
  intro s
  rw [List.foldl_cons]
  have:=ih (if yl a n = true then s ++ [n.path] else s)
  have h2 : (if yl a n = true then s ++ [n.path] else s).length≤s.length + 1:=by split <;> simp
  simp only [List.length_cons]; omega
def yn.sh (a0 : List Nd) (a1 : Nd) : Option (Bool):=
 bif decide (a0.length≤1048576) then (bif (!(!(decide ((qC a0 a1.path) < 0))) || (inR (qC a0 a1.path) a0.length)) then (some ((decide ((qC a0 a1.path) < 0)) || (!decide ((gt a0 (qC a0 a1.path)) = a1)))) else none) else none
theorem yn.eq (a0 : List Nd) (a1 : Nd) (h0 : a0.length≤1048576) : yn.sh a0 a1 = some (yl a0 a1):=by
 unfold yn.sh yl
 by_cases h : qC a0 a1.path < 0
 ·simp [h0,h]
 ·simp [h0,h,Qb h]
def vG.b1 (a0 : List Nd) (a1 : List Nd) : List (List UInt8) × Int→Option (Step (List (List UInt8)) (List (List UInt8) × Int) (List (List UInt8))):=
 fun q=>match q with
 | (x5_7,x6_9)=>bif (decide (x6_9 < (a0.length : Int))) then (bif inR x6_9 a0.length then (bif decide (((gt a0 x6_9).path).length≤4611686018427387904) then (bif decide (a1.length≤1048576) then (bif inR x6_9 a0.length then (bif decide (a1.length≤1048576) then (((bif (decide ((qC a1 ((gt a0 x6_9).path)) < 0)) then (((bif (decide ((qe ((gt a0 x6_9).path)) = ([] : List UInt8))) then some true else (((bif (decide (0≤(qC a1 (qe ((gt a0 x6_9).path))))) then (bif inR (qC a1 (qe ((gt a0 x6_9).path))) a1.length then (some (decide (((gt a1 (qC a1 (qe ((gt a0 x6_9).path)))).kind) = 3))) else none) else some false)).bind fun z49=>some z49))).bind fun z48=>some z48) else some false)).bind fun z47=>bif z47 then (bif inR x6_9 a0.length then (bif decide ((x5_7.length + ([(gt a0 x6_9).path] : List (List UInt8)).length) * 16≤140737488355328) then (some (.nxt (x5_7 ++ ([(gt a0 x6_9).path] : List (List UInt8)),IntKind.wrap .i64 (x6_9 + 1)))) else none) else none) else (some (.nxt (x5_7,IntKind.wrap .i64 (x6_9 + 1))))) else none) else none) else none) else none) else none) else (some (.brk x5_7))
def vG.sh (k : Nat) (a0 : List Nd) (a1 : List Nd) : Option (List (List UInt8)):=
  (ql (vG.b1 a0 a1) k (([] : List (List UInt8)),0)).bind fun z=>match z with | .inl t=>some t | .inr x5_13=>some x5_13
theorem vG.eq (a0 a1 : List Nd) (h0 : qX a0 = true) (h1 : qX a1 = true) : ∃ k,vG.sh k a0 a1 = some (Qs a0 a1):=by
 refine ⟨a0.length + 1,?_⟩
 have l0:=jS h0
 have l1:=jS h1
 have w0:=j0 h0
 unfold vG.sh
 rw [Q6 a0 (fun n=>if VD a1 n = true then some n.path else none) (vG.b1 a0 a1) (fun i hi acc ha=>by
  have hp:=jG (yY (w0.ok _ (List.getElem_mem hi)))
  have e1 : ∀ z : List UInt8,(acc.length + ([z] : List (List UInt8)).length) * 16≤140737488355328:=fun z=>by simp; omega
  have hp2 : a0[i].path.length≤4611686018427387904:=by omega
  have l1' : a1.length≤1048576:=by omega
  simp only [vG.b1,ye,hi,decide_true,cond_true,qW hi,vr,vS hi,e1,vj hi (by omega),hp2,l1']
  by_cases hf : qC a1 a0[i].path < 0
  ·by_cases hq : qe a0[i].path = []
   ·simp [VD,yd,hf,hq]
   ·by_cases hd : 0≤qC a1 (qe a0[i].path)
    ·by_cases hk : (gt a1 (qC a1 (qe a0[i].path))).kind = 3
     ·simp [VD,yd,hf,hq,hd,hk,Qb (t:=a1) (p:=qe a0[i].path) (by omega)]
     ·simp [VD,yd,hf,hq,hd,hk,Qb (t:=a1) (p:=qe a0[i].path) (by omega)]
    ·simp [VD,yd,hf,hq,hd]
  ·simp [VD,hf]) (fun acc=>by simp [vG.b1])]
 rfl
def QE (s : List Rec) (r : Rec) : List Rec:=s.filter (fun x=>!ltP r.path x.path) ++ r :: s.filter (fun x=>ltP r.path x.path)
def G3 (l : List Rec) : List Rec:=l.foldl QE []
def GW (s : List Rec) : Prop:=s.Pairwise fun x y=>ltP y.path x.path = false
theorem VM : ∀ {s : List Rec} {p : List UInt8},GW s→s.filter (fun x=>!ltP p x.path) ++ s.filter (fun x=>ltP p x.path) = s:=by
 intro s p
 induction s with
 | nil=>intro _; rfl
 | cons x s ih=>
  intro h
  obtain ⟨hx1,hs⟩:=List.pairwise_cons.1 h
  rcases qH (ltP p x.path) with hx | hx
  ·have h1 : ∀ y ∈ s,ltP p y.path = true:=fun y hy=>by
    have hyx:=hx1 y hy
    rcases qH (ltP p y.path) with h2 | h2
    ·exact h2
    ·rcases qH (ltP y.path p) with h3 | h3
     ·have:=jc h3 hx
      rw [hyx] at this; cases this
     ·rw [QS h3 h2,hx] at hyx; cases hyx
   have e1 : s.filter (fun y=>!ltP p y.path) = []:=List.filter_eq_nil_iff.2 fun y hy=>by rw [h1 y hy]; simp
   have e2 : s.filter (fun y=>ltP p y.path) = s:=List.filter_eq_self.2 h1
   simp [hx,e1,e2]
  ·have:=ih hs
   simp [hx,this]
theorem GI {s : List Rec} (h : GW s) (r : Rec) : GW (QE s r):=by
 unfold QE
 refine List.pairwise_append.2 ⟨List.Pairwise.filter _ h,List.pairwise_cons.2 ⟨fun y hy=>Vm (List.mem_filter.1 hy).2,List.Pairwise.filter _ h⟩,fun a ha b hb=>?_⟩
 have ha2:=(List.mem_filter.1 ha).2
 have ha3 : ltP r.path a.path = false:=by simpa using ha2
 rcases List.mem_cons.1 hb with rfl | hb
 ·exact ha3
 ·have hb2:=(List.mem_filter.1 hb).2
  rcases qH (ltP b.path a.path) with h1 | h1
  ·rw [jc hb2 h1] at ha3; cases ha3
  ·exact h1
theorem G7 {s : List Rec} (h : GW s) (r : Rec) : (QE s r).Perm (r :: s):=by
 have e:=VM (p:=r.path) h
 unfold QE
 refine List.perm_middle.trans ?_
 rw [e]
theorem JB : ∀ (l s : List Rec),GW s→GW (l.foldl QE s)∧(l.foldl QE s).Perm (l ++ s):=by
 intro l
 induction l with
 | nil=>intro s h; exact ⟨h,List.Perm.refl _⟩
 | cons r l ih=>
  intro s h
  obtain ⟨h1,h2⟩:=ih (QE s r) (GI h r)
  exact ⟨h1,h2.trans (((G7 h r).append_left l).trans List.perm_middle)⟩
theorem Xu (l : List Rec) : (G3 l).Pairwise fun x y=>ltP y.path x.path = false:=(JB l [] List.Pairwise.nil).1
theorem G8 (l : List Rec) : (G3 l).Perm l:=by have:=(JB l [] List.Pairwise.nil).2; rwa [List.append_nil] at this
def qG.b2 (a0 : List Rec) (x3_7 : List Rec) (x4_9 : Int) : Int→Option (Step (Step (List Rec) (List Rec × Int) (List Rec)) (Int) (Int)):=
 fun x5_31=>bif (!(decide (0 < x5_31)) || (inR x4_9 a0.length)) then (bif (!(decide (0 < x5_31)) || (inR (IntKind.wrap .i64 (x5_31 - 1)) x3_7.length)) then (bif (!(decide (0 < x5_31)) || (decide (((gt a0 x4_9).path).length≤1048576))) then (bif (!(decide (0 < x5_31)) || (decide (((gt x3_7 (IntKind.wrap .i64 (x5_31 - 1))).path).length≤1048576))) then (bif ((decide (0 < x5_31)) && (vC (cut 47 ((gt a0 x4_9).path)) (cut 47 ((gt x3_7 (IntKind.wrap .i64 (x5_31 - 1))).path)))) then (some (.nxt (IntKind.wrap .i64 (x5_31 - 1)))) else (some (.brk x5_31))) else none) else none) else none) else none
def qG.b1 (k : Nat) (a0 : List Rec) : List Rec × Int→Option (Step (List Rec) (List Rec × Int) (List Rec)):=
  fun q=>match q with
  | (x3_7,x4_9)=>bif (decide (x4_9 < (a0.length : Int))) then ((ql (qG.b2 a0 x3_7 x4_9) k (x3_7.length : Int)).bind fun z=>match z with | .inl t=>some t | .inr x5_35=>bif inS 0 x5_35 (x3_7.length : Int) then (bif decide ((([] : List Rec).length + (sub x3_7 0 x5_35).length) * 56≤140737488355328) then (bif inR x4_9 a0.length then (bif decide (((([] : List Rec) ++ (sub x3_7 0 x5_35)).length + ([gt a0 x4_9] : List Rec).length) * 56≤140737488355328) then (bif inS x5_35 (x3_7.length : Int) (x3_7.length : Int) then (bif decide ((((([] : List Rec) ++ (sub x3_7 0 x5_35)) ++ ([gt a0 x4_9] : List Rec)).length + (sub x3_7 x5_35 (x3_7.length : Int)).length) * 56≤140737488355328) then (some (.nxt (((([] : List Rec) ++ (sub x3_7 0 x5_35)) ++ ([gt a0 x4_9] : List Rec)) ++ (sub x3_7 x5_35 (x3_7.length : Int)),IntKind.wrap .i64 (x4_9 + 1)))) else none) else none) else none) else none) else none) else none) else (some (.brk x3_7))
def qG.sh (k : Nat) (a0 : List Rec) : Option (List Rec):=
  (ql (qG.b1 k a0) k (([] : List Rec),0)).bind fun z=>match z with | .inl t=>some t | .inr x3_13=>some x3_13
theorem l08_scan {a0 s : List Rec} {i : Nat} {K : Nat} (hi : i < a0.length) (hI : GW s) (hs1 : s.length≤100000) (hsp : ∀ x ∈ s,x.path.length≤1048576) (hp : (gt a0 (i : Int)).path.length≤1048576) (hK : s.length < K) :
  ql (qG.b2 a0 s (i : Int)) K (s.length : Int) = some (.inr (((s.filter fun x=>!ltP (gt a0 (i : Int)).path x.path).length : Nat) : Int)):=by
 obtain ⟨p,hpe⟩ : ∃ p,(gt a0 (i : Int)).path = p:=⟨_,rfl⟩
 have hs:=VM (p:=p) hI
 have key : ∀ (d n k : Nat),n = (s.filter fun x=>!ltP p x.path).length + d→n≤s.length→d < k→ql (qG.b2 a0 s (i : Int)) k (n : Int) = some (.inr (((s.filter fun x=>!ltP p x.path).length : Nat) : Int)):=by
  intro d
  induction d with
  | zero=>
   intro n k hn hle hk
   obtain ⟨k,rfl⟩ : ∃ m,k = m + 1:=⟨k - 1,by omega⟩
   have hn : n = (s.filter fun x=>!ltP p x.path).length:=by omega
   rw [ql,← hn]
   cases n with
   | zero=>
    simp only [qG.b2]; rfl
   | succ m=>
    have e1 : IntKind.wrap .i64 (((m + 1 : Nat) : Int) - 1) = (m : Int):=by rw [wrap_small (by omega) (by omega)]; omega
    have hmem : gt s (m : Int) ∈ s.filter fun x=>!ltP p x.path:=by
     have:=gt_left (A:=s.filter fun x=>!ltP p x.path) (B:=s.filter fun x=>ltP p x.path) (m:=m) (by omega)
     rwa [hs] at this
    obtain ⟨m1,m2⟩:=List.mem_filter.1 hmem
    have m2' : vC (cut 47 p) (cut 47 (gt s (m : Int)).path) = false:=by
     have : ltP p (gt s (m : Int)).path = false:=by simpa using m2
     exact this
    have d1 : decide ((0 : Int) < ((m + 1 : Nat) : Int)) = true:=decide_eq_true (by omega)
    rw [hpe] at hp
    simp only [qG.b2,d1,e1,qW hi,qW (show m < s.length by omega),hpe,decide_eq_true hp,decide_eq_true (hsp _ m1),m2',Bool.not_true,Bool.false_or,Bool.true_and,cond_true,Option.bind_some,cond_false]
  | succ d ih=>
   intro n k hn hle hk
   obtain ⟨k,rfl⟩ : ∃ m,k = m + 1:=⟨k - 1,by omega⟩
   obtain ⟨m,rfl⟩ : ∃ m,n = m + 1:=⟨n - 1,by omega⟩
   have e1 : IntKind.wrap .i64 (((m + 1 : Nat) : Int) - 1) = (m : Int):=by rw [wrap_small (by omega) (by omega)]; omega
   have hmem : gt s (m : Int) ∈ s.filter fun x=>ltP p x.path:=by
    have:=gt_right (A:=s.filter fun x=>!ltP p x.path) (B:=s.filter fun x=>ltP p x.path) (m:=m) (by omega) (by rw [hs]; omega)
    rwa [hs] at this
   obtain ⟨m1,m2⟩:=List.mem_filter.1 hmem
   have m2' : vC (cut 47 p) (cut 47 (gt s (m : Int)).path) = true:=m2
   have d1 : decide ((0 : Int) < ((m + 1 : Nat) : Int)) = true:=decide_eq_true (by omega)
   have hp':=hp
   rw [hpe] at hp'
   rw [ql]
   simp only [qG.b2,d1,e1,qW hi,qW (show m < s.length by omega),hpe,decide_eq_true hp',decide_eq_true (hsp _ m1),m2',Bool.not_true,Bool.false_or,Bool.true_and,cond_true,Option.bind_some]
   exact ih m k (by omega) (by omega) (by omega)
 rw [hpe]
 have hlen:=congrArg List.length hs
 rw [List.length_append] at hlen
 exact key (s.filter fun x=>ltP p x.path).length s.length K (by omega) (Nat.le_refl _) (by omega)
theorem qG.eq (a0 : List Rec) (h0 : a0.length≤100000) (h1 : ∀ x ∈ a0,x.path.length≤1048576) : ∃ k,qG.sh k a0 = some (G3 a0):=by
 refine ⟨a0.length + 1,?_⟩
 unfold qG.sh
 have hr:=VO a0 QE (fun i s=>GW s∧s.length = i∧∀ x ∈ s,x.path.length≤1048576) (qG.b1 (a0.length + 1) a0) (a0.length + 1) (by omega) (fun i s hi hI=>by
  obtain ⟨hw,hl,hp⟩:=hI
  have hx : (gt a0 (i : Int)).path.length≤1048576:=h1 _ (by rw [vr,vS hi]; exact List.getElem_mem hi)
  have hpm:=G7 hw (gt a0 (i : Int))
  refine ⟨?_,GI hw _,by rw [hpm.length_eq,List.length_cons]; omega,fun x hx2=>?_⟩
  ·have hsc:=l08_scan (K:=a0.length + 1) hi hw (by omega) hp hx (by omega)
   have hii:=qW hi
   obtain ⟨r,hre⟩ : ∃ r,gt a0 (i : Int) = r:=⟨_,rfl⟩
   have d1 : decide ((i : Int) < (a0.length : Int)) = true:=decide_eq_true (by omega)
   have w1 : IntKind.wrap .i64 ((i : Int) + 1) = ((i + 1 : Nat) : Int):=by rw [wrap_small (by omega) (by omega)]; omega
   have hs:=VM (p:=r.path) hw
   have hlen:=congrArg List.length hs
   rw [List.length_append] at hlen
   have t1 : sub s 0 (((s.filter fun x=>!ltP r.path x.path).length : Nat) : Int) = s.filter fun x=>!ltP r.path x.path:=by
    rw [show (0 : Int) = ((0 : Nat) : Int) from rfl,YM,List.drop_zero]
    conv=>lhs; rw [← hs]
    simp
   have t2 : sub s (((s.filter fun x=>!ltP r.path x.path).length : Nat) : Int) (s.length : Int) = s.filter fun x=>ltP r.path x.path:=by
    rw [YM,List.take_length]
    conv=>lhs; rw [← hs]
    simp
   have i1 : inS 0 (((s.filter fun x=>!ltP r.path x.path).length : Nat) : Int) (s.length : Int) = true:=Vc (by omega) (by omega) (by omega)
   have i2 : inS (((s.filter fun x=>!ltP r.path x.path).length : Nat) : Int) (s.length : Int) (s.length : Int) = true:=Vc (by omega) (by omega) (by omega)
   have n1 : decide ((([] : List Rec).length + (s.filter fun x=>!ltP r.path x.path).length) * 56≤140737488355328) = true:=decide_eq_true (by simp only [List.length_nil]; omega)
   have n2 : decide (((([] : List Rec) ++ s.filter fun x=>!ltP r.path x.path).length + ([r] : List Rec).length) * 56≤140737488355328) = true:=decide_eq_true (by simp only [List.nil_append,List.length_cons,List.length_nil]; omega)
   have n3 : decide (((([] : List Rec) ++ (s.filter fun x=>!ltP r.path x.path) ++ ([r] : List Rec)).length + (s.filter fun x=>ltP r.path x.path).length) * 56≤140737488355328) = true:=decide_eq_true (by simp only [List.nil_append,List.length_append,List.length_cons,List.length_nil]; omega)
   rw [hre] at hsc
   simp only [qG.b1,d1,hii,hsc,hre,cond_true,Option.bind_some,w1,i1,i2,t1,t2,n1,n2,n3]
   simp [QE]
  ·rcases List.mem_cons.1 (hpm.mem_iff.1 hx2) with rfl | h
   ·exact hx
   ·exact hp _ h) (fun s=>by simp [qG.b1]) [] ⟨List.Pairwise.nil,rfl,by simp⟩
 rw [hr.1]; rfl
def stS (ps : List (List UInt8)) (q : List UInt8) : List (List UInt8):=yU ps (q :: yv q)
def Yj (a b : List Nd) : List (List UInt8):=(Q5 a b).foldl stS []
theorem foldS_mem {z : List UInt8} : ∀ (qs ps : List (List UInt8)),z ∈ qs.foldl stS ps ↔ z ∈ ps∨∃ q ∈ qs,z = q∨z ∈ yv q:=by
 intro qs
 induction qs with
 | nil=>intro ps; simp
 | cons q qs ih=>
  intro ps
  rw [List.foldl_cons,ih]
  unfold stS
  rw [Y6,List.mem_cons]
  constructor
  ·rintro ((h | h) | ⟨x,hx,h⟩)
   ·exact .inl h
   ·exact .inr ⟨q,by simp,h⟩
   ·exact .inr ⟨x,by simp [hx],h⟩
  ·rintro (h | ⟨x,hx,h⟩)
   ·exact .inl (.inl h)
   ·rcases List.mem_cons.1 hx with rfl | hx
    ·exact .inl (.inr h)
    ·exact .inr ⟨x,hx,h⟩
theorem GN : ∀ (qs ps : List (List UInt8)),ps.Nodup→(qs.foldl stS ps).Nodup:=by
 intro qs
 induction qs with
 | nil=>intro ps h; exact h
 | cons q qs ih=>intro ps h; exact ih _ (V6 _ _ h)
theorem Y4 {a b : List Nd} (ha : qX a = true) (hb : qX b = true) (z : List UInt8) : z ∈ Yj a b ↔ z ∈ Vf a b:=by
 unfold Yj Vf
 rw [foldS_mem,Jx]
 constructor
 ·rintro (h | ⟨q,hq,h⟩)
  ·cases h
  ·obtain ⟨h1,h2⟩:=(Yp ha hb).1 hq
   exact .inr ⟨q,h1,h2,h⟩
 ·rintro (h | ⟨q,hq,h2,h⟩)
  ·cases h
  ·exact .inr ⟨q,(Yp ha hb).2 ⟨hq,h2⟩,h⟩
def Xh (b : List Nd) (s : List Rec) (q : List UInt8) : List Rec:=(q :: yv q).foldl (fun s p=>YH s (yh b p)) s
theorem Xw (b : List Nd) : ∀ (qs ps : List (List UInt8)),qs.foldl (fun s p=>YH s (yh b p)) (ps.map (yh b)) = (yU ps qs).map (yh b):=by
 intro qs
 induction qs with
 | nil=>intro ps; rfl
 | cons q qs ih=>intro ps; rw [List.foldl_cons,Vd,ih]; rfl
theorem VK (b : List Nd) (ps : List (List UInt8)) (q : List UInt8) : Xh b (ps.map (yh b)) q = (stS ps q).map (yh b):=Xw b _ ps
theorem foldQ_map (b : List Nd) : ∀ (qs ps : List (List UInt8)),qs.foldl (Xh b) (ps.map (yh b)) = (qs.foldl stS ps).map (yh b):=by
 intro qs
 induction qs with
 | nil=>intro ps; rfl
 | cons q qs ih=>intro ps; rw [List.foldl_cons,VK,ih]; rfl
theorem stS_len {ps : List (List UInt8)} {q : List UInt8} (h : qI q = true) : (stS ps q).length≤ps.length + 37:=by
 have h1:=Q0 (q :: yv q) ps
 have h2:=G5 q
 have h3:=jQ h
 unfold stS
 simp only [List.length_cons] at h1; omega
def qt.b1 (a0 : List Nd) (a1 : List Nd) : List (List UInt8) × Int→Option (Step (List Rec) (List (List UInt8) × Int) (List (List UInt8))):=
 fun q=>match q with
 | (x6_19,x7_21)=>bif (decide (x7_21 < (a1.length : Int))) then (bif inR x7_21 a1.length then (bif decide (a0.length≤1048576) then (bif (yl a0 (gt a1 x7_21)) then (bif inR x7_21 a1.length then (bif decide ((x6_19.length + ([(gt a1 x7_21).path] : List (List UInt8)).length) * 16≤140737488355328) then (some (.nxt (x6_19 ++ ([(gt a1 x7_21).path] : List (List UInt8)),IntKind.wrap .i64 (x7_21 + 1)))) else none) else none) else (some (.nxt (x6_19,IntKind.wrap .i64 (x7_21 + 1))))) else none) else none) else (some (.brk x6_19))
def qt.b3 (a1 : List Nd) : List Rec × List UInt8→Option (Step (Step (List Rec) (List Rec × Int) (List Rec)) (List Rec × List UInt8) (List Rec)):=
 fun q=>match q with
 | (x8_101,x10_103)=>bif (!decide (x10_103 = ([] : List UInt8))) then (bif decide (x8_101.length≤1048576) then (bif (decide (0≤(yR x8_101 x10_103))) then (bif decide (x10_103.length≤4611686018427387904) then (some (.nxt (x8_101,(qe x10_103)))) else none) else (bif decide (a1.length≤1048576) then (bif (decide (0≤(qC a1 x10_103))) then (bif inR (qC a1 x10_103) a1.length then (bif decide ((x8_101.length + ([(qM (gt a1 (qC a1 x10_103)))] : List Rec).length) * 56≤140737488355328) then (bif decide (x10_103.length≤4611686018427387904) then (some (.nxt (x8_101 ++ ([(qM (gt a1 (qC a1 x10_103)))] : List Rec),(qe x10_103)))) else none) else none) else none) else (bif decide ((x8_101.length + ([(⟨4,x10_103,([] : List UInt8),0,false⟩ : Rec)] : List Rec).length) * 56≤140737488355328) then (bif decide (x10_103.length≤4611686018427387904) then (some (.nxt (x8_101 ++ ([(⟨4,x10_103,([] : List UInt8),0,false⟩ : Rec)] : List Rec),(qe x10_103)))) else none) else none)) else none)) else none) else (some (.brk x8_101))
def qt.b2 (k : Nat) (a1 : List Nd) (x6_25 : List (List UInt8)) : List Rec × Int→Option (Step (List Rec) (List Rec × Int) (List Rec)):=
  fun q=>match q with
  | (x8_74,x9_76)=>bif (decide (x9_76 < (x6_25.length : Int))) then (bif inR x9_76 x6_25.length then ((ql (qt.b3 a1) k (x8_74,gt x6_25 x9_76)).bind fun z=>match z with | .inl t=>some t | .inr x8_107=>some (.nxt (x8_107,IntKind.wrap .i64 (x9_76 + 1)))) else none) else (some (.brk x8_74))
def qt.sh (k : Nat) (a0 : List Nd) (a1 : List Nd) : Option (List Rec):=
  bif decide (qX a0 = true) then (bif decide (qX a1 = true) then (bif decide ((([] : List (List UInt8)).length + (Qs a0 a1).length) * 16≤140737488355328) then ((ql (qt.b1 a0 a1) k (([] : List (List UInt8)) ++ (Qs a0 a1),0)).bind fun z=>match z with | .inl t=>some t | .inr x6_25=>(ql (qt.b2 k a1 x6_25) k (([] : List Rec),0)).bind fun z=>match z with | .inl t=>some t | .inr x8_80=>bif decide (x8_80.length≤100000) then (bif decide (∀ x ∈ x8_80,x.path.length≤1048576) then (some (G3 x8_80)) else none) else none) else none) else none) else none
theorem l08_up {b : List Nd} (hb : b.length≤1048576) : ∀ (n : Nat) (p : List UInt8) (ps : List (List UInt8)) (K : Nat),p.length≤n→n < K→n≤1048576→ps.length + n≤1000000→
  ql (qt.b3 b) K (ps.map (yh b),p) = some (.inr ((if p = [] then ps else stS ps p).map (yh b))):=by
 intro n
 induction n with
 | zero=>
  intro p ps K hp hK _ _
  obtain ⟨K,rfl⟩ : ∃ m,K = m + 1:=⟨K - 1,by omega⟩
  obtain rfl : p = []:=List.eq_nil_of_length_eq_zero (by omega)
  rw [ql]; simp [qt.b3]
 | succ n ih=>
  intro p ps K hp hK hn hps
  obtain ⟨K,rfl⟩ : ∃ m,K = m + 1:=⟨K - 1,by omega⟩
  by_cases h0 : p = []
  ·subst h0
   rw [ql]; simp [qt.b3]
  ·have hlt:=jl h0
   have hiu:=GD ps p
   have hI:=ih (qe p) (QJ ps p) K (by omega) (by omega) (by omega) (by omega)
   have hfin : (if qe p = [] then QJ ps p else stS (QJ ps p) (qe p)) = stS ps p:=by
    unfold stS
    rw [show yU ps (p :: yv p) = yU (QJ ps p) (yv p) from rfl,y4 p]
    by_cases h1 : qe p = []
    ·rw [if_pos h1,if_pos h1]; rfl
    ·rw [if_neg h1,if_neg h1]
   rw [hfin] at hI
   rw [if_neg h0]
   have hpu:=Vd (b:=b) (ps:=ps) p
   have hpl : p.length≤4611686018427387904:=by omega
   have hsl : (ps.map (yh b)).length≤1048576:=by rw [List.length_map]; omega
   have e1 : ∀ z : Rec,decide (((ps.map (yh b)).length + ([z] : List Rec).length) * 56≤140737488355328) = true:=fun z=>decide_eq_true (by rw [List.length_map]; simp; omega)
   rw [ql]
   by_cases hf : yR (ps.map (yh b)) p < 0
   ·have hf2 : ¬ 0≤yR (ps.map (yh b)) p:=by omega
    have hst : qt.b3 b (ps.map (yh b),p) = some (.nxt ((QJ ps p).map (yh b),qe p)):=by
     rw [← hpu]
     unfold YH
     rw [jO,if_pos hf]
     by_cases hg : 0≤qC b p
     ·have hin:=Qb (t:=b) (p:=p) (by omega)
      have hr : yh b p = qM (gt b (qC b p)):=by
       unfold yh
       cases hl : vR b p with
       | none=>exact absurd hl ((vP b p).1.1 hg)
       | some m=>rw [(vP b p).2 m hl]
      simp only [qt.b3,h0,hf2,hg,hin,hb,hpl,hsl,e1,hr,decide_true,decide_false,Bool.not_false,cond_true,cond_false]
     ·have hr : yh b p = ⟨4,p,[],0,false⟩:=by
       unfold yh
       cases hl : vR b p with
       | none=>rfl
       | some m=>exact absurd ((vP b p).1.2 (by rw [hl]; simp)) hg
      simp only [qt.b3,h0,hf2,hg,hb,hpl,hsl,e1,hr,decide_true,decide_false,Bool.not_false,cond_true,cond_false]
    rw [hst]; exact hI
   ·have hf2 : 0≤yR (ps.map (yh b)) p:=by omega
    have hst : qt.b3 b (ps.map (yh b),p) = some (.nxt ((QJ ps p).map (yh b),qe p)):=by
     rw [← hpu]
     unfold YH
     rw [jO,if_neg hf]
     simp only [qt.b3,h0,hf2,hpl,hsl,decide_true,decide_false,Bool.not_false,cond_true]
    rw [hst]; exact hI
theorem qt.eq (a0 a1 : List Nd) (h0 : qX a0 = true) (h1 : qX a1 = true) : ∃ k,qt.sh k a0 a1 = some (yD a0 a1):=by
 refine ⟨1000,?_⟩
 have l0:=jS h0
 have l1:=jS h1
 have lg:=XO a0 a1
 unfold qt.sh
 have n0 : decide ((([] : List (List UInt8)).length + (Qs a0 a1).length) * 16≤140737488355328) = true:=decide_eq_true (by simp only [List.length_nil]; omega)
 have hr1:=VO a1 (fun s n=>if yl a0 n = true then s ++ [n.path] else s) (fun i s=>s.length≤24 + i) (qt.b1 a0 a1) 1000 (by omega) (fun i s hi hI=>by
  have d1 : decide ((i : Int) < (a1.length : Int)) = true:=decide_eq_true (by omega)
  have w1 : IntKind.wrap .i64 ((i : Int) + 1) = ((i + 1 : Nat) : Int):=by rw [wrap_small (by omega) (by omega)]; omega
  have l0' : a0.length≤1048576:=by omega
  have e1 : ∀ z : List UInt8,decide ((s.length + ([z] : List (List UInt8)).length) * 16≤140737488355328) = true:=fun z=>decide_eq_true (by simp; omega)
  rcases qH (yl a0 (gt a1 (i : Int))) with hc | hc
  ·refine ⟨?_,by simp only [hc,if_true,List.length_append,List.length_cons,List.length_nil]; omega⟩
   simp only [qt.b1,d1,w1,qW hi,decide_eq_true l0',hc,e1,cond_true,if_true]
  ·refine ⟨?_,by simp only [hc,Bool.false_eq_true,if_false]; omega⟩
   simp only [qt.b1,d1,w1,qW hi,decide_eq_true l0',hc,cond_true,cond_false,Bool.false_eq_true,if_false]) (fun s=>by simp [qt.b1]) (Qs a0 a1) (by omega)
 have hneed : (a1.foldl (fun s n=>if yl a0 n = true then s ++ [n.path] else s) (Qs a0 a1)) = Q5 a0 a1:=rfl
 have hnl:=foldC_len a0 a1 (Qs a0 a1)
 rw [hneed] at hr1 hnl
 have hok : ∀ q ∈ Q5 a0 a1,qI q = true:=fun q hq=>QT h0 h1 ((Yp h0 h1).1 hq).1
 have hr2:=VO (Q5 a0 a1) (Xh a1) (fun i s=>∃ ps : List (List UInt8),s = ps.map (yh a1)∧ps.length≤37 * i) (qt.b2 1000 a1 (Q5 a0 a1)) 1000 (by omega) (fun i s hi hI=>by
  obtain ⟨ps,rfl,hl⟩:=hI
  have hq:=hok (gt (Q5 a0 a1) (i : Int)) (by rw [vr,vS hi]; exact List.getElem_mem hi)
  have hqn:=pathOK_ne hq
  have hql:=jQ hq
  have d1 : decide ((i : Int) < ((Q5 a0 a1).length : Int)) = true:=decide_eq_true (by omega)
  have w1 : IntKind.wrap .i64 ((i : Int) + 1) = ((i + 1 : Nat) : Int):=by rw [wrap_small (by omega) (by omega)]; omega
  have hu:=l08_up (b:=a1) (by omega) 36 (gt (Q5 a0 a1) (i : Int)) ps 1000 (by omega) (by omega) (by omega) (by omega)
  rw [if_neg hqn] at hu
  refine ⟨?_,_,VK a1 ps _,by have:=stS_len (ps:=ps) hq; omega⟩
  rw [VK]
  simp only [qt.b2,d1,w1,qW hi,hu,cond_true,Option.bind_some]) (fun s=>by simp [qt.b2]) [] ⟨[],rfl,by simp⟩
 have hfq:=foldQ_map a1 (Q5 a0 a1) []
 rw [List.map_nil] at hfq
 rw [hfq,show (Q5 a0 a1).foldl stS [] = Yj a0 a1 from rfl] at hr2
 obtain ⟨hr2,ps,he,hl⟩:=hr2
 have hle:=congrArg List.length he
 simp only [List.length_map] at hle
 have b1 : decide (((Yj a0 a1).map (yh a1)).length≤100000) = true:=decide_eq_true (by rw [List.length_map]; omega)
 have b2 : decide (∀ x ∈ (Yj a0 a1).map (yh a1),x.path.length≤1048576) = true:=decide_eq_true fun x hx=>by
  obtain ⟨p,hp,rfl⟩:=List.mem_map.1 hx
  rw [jO]
  exact jG (JR h0 h1 p ((Y4 h0 h1 p).1 hp))
 simp only [h0,h1,decide_true,n0,cond_true,List.nil_append,hr1.1,hr2,Option.bind_some,b1,b2]
 have e:=Yz (b:=a1) (ps:=Yj a0 a1) (GN _ _ List.nodup_nil) (G8 _) (Xu _)
 rw [e,Gl (Y4 h0 h1)]
 rfl
def vt.sh (a0 : List Nd) (a1 : List Nd) : Option (List Rec × Int):=
 bif ((decide (4096 < (a0.length : Int))) || (decide (4096 < (a1.length : Int)))) then (some (([] : List Rec),2)) else (bif decide (∀ x ∈ a0,x.path.length≤1048576) then (bif decide (∀ x ∈ a1,x.path.length≤1048576) then (bif (!decide ((treesCode a0 a1) = 0)) then (some (([] : List Rec),(treesCode a0 a1))) else (bif decide (qX a0 = true) then (bif decide (qX a1 = true) then (bif (decide (16 < ((yD a0 a1).length : Int))) then (some (([] : List Rec),6)) else (some ((yD a0 a1),0))) else none) else none)) else none) else none)
theorem vt.eq (a0 a1 : List Nd) (h0 : a0.length≤1048576) (h1 : a1.length≤1048576) (h2 : ∀ x ∈ a0,x.path.length≤1048576) (h3 : ∀ x ∈ a1,x.path.length≤1048576) : vt.sh a0 a1 = some ((qb a0 a1).1,(qb a0 a1).2):=by
 unfold vt.sh qb
 rw [Vy]
 by_cases h : (decide (4096 < a0.length) || decide (4096 < a1.length)) = true
 ·have : treesCode a0 a1 = 2:=by simp only [treesCode,h,if_true]
  simp only [h,cond_true,this]; rfl
 ·simp only [h,cond_false,decide_eq_true h2,decide_eq_true h3,cond_true]
  by_cases hc : treesCode a0 a1 = 0
  ·obtain ⟨ha,hb⟩:=Vj hc
   have e16 : decide ((16 : Int) < ((yD a0 a1).length : Int)) = decide (16 < (yD a0 a1).length):=decide_eq_decide.2 (by omega)
   simp only [hc,if_true,decide_true,Bool.not_true,cond_false,ha,hb,cond_true,e16]
   unfold jw
   by_cases h16 : 16 < (yD a0 a1).length <;> simp [h16]
  ·simp [hc]
def vk.sh (a0 : List Nd) (a1 : List Nd) : Option (List Rec × Int):=
 bif decide (a0.length≤1048576) then (bif decide (a1.length≤1048576) then (bif decide (∀ x ∈ a0,x.path.length≤1048576) then (bif decide (∀ x ∈ a1,x.path.length≤1048576) then (bif (!decide ((treesCode a0 a1) = 0)) then (some ([],(treesCode a0 a1))) else (bif decide (qX a0 = true) then (bif decide (qX a1 = true) then (some ((jw a0 a1).1,(jw a0 a1).2)) else none) else none)) else none) else none) else none) else none
theorem vk.eq (a0 a1 : List Nd) (h0 : a0.length≤1048576) (h1 : a1.length≤1048576) (h2 : ∀ x ∈ a0,x.path.length≤1048576) (h3 : ∀ x ∈ a1,x.path.length≤1048576) : vk.sh a0 a1 = some ((qb a0 a1).1,(qb a0 a1).2):=by
 unfold vk.sh qb
 by_cases h : treesCode a0 a1 = 0
 ·obtain ⟨ha,hb⟩:=Vj h
  simp [h0,h1,decide_eq_true h2,decide_eq_true h3,h,ha,hb]
 ·simp [h0,h1,decide_eq_true h2,decide_eq_true h3,h]
theorem Yu (a b : List Nd) : (qb a b).1.length≤16:=by
 unfold qb jw
 split
 ·split
  ·simp
  ·simp only; omega
 ·simp
def law_LayerBetween.sh (a0 : List Nd) (a1 : List Nd) : Option (Bool):=
 bif decide ((0 : Int)≤1048576) then (bif decide ((1048576 : Int)≤1048576) then (bif decide (a0.length≤9223372036854775807) then (bif decide (∀ x ∈ a0,YG x) then (bif (decide ((yX a0 1048576) < 0)) then (some true) else (bif decide ((0 : Int)≤(yX a0 1048576)) then (bif decide (((yX a0 1048576) : Int)≤1048576) then (bif decide (a1.length≤9223372036854775807) then (bif decide (∀ x ∈ a1,YG x) then (bif (decide ((yX a1 (yX a0 1048576)) < 0)) then (some true) else (bif decide (a0.length≤1048576) then (bif decide (a1.length≤1048576) then (bif decide (a0.length≤1048576) then (bif decide (a1.length≤1048576) then (bif decide (∀ x ∈ a0,x.path.length≤1048576) then (bif decide (∀ x ∈ a1,x.path.length≤1048576) then (bif decide (a0.length≤1048576) then (bif decide (a1.length≤1048576) then (bif decide (a0.length≤1048576) then (bif decide (a1.length≤1048576) then (bif decide (∀ x ∈ a0,x.path.length≤1048576) then (bif decide (∀ x ∈ a1,x.path.length≤1048576) then (bif decide (((qb a0 a1).1).length≤4611686018427387904) then (bif ((!(decide (((qb a0 a1).1) = ((qb a0 a1).1)))) || (!decide (((qb a0 a1).2) = ((qb a0 a1).2)))) then (some false) else (bif decide (a0.length≤1048576) then (bif decide (a0.length≤4611686018427387904) then (bif (!(decide (a0 = a0))) then (some false) else (bif decide (a1.length≤1048576) then (bif decide (a1.length≤4611686018427387904) then (bif (!(decide (a1 = a1))) then (some false) else (bif decide (a0.length≤1152921504606846976) then (bif decide ((0 : Int)≤1) then (bif decide ((1 : Int)≤4611686018427387904 - 4 * (a0.length : Int)) then (bif decide (a1.length≤1152921504606846976) then (bif decide ((0 : Int)≤(1 + 4 * (a0.length : Int))) then (bif decide (((1 + 4 * (a0.length : Int)) : Int)≤4611686018427387904 - 4 * (a1.length : Int)) then (((bif (decide (((1 + 4 * (a0.length : Int)) + 4 * (a1.length : Int)) < 0)) then some true else (bif decide (((qb a0 a1).1).length≤4611686018427387904) then (some (!(decide (((qb a0 a1).1) = ((qb a0 a1).1))))) else none))).bind fun z92=>bif (z92 || (!decide (((qb a0 a1).2) = ((qb a0 a1).2)))) then (some false) else (bif decide (((qb a0 a1).1).length≤576460752303423488) then (bif decide ((0 : Int)≤1) then (bif decide ((1 : Int)≤4611686018427387904 - 5 * (((qb a0 a1).1).length : Int)) then (bif decide ((yp ((qb a0 a1).1).length 1).length≤576460752303423488) then (bif decide ((0 : Int)≤1) then (bif decide ((1 : Int)≤4611686018427387904 - 5 * ((yp ((qb a0 a1).1).length 1).length : Int)) then (bif (decide ((j6 (yp ((qb a0 a1).1).length 1) 1) < 0)) then (some false) else (bif (!decide ((j6 (yp ((qb a0 a1).1).length 1) 1) = (1 + 5 * (((qb a0 a1).1).length : Int)))) then (some false) else (bif decide (a0.length≤1048576) then (bif decide (a1.length≤1048576) then (bif decide (a0.length≤1048576) then (bif decide (a1.length≤1048576) then (bif decide (∀ x ∈ a0,x.path.length≤1048576) then (bif decide (∀ x ∈ a1,x.path.length≤1048576) then (bif decide (((qb a0 a1).1).length≤4611686018427387904) then (bif ((!(decide (((qb a0 a1).1) = ((qb a0 a1).1)))) || (!decide (((qb a0 a1).2) = ((qb a0 a1).2)))) then (some false) else (bif decide ((yp ((qb a0 a1).1).length 1).length≤576460752303423488) then (bif decide ((0 : Int)≤1) then (bif decide ((1 : Int)≤4611686018427387904 - 5 * ((yp ((qb a0 a1).1).length 1).length : Int)) then (bif (decide ((j6 (yp ((qb a0 a1).1).length 1) 1) < 0)) then (some false) else (bif (!decide ((j6 (yp ((qb a0 a1).1).length 1) 1) = (1 + 5 * (((qb a0 a1).1).length : Int)))) then (some false) else (some true))) else none) else none) else none)) else none) else none) else none) else none) else none) else none) else none))) else none) else none) else none) else none) else none) else none)) else none) else none) else none) else none) else none) else none)) else none) else none)) else none) else none)) else none) else none) else none) else none) else none) else none) else none) else none) else none) else none) else none) else none) else none)) else none) else none) else none) else none)) else none) else none) else none) else none
theorem law_LayerBetween.eq (a0 a1 : List Nd) (h2 : ∀ x ∈ a0,YG x) (h3 : a0.length≤9223372036854775807) (h4 : ∀ x ∈ a1,YG x) (h5 : a1.length≤9223372036854775807) : law_LayerBetween.sh a0 a1 = some true:=by
 unfold law_LayerBetween.sh
 by_cases hs : yX a0 1048576 < 0
 ·simp [h3,decide_eq_true h2,hs]
 ·obtain ⟨k1,k2,_,k4,k5⟩:=szN_of hs (by omega) (by omega)
  by_cases ht : yX a1 (yX a0 1048576) < 0
  ·simp [h3,h5,decide_eq_true h2,decide_eq_true h4,hs,ht,k4,k5]
  ·obtain ⟨m1,m2,_,m4,m5⟩:=szN_of ht k4 k5
   have hl:=Yu a0 a1
   have b1 : a0.length≤4611686018427387904:=by omega
   have b1' : a1.length≤4611686018427387904:=by omega
   have b2 : (qb a0 a1).1.length≤4611686018427387904:=by omega
   have b2' : (qb a0 a1).1.length≤576460752303423488:=by omega
   have b3 : a0.length≤1152921504606846976:=by omega
   have b3' : a1.length≤1152921504606846976:=by omega
   have b4 : (1 : Int)≤4611686018427387904 - 4 * (a0.length : Int):=by omega
   have b5 : (0 : Int)≤1 + 4 * (a0.length : Int):=by omega
   have b6 : (1 + 4 * (a0.length : Int))≤4611686018427387904 - 4 * (a1.length : Int):=by omega
   have b7 : ¬ (1 + 4 * (a0.length : Int) + 4 * (a1.length : Int)) < 0:=by omega
   have b8 : (1 : Int)≤4611686018427387904 - 5 * ((qb a0 a1).1.length : Int):=by omega
   have b9 : ¬ (1 + 5 * ((qb a0 a1).1.length : Int)) < 0:=by omega
   simp [h3,h5,decide_eq_true h2,decide_eq_true h4,hs,ht,k1,k4,k5,m1,decide_eq_true k2,decide_eq_true m2,VC,G0,b1,b1',b2,b2',b3,b3',b4,b5,b6,b7,b8,b9]
end Go.UL
