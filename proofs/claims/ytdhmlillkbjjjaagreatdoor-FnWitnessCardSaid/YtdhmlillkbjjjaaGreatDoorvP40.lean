import Derived.Test.YtdhmlillkbjjjaaGreatDoorvP34
set_option linter.unusedVariables false
set_option linter.unusedSimpArgs false
namespace Go.UL
open Go.RowKit
def QK (p : List UInt8) : List Nd:=((yq p).reverse.map fun q=>(⟨3,q,[],0⟩ : Nd)) ++ [⟨1,p,[],0⟩]
theorem fileT_paths (p : List UInt8) : (QK p).map (·.path) = (yq p).reverse ++ [p]:=by
 unfold QK
 rw [List.map_append,List.map_map]
 congr 1
 exact List.map_id'' (fun _=>rfl) _
theorem ancs_rise : ∀ (n : Nat) (p : List UInt8),(cut 47 p).length≤n→yu ((yq p).reverse ++ [p]):=by
 intro n
 induction n with
 | zero=>
  intro p hn
  have : yq p = []:=by
   cases h : yq p with
   | nil=>rfl
   | cons x t=>have:=jV (jy (t:=p) (x:=x) (by rw [h]; simp)); omega
  rw [this]; simp [yu]
 | succ n ih=>
  intro p hn
  by_cases hp : qd p = []
  ·rw [JZ hp]; simp [yu]
  ·have hd:=jV (yH hp)
   have h:=ih (qd p) (by omega)
   rw [VV hp,List.reverse_cons]
   refine List.pairwise_append.2 ⟨h,by simp,fun a ha b hb=>?_⟩
   rw [List.mem_singleton.1 hb]
   rcases List.mem_append.1 ha with ha | ha
   ·exact Y7 (Vs (yH hp) (jy (List.mem_reverse.1 ha)))
   ·rw [List.mem_singleton.1 ha]; exact VO hp
theorem dir_ok {q : List UInt8} (h : qC q = true) : nodeOK ⟨3,q,[],0⟩ = true:=by
 have : qx (Qu ⟨3,q,[],0⟩) = 0:=(y9 _).2 ⟨rfl,h,rfl,rfl,rfl⟩
 simp [nodeOK,this]
theorem file_ok {q : List UInt8} (h : qC q = true) : nodeOK ⟨1,q,[],0⟩ = true:=by
 have : qx (Qu ⟨1,q,[],0⟩) = 0:=(y9 _).2 ⟨rfl,h,rfl,rfl,rfl⟩
 simp [nodeOK,this]
theorem Yy {p : List UInt8} (hp : qC p = true) : Wood (QK p):=by
 have hdir : ∀ q ∈ yq p,(⟨3,q,[],0⟩ : Nd) ∈ QK p:=fun q hq=>List.mem_append_left _ (List.mem_map.2 ⟨q,List.mem_reverse.2 hq,rfl⟩)
 have hcase : ∀ n ∈ QK p,(∃ q ∈ yq p,n = ⟨3,q,[],0⟩)∨n = ⟨1,p,[],0⟩:=fun n hn=>by
  rcases List.mem_append.1 hn with hn | hn
  ·obtain ⟨q,hq,e⟩:=List.mem_map.1 hn
   exact .inl ⟨q,List.mem_reverse.1 hq,e.symm⟩
  ·exact .inr (List.mem_singleton.1 hn)
 refine ⟨by rw [fileT_paths]; exact ancs_rise _ p (Nat.le_refl _),fun n hn=>?_,fun n hn hpar=>?_⟩
 ·rcases hcase n hn with ⟨q,hq,rfl⟩ | rfl
  ·exact dir_ok (ancs_ok hp hq)
  ·exact file_ok hp
 ·rcases hcase n hn with ⟨q,hq,rfl⟩ | rfl
  ·have : qd q ∈ yq q:=by rw [VV hpar]; exact List.mem_cons_self
   exact ⟨_,hdir _ (Gd hp hq this),rfl,rfl⟩
  ·have : qd p ∈ yq p:=by rw [VV hpar]; exact List.mem_cons_self
   exact ⟨_,hdir _ this,rfl,rfl⟩
theorem fileT_len {p : List UInt8} (hp : qC p = true) : (QK p).length≤4:=by
 have h1:=Jh hp
 have h2:=ancs_cut hp
 have h3:=congrArg List.length h2
 simp only [List.length_reverse,List.length_map,List.length_range] at h3
 simp only [QK,List.length_append,List.length_map,List.length_reverse,List.length_singleton]
 omega
theorem XQ {p : List UInt8} (hp : qC p = true) : vZ (QK p) p = some ⟨1,p,[],0⟩:=
 ju (Yy hp).rise (n:=⟨1,p,[],0⟩) (List.mem_append_right _ (List.mem_singleton.2 rfl))
def jH (i : Nat) : List UInt8:=if i < 10 then [UInt8.ofNat (48 + i)] else [UInt8.ofNat (48 + i / 10),UInt8.ofNat (48 + i % 10)]
def nmP (p : List UInt8) (i : Nat) : List UInt8:=j4 p (122 :: jH i)
def VS (x y : List Rec) (p : List UInt8) (i : Nat) : Bool:=decide (qJ x (nmP p i) < 0) && decide (qJ y (nmP p i) < 0)
def YG (x y : List Rec) (p : List UInt8) : Nat:=((List.range 100).find? (VS x y p)).getD 0
theorem digs_part : ∀ i,i < 100→jh (122 :: jH i) = true∧cut 47 (122 :: jH i) = [122 :: jH i]:=by
 have h : (List.range 100).all (fun i=>jh (122 :: jH i) && decide (cut 47 (122 :: jH i) = [122 :: jH i])) = true:=by decide +kernel
 intro i hi
 have:=(List.all_eq_true.1 h) i (List.mem_range.2 hi)
 rw [Bool.and_eq_true,decide_eq_true_eq] at this
 exact this
theorem digs_inj {i j : Nat} (hi : i < 100) (hj : j < 100) (h : jH i = jH j) : i = j:=by
 unfold jH at h
 by_cases h1 : i < 10 <;> by_cases h2 : j < 10
 ·rw [if_pos h1,if_pos h2] at h
  injection h with h _
  have e:=congrArg UInt8.toNat h
  simp only [UInt8.toNat_ofNat'] at e
  omega
 ·rw [if_pos h1,if_neg h2] at h; simp at h
 ·rw [if_neg h1,if_pos h2] at h; simp at h
 ·rw [if_neg h1,if_neg h2] at h
  injection h with h3 h
  injection h with h4 _
  have e1:=congrArg UInt8.toNat h3
  have e2:=congrArg UInt8.toNat h4
  simp only [UInt8.toNat_ofNat'] at e1 e2
  omega
theorem GX (l : List Rec) (p : List UInt8) : qJ l p < 0 ↔ qN l p = none:=by
 have h:=(yA l p).1
 constructor
 ·intro h1
  cases hl : qN l p with
  | none=>rfl
  | some r=>exact absurd (h.2 (by rw [hl]; simp)) (by omega)
 ·intro h1
  refine Classical.byContradiction fun h2=>h.1 (by omega) h1
theorem nmP_eq {p : List UInt8} (hp : p ≠ []) (i : Nat) : nmP p i = p ++ 47 :: 122 :: jH i:=by
 unfold nmP j4; rw [if_neg hp]; simp
theorem free_some {x y : List Rec} (hlen : x.length + y.length < 100) {p : List UInt8} (hp : p ≠ []) : ∃ i,i < 100∧(List.range 100).find? (VS x y p) = some i∧VS x y p i = true:=by
 have key : ∃ i,i < 100∧VS x y p i = true:=by
  refine Classical.byContradiction fun hno=>?_
  have hall : ∀ i,i < 100→nmP p i ∈ x.map (·.path) ++ y.map (·.path):=fun i hi=>by
   refine Classical.byContradiction fun h=>hno ⟨i,hi,?_⟩
   rw [List.mem_append,not_or] at h
   have hn : ∀ l : List Rec,nmP p i ∉ l.map (·.path)→qJ l (nmP p i) < 0:=fun l hl=>(GX l _).2 (by
    cases hk : qN l (nmP p i) with
    | none=>rfl
    | some r=>exact absurd (Yh.1 (by rw [hk]; simp)) hl)
   unfold VS
   rw [decide_eq_true (hn x h.1),decide_eq_true (hn y h.2)]; rfl
  have hnd : ((List.range 100).map fun i=>nmP p i).Nodup:=by
   refine List.pairwise_map.2 (List.Pairwise.imp_of_mem (R:=fun i j=>i < j) (fun {i j} hi hj hlt e=>?_) List.pairwise_lt_range)
   rw [nmP_eq hp,nmP_eq hp] at e
   have h1:=List.append_cancel_left e
   injection h1 with _ h1
   injection h1 with _ h1
   have:=digs_inj (List.mem_range.1 hi) (List.mem_range.1 hj) h1
   omega
  have hle:=pigeon _ _ hnd fun z hz=>by
   obtain ⟨i,hi,rfl⟩:=List.mem_map.1 hz
   exact hall i (List.mem_range.1 hi)
  simp at hle
  omega
 cases hf : (List.range 100).find? (VS x y p) with
 | none=>
  obtain ⟨i,hi,h⟩:=key
  have:=List.find?_eq_none.1 hf i (List.mem_range.2 hi)
  exact absurd h this
 | some i=>exact ⟨i,List.mem_range.1 (List.mem_of_find?_eq_some hf),rfl,List.find?_some hf⟩
def qV (l : List Rec) (p : List UInt8) : Rec:=if 0≤qJ l p then gt l (qJ l p) else Ye
theorem jv (l : List Rec) (p : List UInt8) : qV l p = (qN l p).getD Ye:=by
 unfold qV
 cases h : qN l p with
 | none=>rw [if_neg (fun h2=>(yA l p).1.1 h2 h)]; rfl
 | some r=>rw [if_pos ((yA l p).1.2 (by rw [h]; simp)),(yA l p).2 r h]; rfl
def Jw (x y : List Rec) (p : List UInt8) : List Nd:=
 if ((qV x p).kind = 4∧(qV y p).kind = 0)∨((qV x p).kind = 0∧(qV y p).kind = 4) then QK p
 else if (qV x p).kind = 3∧(qV y p).kind = 3∧(qV x p).mode = (qV y p).mode then QK (nmP p (YG x y p)) else []
theorem canon_fix {x : List Rec} (hs : Sheet x) (hc : qb x = x) {p : List UInt8} {r : Rec} (h : qN x p = some r) : js x r = some r:=by
 have:=QW hs p
 rw [hc,h] at this
 exact this.symm
theorem Ji {x : List Rec} (hs : Sheet x) (hc : qb x = x) {p : List UInt8} {r : Rec} (h : qN x p = some r) (hw : r.kind = 4∨r.opq = true) : yi x p = false∧(r.opq = true→(cut 47 p).length < 4):=by
 have hf:=canon_fix hs hc h
 have e:=(yj h).2
 rcases qo (yi x p) with hu | hu
 ·rw [Ym (by rw [e]; exact hu)] at hf
  split at hf
  ·cases hf
  ·rename_i hk
   have:=congrArg Rec.opq (Option.some.inj hf)
   simp only at this
   rcases hw with hw | hw
   ·exact absurd hw hk
   ·rw [hw] at this; cases this
 ·refine ⟨hu,fun ho=>?_⟩
  rw [Vj (by rw [e]; exact hu)] at hf
  have:=congrArg Rec.opq (Option.some.inj hf)
  simp only [ho,Bool.true_and,decide_eq_true_eq,e] at this
  exact this
theorem Gm {r : Rec} (h : qx r = 0) : r.kind = 1∨r.kind = 2∨r.kind = 3∨r.kind = 4:=by
 have h1:=((y9 r).1 h).1
 simp only [within,Bool.and_eq_true,decide_eq_true_eq] at h1
 omega
set_option linter.unusedSectionVars false
section
variable {x y : List Rec} (hx : Sheet x) (hy : Sheet y) (cx : qb x = x) (cy : qb y = y) {p : List UInt8} (hp : qC p = true) (hlt : ∀ q, ltP q p = true → qN x q = qN y q)
include hx hy cx cy hp hlt
theorem anc_same : ∀ q ∈ yq p,qN x q = qN y q:=fun q hq=>hlt q (Y7 (jy hq))
theorem under_same : yi x p = yi y p:=by
 have h:=anc_same hx hy cx cy hp hlt
 rw [Bool.eq_iff_iff,jp,jp]
 constructor
 ·rintro ⟨q,hq,r,hr,ho⟩; exact ⟨q,hq,r,by rw [← h q hq]; exact hr,ho⟩
 ·rintro ⟨q,hq,r,hr,ho⟩; exact ⟨q,hq,r,by rw [h q hq]; exact hr,ho⟩
theorem Xj {r : Rec} (hr : qN x p = some r) (hk : r.kind = 4) (hn : qN y p = none) : vZ (vd x (QK p)) p = none∧vZ (vd y (QK p)) p ≠ none:=by
 have hw:=Yy hp
 have hu:=(Ji hx cx hr (.inl hk)).1
 have h1 : Qw x p = some none:=by rw [JE hr]; unfold QO; rw [if_pos hk]
 have h2 : Qw y p = none:=by
  unfold Qw
  rw [hn]
  show (if Vn y p = true then some none else none) = none
  rw [Xe fun q hq m hm=>?_,← under_same hx hy cx cy hp hlt,hu]
  ·rfl
  ·obtain ⟨m2,g1,g2⟩:=hx.anc hr hq
   rw [anc_same hx hy cx cy hp hlt q hq,hm] at g1
   rw [Option.some.inj g1]; exact g2
 rw [QU hx hw,QU hy hw,h1,h2,XQ hp]
 exact ⟨rfl,by simp⟩
theorem GL {r s : Rec} (hr : qN x p = some r) (hs : qN y p = some s) (ho : r.opq = true) (hso : s.opq = false) (hsk : s.kind = 3) {q : List UInt8} (hq : qC q = true) (hqp : qd q = p) (hxq : qN x q = none) (hyq : qN y q = none) :
  vZ (vd x (QK q)) q = none∧vZ (vd y (QK q)) q ≠ none:=by
 have hw:=Yy hq
 have hne : qd q ≠ []:=by rw [hqp]; exact VQ hp
 have hu:=(Ji hx cx hr (.inr ho)).1
 have h1 : Qw x q = some none:=by
  rw [Je hx hq hne (by rw [hqp]; exact hr) (hx.opqk hr ho) hxq,hqp]
  unfold YO; rw [hr]; simp [ho]
 have h2 : Qw y q = none:=by
  rw [Je hy hq hne (by rw [hqp]; exact hs) hsk hyq,hqp]
  unfold YO; rw [hs,← under_same hx hy cx cy hp hlt,hu]; simp [hso]
 rw [QU hx hw,QU hy hw,h1,h2,XQ hq]
 exact ⟨rfl,by simp⟩
end
theorem rec_eq {r s : Rec} (h : jl r = jl s) (ho : r.opq = s.opq) : r = s:=by
 obtain ⟨a,b,c,d,e⟩:=r
 obtain ⟨a',b',c',d',e'⟩:=s
 simp only [jl,Nd.mk.injEq] at h
 simp only at ho
 obtain ⟨rfl,rfl,rfl,rfl⟩:=h
 rw [ho]
theorem wit_differs {x y : List Rec} (hx : Sheet x) (hy : Sheet y) (cx : qb x = x) (cy : qb y = y) (hlen : x.length + y.length < 100) {p : List UInt8} (hlt : ∀ q,ltP q p = true→qN x q = qN y q) (hd : qN x p ≠ qN y p) :
  Wood (Jw x y p)∧(Jw x y p).length≤4∧vd x (Jw x y p) ≠ vd y (Jw x y p):=by
 have hp : qC p = true:=by
  cases h1 : qN x p with
  | some r=>exact hx.path h1
  | none=>
   cases h2 : qN y p with
   | some r=>exact hy.path h2
   | none=>rw [h1,h2] at hd; exact absurd rfl hd
 have hltc : ∀ q,ltP q p = true→qN y q = qN x q:=fun q h=>(hlt q h).symm
 have tell : ∀ {w : List Nd} {q : List UInt8},(vZ (vd x w) q = none∧vZ (vd y w) q ≠ none)∨(vZ (vd y w) q = none∧vZ (vd x w) q ≠ none)→vd x w ≠ vd y w:=fun h e=>by
  rcases h with ⟨h1,h2⟩ | ⟨h1,h2⟩
  ·rw [e] at h1; exact h2 h1
  ·rw [← e] at h1; exact h2 h1
 have hz : ∀ {l : List Rec},Sheet l→∀ {q : List UInt8},(qV l q).kind = 0 ↔ qN l q = none:=fun {l} hl {q}=>by
  rw [jv]
  cases h : qN l q with
  | none=>exact ⟨fun _=>rfl,fun _=>rfl⟩
  | some r=>
   have:=Gm (hl.fault h)
   refine ⟨fun h2=>?_,fun h2=>by cases h2⟩
   have h2 : r.kind = 0:=h2
   omega
 have hr : ∀ {l : List Rec} {q : List UInt8} {r : Rec},qN l q = some r→qV l q = r:=fun {l q r} h=>by rw [jv,h]; rfl
 unfold Jw
 by_cases c1 : ((qV x p).kind = 4∧(qV y p).kind = 0)∨((qV x p).kind = 0∧(qV y p).kind = 4)
 ·rw [if_pos c1]
  refine ⟨Yy hp,fileT_len hp,tell (q:=p) ?_⟩
  rcases c1 with ⟨k1,k2⟩ | ⟨k1,k2⟩
  ·have hn:=(hz hy).1 k2
   cases h1 : qN x p with
   | none=>rw [hn,h1] at hd; exact absurd rfl hd
   | some r=>exact .inl (Xj hx hy cx cy hp hlt h1 (by rw [← hr h1]; exact k1) hn)
  ·have hn:=(hz hx).1 k1
   cases h1 : qN y p with
   | none=>rw [hn,h1] at hd; exact absurd rfl hd
   | some r=>exact .inr (Xj hy hx cy cx hp hltc h1 (by rw [← hr h1]; exact k2) hn)
 ·rw [if_neg c1]
  by_cases c2 : (qV x p).kind = 3∧(qV y p).kind = 3∧(qV x p).mode = (qV y p).mode
  ·rw [if_pos c2]
   obtain ⟨k1,k2,k3⟩:=c2
   cases h1 : qN x p with
   | none=>rw [(hz hx).2 h1] at k1; cases k1
   | some r=>
    cases h2 : qN y p with
    | none=>rw [(hz hy).2 h2] at k2; cases k2
    | some s=>
     rw [hr h1] at k1 k3
     rw [hr h2] at k2 k3
     have hnd : jl r = jl s:=by
      unfold jl
      rw [k1,k2,k3,(yj h1).2,(yj h2).2,GR (hx.fault h1) k1,GR (hy.fault h2) k2]
     have hoo : r.opq ≠ s.opq:=fun e=>hd (by rw [h1,h2,rec_eq hnd e])
     have hdep : (cut 47 p).length < 4:=by
      rcases qo r.opq with ho | ho
      ·exact (Ji hx cx h1 (.inr ho)).2 ho
      ·rcases qo s.opq with hs | hs
       ·exact (Ji hy cy h2 (.inr hs)).2 hs
       ·rw [ho,hs] at hoo; exact absurd rfl hoo
     have hpne:=VQ hp
     obtain ⟨i,hi,hfi,hfr⟩:=free_some hlen (x:=x) (y:=y) hpne
     have hI : YG x y p = i:=by unfold YG; rw [hfi]; rfl
     rw [hI]
     obtain ⟨d1,d2⟩:=digs_part i hi
     have hq:=child_ok hp hdep d1 d2
     rw [← nmP_eq hpne] at hq
     unfold VS at hfr
     rw [Bool.and_eq_true,decide_eq_true_eq,decide_eq_true_eq] at hfr
     have f1:=(GX _ _).1 hfr.1
     have f2:=(GX _ _).1 hfr.2
     refine ⟨Yy hq.1,fileT_len hq.1,tell (q:=nmP p i) ?_⟩
     rcases qo r.opq with ho | ho
     ·have hs : s.opq = false:=by
       rcases qo s.opq with hs | hs
       ·rw [ho,hs] at hoo; exact absurd rfl hoo
       ·exact hs
      exact .inl (GL hx hy cx cy hp hlt h1 h2 ho hs k2 hq.1 hq.2 f1 f2)
     ·have hs : s.opq = true:=by
       rcases qo s.opq with hs | hs
       ·exact hs
       ·rw [ho,hs] at hoo; exact absurd rfl hoo
      exact .inr (GL hy hx cy cx hp hltc h2 h1 hs ho k1 hq.1 hq.2 f2 f1)
  ·rw [if_neg c2]
   refine ⟨wood_nil,by simp,fun e=>?_⟩
   have e2:=congrArg (fun t=>vZ t p) e
   simp only [QU hx wood_nil,QU hy wood_nil] at e2
   have hnil : vZ [] p = none:=rfl
   rw [hnil] at e2
   have hsh : ∀ {l : List Rec},Sheet l→∀ {r : Rec},qN l p = some r→(Qw l p).getD none = QO r:=fun hl r h=>by rw [JE h]; rfl
   have hno : ∀ {l : List Rec},qN l p = none→(Qw l p).getD none = none:=fun {l} h=>by
    unfold Qw; rw [h]
    show (if Vn l p = true then some none else none).getD none = none
    split <;> rfl
   cases h1 : qN x p with
   | none=>
    cases h2 : qN y p with
    | none=>rw [h1,h2] at hd; exact hd rfl
    | some s=>
     rw [hno h1,hsh hy h2] at e2
     unfold QO at e2
     split at e2
     ·rename_i hk; exact c1 (.inr ⟨(hz hx).2 h1,by rw [hr h2]; exact hk⟩)
     ·cases e2
   | some r=>
    cases h2 : qN y p with
    | none=>
     rw [hsh hx h1,hno h2] at e2
     unfold QO at e2
     split at e2
     ·rename_i hk; exact c1 (.inl ⟨by rw [hr h1]; exact hk,(hz hy).2 h2⟩)
     ·cases e2
    | some s=>
     rw [hsh hx h1,hsh hy h2] at e2
     unfold QO at e2
     have p1:=(yj h1).2
     have p2:=(yj h2).2
     by_cases k1 : r.kind = 4
     ·rw [if_pos k1] at e2
      by_cases k2 : s.kind = 4
      ·obtain ⟨u1,u2,u3⟩:=YK (hx.fault h1) k1
       obtain ⟨v1,v2,v3⟩:=YK (hy.fault h2) k2
       exact hd (by rw [h1,h2]; congr 1; exact rec_eq (by unfold jl; rw [k1,k2,u1,u2,v1,v2,p1,p2]) (by rw [u3,v3]))
      ·rw [if_neg k2] at e2; cases e2
     ·rw [if_neg k1] at e2
      by_cases k2 : s.kind = 4
      ·rw [if_pos k2] at e2; cases e2
      ·rw [if_neg k2] at e2
       have hnd:=Option.some.inj e2
       have hoo : r.opq ≠ s.opq:=fun e=>hd (by rw [h1,h2,rec_eq hnd e])
       have hk : r.kind = s.kind:=by have:=congrArg Nd.kind hnd; exact this
       have hm : r.mode = s.mode:=by have:=congrArg Nd.mode hnd; exact this
       have h3 : r.kind = 3:=by
        rcases qo r.opq with ho | ho
        ·exact hx.opqk h1 ho
        ·rcases qo s.opq with hs | hs
         ·rw [hk]; exact hy.opqk h2 hs
         ·rw [ho,hs] at hoo; exact absurd rfl hoo
       exact c2 ⟨by rw [hr h1]; exact h3,by rw [hr h2,← hk]; exact h3,by rw [hr h1,hr h2]; exact hm⟩
def Qy (r x : Rec) : Bool:=!decide (x.path = r.path) && (decide (r.kind = 3) || !vw x.path r.path)
def VK (l : List Rec) (r : Rec) : List Rec:=(l.filter fun x=>Qy r x && ltP x.path r.path) ++ r :: l.filter fun x=>Qy r x && ltP r.path x.path
def VU (l : List Rec) (p : List UInt8) : Bool:=decide (0≤qJ l p) && decide ((gt l (qJ l p)).kind = 3)
def Qr : Nat→List Rec→Rec→List Rec
 | 0,l,r=>VK l r
 | n + 1,l,r=>VK (if qd r.path ≠ []∧VU l (qd r.path) = false then Qr n l ⟨3,qd r.path,[],493,false⟩ else l) r
theorem hasDir_iff {l : List Rec} {p : List UInt8} : VU l p = true ↔ ∃ q,qN l p = some q∧q.kind = 3:=by
 unfold VU
 rw [Bool.and_eq_true,decide_eq_true_eq,decide_eq_true_eq]
 constructor
 ·rintro ⟨h1,h2⟩
  cases h : qN l p with
  | none=>exact absurd h ((yA l p).1.1 h1)
  | some r=>rw [(yA l p).2 r h] at h2; exact ⟨r,rfl,h2⟩
 ·rintro ⟨q,h1,h2⟩
  exact ⟨(yA l p).1.2 (by rw [h1]; simp),by rw [(yA l p).2 q h1]; exact h2⟩
theorem QA {l : List Rec} {r x : Rec} : x ∈ VK l r ↔ x = r∨(x ∈ l∧Qy r x = true):=by
 unfold VK
 simp only [List.mem_append,List.mem_cons,List.mem_filter,Bool.and_eq_true]
 constructor
 ·rintro (⟨h1,h2,_⟩ | h | ⟨h1,h2,_⟩)
  ·exact .inr ⟨h1,h2⟩
  ·exact .inl h
  ·exact .inr ⟨h1,h2⟩
 ·rintro (h | ⟨h1,h2⟩)
  ·exact .inr (.inl h)
  ·rcases qo (ltP x.path r.path) with h3 | h3
   ·exact .inl ⟨h1,h2,h3⟩
   ·rcases qo (ltP r.path x.path) with h4 | h4
    ·exact .inr (.inr ⟨h1,h2,h4⟩)
    ·have:=Yl h3 h4
     unfold Qy at h2
     rw [decide_eq_true this] at h2; simp at h2
theorem putR1_rise {l : List Rec} {r : Rec} (h : yu (l.map (·.path))) : yu ((VK l r).map (·.path)):=by
 have hf : ∀ q : Rec→Bool,yu ((l.filter q).map (·.path)):=fun q=>Vp (fun r : Rec=>r.path) q h
 unfold VK
 rw [List.map_append,List.map_cons]
 refine List.pairwise_append.2 ⟨hf _,List.pairwise_cons.2 ⟨fun p hp=>?_,hf _⟩,fun a ha b hb=>?_⟩
 ·obtain ⟨x,hx,rfl⟩:=List.mem_map.1 hp
  have:=(List.mem_filter.1 hx).2
  rw [Bool.and_eq_true] at this
  exact this.2
 ·obtain ⟨x,hx,rfl⟩:=List.mem_map.1 ha
  have h1:=(List.mem_filter.1 hx).2
  rw [Bool.and_eq_true] at h1
  rcases List.mem_cons.1 hb with rfl | hb
  ·exact h1.2
  ·obtain ⟨y,hy,rfl⟩:=List.mem_map.1 hb
   have h2:=(List.mem_filter.1 hy).2
   rw [Bool.and_eq_true] at h2
   exact j3 h1.2 h2.2
theorem JH {l : List Rec} {r : Rec} (hl : Sheet l) (hr : qx r = 0) (hp : qd r.path ≠ []→∃ q ∈ l,q.path = qd r.path∧q.kind = 3) : Sheet (VK l r):=by
 have hrp:=vV hr
 refine ⟨putR1_rise hl.rise,fun x hx=>?_,fun x hx hpx=>?_⟩
 ·rcases QA.1 hx with rfl | ⟨h1,_⟩
  ·exact hr
  ·exact hl.ok x h1
 ·rcases QA.1 hx with rfl | ⟨h1,h2⟩
  ·obtain ⟨q,q1,q2,q3⟩:=hp hpx
   refine ⟨q,QA.2 (.inr ⟨q1,?_⟩),q2,q3⟩
   have hb:=yH hpx
   unfold Qy
   rw [decide_eq_false (by rw [q2]; exact fun e=>below_ne hb e.symm),q2,Xv hb]; simp
  ·obtain ⟨q,q1,q2,q3⟩:=hl.par x h1 hpx
   unfold Qy at h2
   rw [Bool.and_eq_true,Bool.or_eq_true,decide_eq_true_eq] at h2
   by_cases e : q.path = r.path
   ·rcases h2.2 with h3 | h3
    ·exact ⟨r,QA.2 (.inl rfl),by rw [← e,q2],h3⟩
    ·have : vw x.path r.path = true:=by rw [← e,q2]; exact yH hpx
     rw [this] at h3; cases h3
   ·refine ⟨q,QA.2 (.inr ⟨q1,?_⟩),q2,q3⟩
    unfold Qy
    rw [decide_eq_false e]
    rcases h2.2 with h3 | h3
    ·simp [h3]
    ·rcases qo (vw q.path r.path) with h4 | h4
     ·have:=Vs (yH hpx) (q2 ▸ h4)
      rw [this] at h3; cases h3
     ·simp [h4]
theorem Gs {p : List UInt8} (h : qd p ≠ []) : 1 < (cut 47 p).length:=by
 have h1:=jV (yH h)
 refine Classical.byContradiction fun h2=>h ?_
 have h3 : cut 47 (qd p) = []:=List.eq_nil_of_length_eq_zero (by omega)
 have:=Vw (qd p)
 rw [h3] at this
 exact this.symm
theorem dirR_ok {p : List UInt8} (h : qC p = true) : qx ⟨3,p,[],493,false⟩ = 0:=(y9 _).2 ⟨rfl,h,rfl,rfl,rfl⟩
theorem putR_Sheet : ∀ (n : Nat) (l : List Rec) (r : Rec),Sheet l→qx r = 0→(cut 47 r.path).length≤n + 1→Sheet (Qr n l r)∧r ∈ Qr n l r:=by
 intro n
 induction n with
 | zero=>
  intro l r hl hr hd
  exact ⟨JH hl hr fun hp=>by have:=Gs hp; omega,QA.2 (.inl rfl)⟩
 | succ n ih=>
  intro l r hl hr hd
  rw [Qr]
  by_cases hc : qd r.path ≠ []∧VU l (qd r.path) = false
  ·rw [if_pos hc]
   have hpp:=YV (vV hr) hc.1
   have hdd:=jV (yH hc.1)
   obtain ⟨i1,i2⟩:=ih l ⟨3,qd r.path,[],493,false⟩ hl (dirR_ok hpp) (by show (cut 47 (qd r.path)).length≤n + 1; omega)
   exact ⟨JH i1 hr fun _=>⟨_,i2,rfl,rfl⟩,QA.2 (.inl rfl)⟩
  ·rw [if_neg hc]
   refine ⟨JH hl hr fun hp=>?_,QA.2 (.inl rfl)⟩
   have hh : VU l (qd r.path) = true:=by
    rcases qo (VU l (qd r.path)) with h | h
    ·exact h
    ·exact absurd ⟨hp,h⟩ hc
   obtain ⟨q,q1,q2⟩:=hasDir_iff.1 hh
   obtain ⟨g1,g2⟩:=yj q1
   exact ⟨q,g1,g2,q2⟩
theorem GZ (l : List Rec) (r : Rec) : (VK l r).length≤l.length + 1:=by
 have h : ∀ (q : Rec→Bool) (m : List Rec),(m.filter fun x=>Qy r x && ltP x.path r.path).length + (m.filter fun x=>Qy r x && ltP r.path x.path).length≤m.length:=by
  intro _ m
  induction m with
  | nil=>simp
  | cons x m ih=>
   rcases qo (ltP x.path r.path) with h1 | h1
   ·have h2:=QN h1
    rcases qo (Qy r x) with h3 | h3 <;> simp [h1,h2,h3] <;> omega
   ·rcases qo (Qy r x) with h3 | h3 <;> rcases qo (ltP r.path x.path) with h4 | h4 <;> simp [h1,h3,h4] <;> omega
 have:=h (fun _=>true) l
 unfold VK
 simp only [List.length_append,List.length_cons]; omega
theorem putR_len : ∀ (n : Nat) (l : List Rec) (r : Rec),(Qr n l r).length≤l.length + n + 1:=by
 intro n
 induction n with
 | zero=>intro l r; exact GZ l r
 | succ n ih=>
  intro l r
  rw [Qr]
  split
  ·have h1:=GZ (Qr n l ⟨3,qd r.path,[],493,false⟩) r
   have h2:=ih l ⟨3,qd r.path,[],493,false⟩
   omega
  ·have:=GZ l r; omega
theorem sheet_wood {l : List Rec} (hl : Sheet l) (h : ∀ r ∈ l,r.kind ≠ 4) : Wood (l.map jl):=by
 refine ⟨by rw [List.map_map]; exact hl.rise,fun n hn=>?_,fun n hn hp=>?_⟩
 ·obtain ⟨r,hr,rfl⟩:=List.mem_map.1 hn
  exact Xq (hl.ok r hr) (h r hr)
 ·obtain ⟨r,hr,rfl⟩:=List.mem_map.1 hn
  obtain ⟨q,q1,q2,q3⟩:=hl.par r hr hp
  exact ⟨jl q,List.mem_map.2 ⟨q,q1,rfl⟩,q2,q3⟩
structure SrcOK (n : Int) (s : DSrc) : Prop where
 p0 : 0≤s.pos
 p1 : s.pos≤n
 s0 : 0≤s.seed
 s1 : s.seed < 2147483648
theorem SrcOK.mono {n m : Int} {s : DSrc} (h : SrcOK n s) (k : n≤m) : SrcOK m s:=⟨h.p0,Int.le_trans h.p1 k,h.s0,h.s1⟩
def Dr {α : Type} (X : Option (α × DSrc)) (n : Int) (Q : α→Prop) : Prop:=∃ r s,X = some (r,s)∧SrcOK n s∧Q r
theorem Dr.mono {α : Type} {X : Option (α × DSrc)} {n m : Int} {Q R : α→Prop} (h : Dr X n Q) (k : n≤m) (hq : ∀ r,Q r→R r) : Dr X m R:=by
 obtain ⟨r,s,h1,h2,h3⟩:=h
 exact ⟨r,s,h1,h2.mono k,hq r h3⟩
theorem YY {α : Type} [Inhabited α] {l : List α} {i : Int} (h : inR i l.length = true) : gt l i ∈ l:=by
 obtain ⟨hj,hje⟩:=Jk h
 rw [← hje]; exact List.getElem_mem hj
theorem VR {a n : Int} (ha : 0≤a) (hn : 0 < n) : 0≤a.tmod n∧a.tmod n < n:=⟨Int.tmod_nonneg _ ha,Int.tmod_lt_of_pos _ hn⟩
def vG.sh (a0 : List Int) : Option (DSrc):=
 some (⟨0,(a0.length : Int).tmod 1000⟩ : DSrc)
theorem vG.eq (a0 : List Int) {r : DSrc} (H : vG.sh a0 = some r) : vG.sh a0 = some r:=H
def vn.sh (a0 : List Int) (a1 : DSrc) : Option (Int × DSrc):=
 bif (decide ((IntKind.wrap .i64 (a1.pos + 1))≤(a0.length : Int))) then (bif inR (IntKind.wrap .i64 ((IntKind.wrap .i64 (a1.pos + 1)) - 1)) a0.length then (bif inR (IntKind.wrap .i64 ((IntKind.wrap .i64 (a1.pos + 1)) - 1)) a0.length then (some (IntKind.wrap .i64 (gt a0 (IntKind.wrap .i64 ((IntKind.wrap .i64 (a1.pos + 1)) - 1))),(⟨IntKind.wrap .i64 (a1.pos + 1),(IntKind.wrap .i64 ((IntKind.wrap .i64 ((IntKind.wrap .i64 (a1.seed * 31)) + (IntKind.wrap .i64 (gt a0 (IntKind.wrap .i64 ((IntKind.wrap .i64 (a1.pos + 1)) - 1)))))) + 7)).tmod 2147483648⟩ : DSrc))) else none) else none) else (bif (decide (3000 < (IntKind.wrap .i64 (a1.pos + 1)))) then (some (0,(⟨IntKind.wrap .i64 (a1.pos + 1),a1.seed⟩ : DSrc))) else (some ((IntKind.wrap .i64 (((IntKind.wrap .i64 ((IntKind.wrap .i64 (a1.seed * 1103515245)) + 12345)).tmod 2147483648).tdiv 65536)).tmod 256,(⟨IntKind.wrap .i64 (a1.pos + 1),(IntKind.wrap .i64 ((IntKind.wrap .i64 (a1.seed * 1103515245)) + 12345)).tmod 2147483648⟩ : DSrc))))
theorem vn.eq (a0 : List Int) (a1 : DSrc) {r : Int × DSrc} (H : vn.sh a0 a1 = some r) : vn.sh a0 a1 = some r:=H
theorem XJ {code : List Int} (hc : ∀ x ∈ code,okB x) (hl : code.length≤1048577) {n : Int} (hn : n≤1000000000) {s : DSrc} (h : SrcOK n s) : Dr (vn.sh code s) (n + 1) (fun r=>0≤r∧r≤255):=by
 obtain ⟨h1,h2,h3,h4⟩:=h
 have e1 : IntKind.wrap .i64 (s.pos + 1) = s.pos + 1:=wrap_small (by omega) (by omega)
 have e2 : IntKind.wrap .i64 (s.pos + 1 - 1) = s.pos:=by rw [show s.pos + 1 - 1 = s.pos by omega]; exact wrap_small (by omega) (by omega)
 unfold vn.sh
 simp only [e1,e2]
 by_cases hb : s.pos + 1≤(code.length : Int)
 ·have hr : inR s.pos code.length = true:=Vl h1 (by omega)
  have hg:=hc _ (YY hr)
  obtain ⟨g0,g1⟩:=hg
  have e3 : IntKind.wrap .i64 (gt code s.pos) = gt code s.pos:=wrap_small (by omega) (by omega)
  have e4 : IntKind.wrap .i64 (s.seed * 31) = s.seed * 31:=wrap_small (by omega) (by omega)
  have e5 : IntKind.wrap .i64 (s.seed * 31 + gt code s.pos) = s.seed * 31 + gt code s.pos:=wrap_small (by omega) (by omega)
  have e6 : IntKind.wrap .i64 (s.seed * 31 + gt code s.pos + 7) = s.seed * 31 + gt code s.pos + 7:=wrap_small (by omega) (by omega)
  simp only [e3,e4,e5,e6,hr,decide_eq_true hb,cond_true]
  have hm:=VR (a:=s.seed * 31 + gt code s.pos + 7) (n:=2147483648) (by omega) (by decide)
  exact ⟨_,_,rfl,⟨by simp; omega,by simp; omega,hm.1,hm.2⟩,g0,g1⟩
 ·simp only [decide_eq_false hb,cond_false]
  by_cases hb2 : 3000 < s.pos + 1
  ·simp only [decide_eq_true hb2,cond_true]
   exact ⟨_,_,rfl,⟨by simp; omega,by simp; omega,h3,h4⟩,by simp,by simp⟩
  ·simp only [decide_eq_false hb2,cond_false]
   have e4 : IntKind.wrap .i64 (s.seed * 1103515245) = s.seed * 1103515245:=wrap_small (by omega) (by omega)
   have e5 : IntKind.wrap .i64 (s.seed * 1103515245 + 12345) = s.seed * 1103515245 + 12345:=wrap_small (by omega) (by omega)
   simp only [e4,e5]
   have hm:=VR (a:=s.seed * 1103515245 + 12345) (n:=2147483648) (by omega) (by decide)
   have hd : 0≤((s.seed * 1103515245 + 12345).tmod 2147483648).tdiv 65536:=Int.tdiv_nonneg hm.1 (by decide)
   have hd2 : ((s.seed * 1103515245 + 12345).tmod 2147483648).tdiv 65536≤(s.seed * 1103515245 + 12345).tmod 2147483648:=Int.tdiv_le_self _ hm.1
   rw [wrap_small (n:=((s.seed * 1103515245 + 12345).tmod 2147483648).tdiv 65536) (by omega) (by omega)]
   have hm2:=VR (a:=((s.seed * 1103515245 + 12345).tmod 2147483648).tdiv 65536) (n:=256) hd (by decide)
   exact ⟨_,_,rfl,⟨by simp; omega,by simp; omega,hm.1,hm.2⟩,hm2.1,by have:=hm2.2; show ((s.seed * 1103515245 + 12345).tmod 2147483648 |>.tdiv 65536).tmod 256≤255; omega⟩
def vv.sh (a0 : List Int) (a1 : DSrc) (a2 : Int) : Option (Int × DSrc):=
 bif (decide (a2≤1)) then (some (0,a1)) else (bif (decide (a2≤256)) then (((vn.sh a0 a1)).bind fun z3=>bif decide (¬ (a2 : Int) = 0) then (some (z3.1.tmod a2,z3.2)) else none) else (((vn.sh a0 a1)).bind fun z11=>((vn.sh a0 z11.2)).bind fun z18=>((vn.sh a0 z18.2)).bind fun z25=>bif decide (¬ (a2 : Int) = 0) then (some ((IntKind.wrap .i64 ((IntKind.wrap .i64 ((IntKind.wrap .i64 (z11.1 * 65536)) + (IntKind.wrap .i64 (z18.1 * 256)))) + z25.1)).tmod a2,z25.2)) else none))
theorem vv.eq (a0 : List Int) (a1 : DSrc) (a2 : Int) {r : Int × DSrc} (H : vv.sh a0 a1 a2 = some r) : vv.sh a0 a1 a2 = some r:=H
theorem V2 {code : List Int} (hc : ∀ x ∈ code,okB x) (hl : code.length≤1048577) {n : Int} (hn : n≤900000000) {s : DSrc} (h : SrcOK n s) {m : Int} (hm : 0 < m) : Dr (vv.sh code s m) (n + 3) (fun r=>0≤r∧r < m):=by
 unfold vv.sh
 by_cases h1 : m≤1
 ·simp only [decide_eq_true h1,cond_true]
  exact ⟨_,_,rfl,h.mono (by omega),Int.le_refl _,hm⟩
 ·simp only [decide_eq_false h1,cond_false]
  have hne : decide (¬ (m : Int) = 0) = true:=decide_eq_true (by omega)
  by_cases h2 : m≤256
  ·simp only [decide_eq_true h2,cond_true]
   obtain ⟨r,s',e,hs,hr⟩:=XJ hc hl (by omega) h
   rw [e]
   simp only [Option.bind_some,hne,cond_true]
   have:=VR (a:=r) (n:=m) hr.1 hm
   exact ⟨_,_,rfl,hs.mono (by omega),this⟩
  ·simp only [decide_eq_false h2,cond_false]
   obtain ⟨r,s1,e,hs,hr0,hr1⟩:=XJ hc hl (by omega) h
   rw [e]; simp only [Option.bind_some]
   obtain ⟨r2,s2,e,hs,hp0,hp1⟩:=XJ hc hl (by omega) hs
   rw [e]; simp only [Option.bind_some]
   obtain ⟨r3,s3,e,hs,hq0,hq1⟩:=XJ hc hl (by omega) hs
   rw [e]; simp only [Option.bind_some,hne,cond_true]
   rw [wrap_small (n:=r * 65536) (by omega) (by omega),wrap_small (n:=r2 * 256) (by omega) (by omega),wrap_small (n:=r * 65536 + r2 * 256) (by omega) (by omega),wrap_small (n:=r * 65536 + r2 * 256 + r3) (by omega) (by omega)]
   have:=VR (a:=r * 65536 + r2 * 256 + r3) (n:=m) (by omega) hm
   exact ⟨_,_,rfl,hs.mono (by omega),this⟩
def yU.sh (a0 : List Int) (a1 : DSrc) (a2 : Int) : Option (Bool × DSrc):=
 ((vv.sh a0 a1 a2)).bind fun z1=>some ((decide (z1.1 = (IntKind.wrap .i64 (a2 - 1)))),z1.2)
theorem yU.eq (a0 : List Int) (a1 : DSrc) (a2 : Int) {r : Bool × DSrc} (H : yU.sh a0 a1 a2 = some r) : yU.sh a0 a1 a2 = some r:=H
theorem chance_ok {code : List Int} (hc : ∀ x ∈ code,okB x) (hl : code.length≤1048577) {n : Int} (hn : n≤900000000) {s : DSrc} (h : SrcOK n s) {m : Int} (hm : 0 < m) : Dr (yU.sh code s m) (n + 3) (fun _=>True):=by
 unfold yU.sh
 obtain ⟨r,s',e,hs,_⟩:=V2 hc hl hn h hm
 rw [e]; simp only [Option.bind_some]
 exact ⟨_,_,rfl,hs,trivial⟩
def jq.sh (a0 : List Int) (a1 : DSrc) (a2 : Int) : Option (Int × DSrc):=
 some ((if (a2 < (IntKind.wrap .i64 (1 + (IntKind.wrap .i64 ((a0.length : Int).tdiv 12)))) : Prop) then a2 else (IntKind.wrap .i64 (1 + (IntKind.wrap .i64 ((a0.length : Int).tdiv 12))))),a1)
theorem jq.eq (a0 : List Int) (a1 : DSrc) (a2 : Int) {r : Int × DSrc} (H : jq.sh a0 a1 a2 = some r) : jq.sh a0 a1 a2 = some r:=H
theorem room_ok {code : List Int} (hl : code.length≤1048577) {n : Int} {s : DSrc} (h : SrcOK n s) {m : Int} (hm : 0 < m) : Dr (jq.sh code s m) n (fun r=>0 < r∧r≤m):=by
 unfold jq.sh
 have hd : 0≤(code.length : Int).tdiv 12:=Int.tdiv_nonneg (by omega) (by decide)
 have hd2 : (code.length : Int).tdiv 12≤(code.length : Int):=Int.tdiv_le_self _ (by omega)
 rw [wrap_small (n:=(code.length : Int).tdiv 12) (by omega) (by omega),wrap_small (n:=1 + (code.length : Int).tdiv 12) (by omega) (by omega)]
 refine ⟨_,_,rfl,h,?_,?_⟩
 ·show 0 < (if m < 1 + (code.length : Int).tdiv 12 then m else 1 + (code.length : Int).tdiv 12); split <;> omega
 ·show (if m < 1 + (code.length : Int).tdiv 12 then m else 1 + (code.length : Int).tdiv 12)≤m; split <;> omega
def y5.sh (a0 : List Int) (a1 : DSrc) (a2 : List (List UInt8)) : Option (List UInt8 × DSrc):=
 bif (decide ((a2.length : Int) = 0)) then (some (([] : List UInt8),a1)) else (((vv.sh a0 a1 (a2.length : Int))).bind fun z2=>bif inR z2.1 a2.length then (some (gt a2 z2.1,z2.2)) else none)
theorem y5.eq (a0 : List Int) (a1 : DSrc) (a2 : List (List UInt8)) {r : List UInt8 × DSrc} (H : y5.sh a0 a1 a2 = some r) : y5.sh a0 a1 a2 = some r:=H
theorem pick_ok {code : List Int} (hc : ∀ x ∈ code,okB x) (hl : code.length≤1048577) {n : Int} (hn : n≤900000000) {s : DSrc} (h : SrcOK n s) {l : List (List UInt8)} (h0 : 0 < l.length) : Dr (y5.sh code s l) (n + 3) (fun r=>r ∈ l):=by
 unfold y5.sh
 have hne : decide ((l.length : Int) = 0) = false:=decide_eq_false (by omega)
 obtain ⟨r,s',e,hs,hr0,hr1⟩:=V2 hc hl hn h (m:=(l.length : Int)) (by omega)
 rw [e,hne]; simp only [cond_false,Option.bind_some]
 have hr : inR r l.length = true:=Vl hr0 hr1
 simp only [hr,cond_true]
 exact ⟨_,_,rfl,hs,YY hr⟩
def yB.lit1 : List (List UInt8):=[([97] : List UInt8),([98] : List UInt8),([99] : List UInt8),([97,46,98] : List UInt8),([120] : List UInt8)]
def yB.sh (a0 : List Int) (a1 : DSrc) : Option (List UInt8 × DSrc):=
 ((y5.sh a0 a1 yB.lit1)).bind fun z7=>some (z7.1,z7.2)
theorem yB.eq (a0 : List Int) (a1 : DSrc) {r : List UInt8 × DSrc} (H : yB.sh a0 a1 = some r) : yB.sh a0 a1 = some r:=H
def XT (t : List UInt8) : Prop:=jh t = true∧t.length≤3∧∀ b ∈ t,bn b ≠ 47
theorem lit_part : ∀ t ∈ yB.lit1,XT t:=by
 intro t ht
 simp only [yB.lit1,List.mem_cons,List.not_mem_nil,or_false] at ht
 rcases ht with rfl | rfl | rfl | rfl | rfl <;> exact ⟨by decide,by decide,by decide⟩
theorem part_ok {code : List Int} (hc : ∀ x ∈ code,okB x) (hl : code.length≤1048577) {n : Int} (hn : n≤900000000) {s : DSrc} (h : SrcOK n s) : Dr (yB.sh code s) (n + 3) XT:=by
 unfold yB.sh
 obtain ⟨r,s',e,hs,hr⟩:=pick_ok hc hl hn h (l:=yB.lit1) (by decide)
 rw [e]; simp only [Option.bind_some]
 exact ⟨_,_,rfl,hs,lit_part _ hr⟩
def yy.b1 (a0 : List Int) : List UInt8 × Int × DSrc→Option (Step (List UInt8 × DSrc) (List UInt8 × Int × DSrc) (List UInt8 × DSrc)):=
 fun q=>match q with
 | (x3_15,x4_16,y17)=>bif (decide (0 < x4_16)) then (((yB.sh a0 y17)).bind fun z39=>bif decide (([47] : List UInt8).length + z39.1.length≤9223372036854775807) then (bif decide (x3_15.length + (([47] : List UInt8) ++ z39.1).length≤9223372036854775807) then (some (.nxt (x3_15 ++ (([47] : List UInt8) ++ z39.1),IntKind.wrap .i64 (x4_16 - 1),z39.2))) else none) else none) else (some (.brk (x3_15,y17)))
def yy.sh (k : Nat) (a0 : List Int) (a1 : DSrc) : Option (List UInt8 × DSrc):=
  ((yB.sh a0 a1)).bind fun z1=>((vv.sh a0 z1.2 3)).bind fun z8=>(qt (yy.b1 a0) k (z1.1,z8.1,z8.2)).bind fun z=>match z with | .inl t=>some t | .inr (x3_21,y22)=>some (x3_21,y22)
theorem yy.eq (a0 : List Int) (a1 : DSrc) {r : List UInt8 × DSrc} (H : yy.sh 4 a0 a1 = some r) : ∃ k,yy.sh k a0 a1 = some r:=⟨4,H⟩
def YS (m : Nat) (t : List UInt8) : Prop:=∃ l : List (List UInt8),l ≠ []∧l.length≤m∧(∀ x ∈ l,XT x)∧t = yT l
theorem YS.len {m : Nat} {t : List UInt8} (h : YS m t) : t.length≤4 * m:=by
 obtain ⟨l,h1,h2,h3,rfl⟩:=h
 have : ∀ l : List (List UInt8),(∀ x ∈ l,XT x)→(yT l).length≤4 * l.length:=by
  intro l
  induction l with
  | nil=>intro _; simp [yT]
  | cons x l ih=>
   intro hx
   have h4:=ih fun y hy=>hx y (by simp [hy])
   have h5:=(hx x (by simp)).2.1
   by_cases hl : l = []
   ·subst hl; simp [yT]; omega
   ·rw [VW x hl]; simp; omega
 have:=this l h3
 omega
theorem YS.parts {m : Nat} {t : List UInt8} (h : YS m t) : (cut 47 t).length≤m∧∀ x ∈ cut 47 t,XT x:=by
 obtain ⟨l,h1,h2,h3,rfl⟩:=h
 rw [G5 h1 fun x hx=>(h3 x hx).2.2]
 exact ⟨h2,h3⟩
theorem YS.ok {t : List UInt8} (h : YS 3 t) : qC t = true:=by
 have h1:=h.len
 obtain ⟨h2,h3⟩:=h.parts
 simp only [qC,Bool.and_eq_true,decide_eq_true_eq,List.all_eq_true]
 exact ⟨by omega,by omega,fun x hx=>(h3 x hx).1⟩
theorem path_loop {code : List Int} (hc : ∀ x ∈ code,okB x) (hl : code.length≤1048577) : ∀ (i : Nat) (k : Nat) (m : Nat) (n : Int) (t : List UInt8) (s : DSrc),n + 3 * i≤800000000→i < k→m + i≤3→YS m t→SrcOK n s→
  ∃ t' s',qt (yy.b1 code) k (t,(i : Int),s) = some (.inr (t',s'))∧YS (m + i) t'∧SrcOK (n + 3 * i) s':=by
 intro i
 induction i with
 | zero=>
  intro k m n t s hn hk hm ht hs
  obtain ⟨k,rfl⟩ : ∃ k',k = k' + 1:=⟨k - 1,by omega⟩
  exact ⟨t,s,by simp [qt,yy.b1],by simpa using ht,hs.mono (by omega)⟩
 | succ i ih=>
  intro k m n t s hn hk hm ht hs
  obtain ⟨k,rfl⟩ : ∃ k',k = k' + 1:=⟨k - 1,by omega⟩
  obtain ⟨r,s1,e,hs1,hr⟩:=part_ok hc hl (by omega) hs
  have hlt:=ht.len
  have hlr:=hr.2.1
  obtain ⟨l,hl1,hl2,hl3,rfl⟩:=ht
  have hnew : YS (m + 1) (yT l ++ ([47] ++ r)):=by
   refine ⟨l ++ [r],by simp,by simp; omega,fun x hx=>?_,?_⟩
   ·rcases List.mem_append.1 hx with h | h
    ·exact hl3 x h
    ·simp at h; subst h; exact hr
   ·rw [Jo r hl1]; rfl
  obtain ⟨t',s',e2,h2,h3⟩:=ih k (m + 1) (n + 3) _ s1 (by omega) (by omega) (by omega) hnew hs1
  refine ⟨t',s',?_,by rw [show m + (i + 1) = m + 1 + i by omega]; exact h2,h3.mono (by omega)⟩
  have hd : decide ((0 : Int) < ((i + 1 : Nat) : Int)) = true:=decide_eq_true (by omega)
  have hw : IntKind.wrap .i64 (((i + 1 : Nat) : Int) - 1) = (i : Int):=by rw [show ((i + 1 : Nat) : Int) - 1 = (i : Int) by omega]; exact wrap_small (by omega) (by omega)
  have hd1 : decide (([47] : List UInt8).length + r.length≤9223372036854775807) = true:=decide_eq_true (by simp; omega)
  have hd2 : decide ((yT l).length + (([47] : List UInt8) ++ r).length≤9223372036854775807) = true:=decide_eq_true (by simp; omega)
  rw [qt]
  simp only [yy.b1,hd,cond_true,e,Option.bind_some,hd1,hd2,hw]
  exact e2
theorem path_ok {code : List Int} (hc : ∀ x ∈ code,okB x) (hl : code.length≤1048577) {n : Int} (hn : n≤700000000) {s : DSrc} (h : SrcOK n s) : Dr (yy.sh 4 code s) (n + 12) (YS 3):=by
 unfold yy.sh
 obtain ⟨r,s1,e,hs1,hr⟩:=part_ok hc hl (by omega) h
 rw [e]; simp only [Option.bind_some]
 obtain ⟨i,s2,e,hs2,hi0,hi1⟩:=V2 hc hl (by omega) hs1 (m:=3) (by omega)
 rw [e]; simp only [Option.bind_some]
 obtain ⟨j,rfl⟩ : ∃ j : Nat,i = j:=⟨i.toNat,by omega⟩
 obtain ⟨t',s',e2,h2,h3⟩:=path_loop hc hl j 4 1 (n + 6) r s2 (by omega) (by omega) (by omega) ⟨[r],by simp,by simp,by simpa using hr,rfl⟩ (hs2.mono (by omega))
 rw [e2]
 simp only [Option.bind_some]
 obtain ⟨l,h4,h5,h6⟩:=h2
 exact ⟨_,_,rfl,h3.mono (by omega),l,h4,by omega,h6⟩
def yI.lit1 : List (List UInt8):=[([] : List UInt8),([111,110,101] : List UInt8),([116,119,111] : List UInt8),([120,0,121] : List UInt8),([108,111,110,103,32,108,111,110,103,32,98,111,100,121,32,104,101,114,101,33] : List UInt8)]
def yI.sh (a0 : List Int) (a1 : DSrc) : Option (List UInt8 × DSrc):=
 ((y5.sh a0 a1 yI.lit1)).bind fun z7=>some (z7.1,z7.2)
theorem yI.eq (a0 : List Int) (a1 : DSrc) {r : List UInt8 × DSrc} (H : yI.sh a0 a1 = some r) : yI.sh a0 a1 = some r:=H
theorem body_ok {code : List Int} (hc : ∀ x ∈ code,okB x) (hl : code.length≤1048577) {n : Int} (hn : n≤900000000) {s : DSrc} (h : SrcOK n s) : Dr (yI.sh code s) (n + 3) (fun r=>r.length≤20):=by
 unfold yI.sh
 obtain ⟨r,s',e,hs,hr⟩:=pick_ok hc hl hn h (l:=yI.lit1) (by decide)
 rw [e]; simp only [Option.bind_some]
 refine ⟨_,_,rfl,hs,?_⟩
 simp only [yI.lit1,List.mem_cons,List.not_mem_nil,or_false] at hr
 rcases hr with rfl | rfl | rfl | rfl | rfl <;> decide
def yx.sh (a0 : List Int) (a1 : DSrc) (a2 : List UInt8) : Option (Rec × DSrc):=
  ((vv.sh a0 a1 8)).bind fun z7=>((bif (decide (z7.1 = 0)) then (some (.inr (decide (z7.1 = 0)))) else (bif (decide (z7.1 = 1)) then (some (.inr (decide (z7.1 = 1)))) else (some (.inr (decide (z7.1 = 2))))) : Option (((Rec × DSrc) ⊕ (DSrc)) ⊕ (Bool))).bind fun z=>match z with | .inl t=>some t | .inr x7_21=>bif x7_21 then (((yI.sh a0 z7.2)).bind fun z33=>((vv.sh a0 z33.2 3)).bind fun z46=>bif inR z46.1 ([420,0,511] : List Int).length then (some (.inl ((⟨1,a2,z33.1,gt ([420,0,511] : List Int) z46.1,false⟩ : Rec),z46.2))) else none) else (bif (decide (z7.1 = 3)) then (((y5.sh a0 z7.2 ([([97] : List UInt8),([46,46,47,98] : List UInt8),([47] : List UInt8)] : List (List UInt8)))).bind fun z66=>some (.inl ((⟨2,a2,z66.1,0,false⟩ : Rec),z66.2))) else (bif (decide (z7.1 = 4)) then (bif (decide (z7.1 = 4)) then (some (.inl ((⟨4,a2,([] : List UInt8),0,false⟩ : Rec),z7.2))) else (some (.inr z7.2))) else (bif (decide (z7.1 = 5)) then (some (.inl ((⟨4,a2,([] : List UInt8),0,false⟩ : Rec),z7.2))) else (some (.inr z7.2))))) : Option ((Rec × DSrc) ⊕ (DSrc))).bind fun z=>match z with | .inl t=>some t | .inr y17=>((vv.sh a0 y17 2)).bind fun z98=>bif inR z98.1 ([493,448] : List Int).length then (((yU.sh a0 z98.2 3)).bind fun z108=>some ((⟨3,a2,([] : List UInt8),gt ([493,448] : List Int) z98.1,z108.1⟩ : Rec),z108.2)) else none
theorem yx.eq (a0 : List Int) (a1 : DSrc) (a2 : List UInt8) {r : Rec × DSrc} (H : yx.sh a0 a1 a2 = some r) : yx.sh a0 a1 a2 = some r:=H
theorem Y3 {k m : Int} {p b : List UInt8} {o : Bool} (h1 : within k 1 4 = true) (h2 : qC p = true) (h3 : (decide (20 < b.length) || (decide (k = 2) && decide (b = []))) = false) (h4 : (((decide (k = 3) || decide (k = 4)) && !decide (b = [])) || (!decide (k = 3) && o)) = false)
  (h5 : (!within m 0 511 || ((decide (k = 2) || decide (k = 4)) && !decide (m = 0))) = false) : qx ⟨k,p,b,m,o⟩ = 0:=(y9 ⟨k,p,b,m,o⟩).2 ⟨h1,h2,h3,h4,h5⟩
theorem G0 {code : List Int} (hc : ∀ x ∈ code,okB x) (hl : code.length≤1048577) {n : Int} (hn : n≤700000000) {s : DSrc} (h : SrcOK n s) {p : List UInt8} (hp : qC p = true) : Dr (yx.sh code s p) (n + 12) (fun r=>qx r = 0∧r.path = p):=by
  unfold yx.sh
  obtain ⟨i,s1,e,hs1,hi0,hi1⟩:=V2 hc hl (by omega) h (m:=8) (by omega)
  rw [e]; simp only [Option.bind_some]
  have hcase : i = 0∨i = 1∨i = 2∨i = 3∨i = 4∨i = 5∨i = 6∨i = 7:=by omega
  have file : ∀ F : DSrc→Option (Rec × DSrc),Dr ((((yI.sh code s1)).bind fun z33=>((vv.sh code z33.2 3)).bind fun z46=>bif inR z46.1 ([420,0,511] : List Int).length then (some (Sum.inl ((⟨1,p,z33.1,gt ([420,0,511] : List Int) z46.1,false⟩ : Rec),z46.2) : (Rec × DSrc) ⊕ DSrc)) else none).bind fun z=>match z with | .inl t=>some t | .inr y=>F y) (n + 12) (fun r=>qx r = 0∧r.path = p):=by
    intro F
    obtain ⟨b,s2,e,hs2,hb⟩:=body_ok hc hl (by omega) hs1
    rw [e]; simp only [Option.bind_some]
    obtain ⟨j,s3,e,hs3,hj0,hj1⟩:=V2 hc hl (by omega) hs2 (m:=3) (by omega)
    rw [e]; simp only [Option.bind_some]
    have hj : inR j ([420,0,511] : List Int).length = true:=Vl hj0 (by simpa using hj1)
    simp only [hj,cond_true,Option.bind_some]
    refine ⟨_,_,rfl,hs3.mono (by omega),?_,rfl⟩
    have hm:=YY hj
    have hmm : within (gt ([420,0,511] : List Int) j) 0 511 = true:=by
      have : ∀ x ∈ ([420,0,511] : List Int),within x 0 511 = true:=by decide
      exact this _ hm
    exact Y3 (by decide) hp (by simp; omega) (by simp) (by simp [hmm])
  have white : qx ⟨4,p,[],0,false⟩ = 0:=Y3 (by decide) hp (by simp) (by simp) (by decide)
  have dir : ∀ s2 : DSrc,SrcOK (n + 3) s2→Dr (((vv.sh code s2 2)).bind fun z98=>bif inR z98.1 ([493,448] : List Int).length then (((yU.sh code z98.2 3)).bind fun z108=>some ((⟨3,p,([] : List UInt8),gt ([493,448] : List Int) z98.1,z108.1⟩ : Rec),z108.2)) else none) (n + 12) (fun r=>qx r = 0∧r.path = p):=by
    intro s2 hs2
    obtain ⟨j,s3,e,hs3,hj0,hj1⟩:=V2 hc hl (by omega) hs2 (m:=2) (by omega)
    rw [e]; simp only [Option.bind_some]
    have hj : inR j ([493,448] : List Int).length = true:=Vl hj0 (by simpa using hj1)
    simp only [hj,cond_true]
    obtain ⟨b,s4,e,hs4,_⟩:=chance_ok hc hl (by omega) hs3 (m:=3) (by omega)
    rw [e]; simp only [Option.bind_some]
    refine ⟨_,_,rfl,hs4.mono (by omega),?_,rfl⟩
    have hm:=YY hj
    have hmm : within (gt ([493,448] : List Int) j) 0 511 = true:=by
      have : ∀ x ∈ ([493,448] : List Int),within x 0 511 = true:=by decide
      exact this _ hm
    exact Y3 (by decide) hp (by simp) (by simp) (by simp [hmm])
  rcases hcase with rfl | rfl | rfl | rfl | rfl | rfl | rfl | rfl
  · simp
    exact file _
  · simp
    exact file _
  · simp
    exact file _
  · simp
    obtain ⟨b,s2,e,hs2,hb⟩:=pick_ok hc hl (by omega) hs1 (l:=([([97] : List UInt8),([46,46,47,98] : List UInt8),([47] : List UInt8)] : List (List UInt8))) (by decide)
    rw [e]; simp only [Option.bind_some]
    refine ⟨_,_,rfl,hs2.mono (by omega),?_,rfl⟩
    have hb1 : (decide (20 < b.length) || (decide ((2 : Int) = 2) && decide (b = []))) = false:=by
      have : ∀ x ∈ ([([97] : List UInt8),([46,46,47,98] : List UInt8),([47] : List UInt8)] : List (List UInt8)),(decide (20 < x.length) || (decide ((2 : Int) = 2) && decide (x = []))) = false:=by decide
      exact this _ hb
    exact Y3 (by decide) hp hb1 (by simp) (by decide)
  · simp
    exact ⟨_,_,rfl,hs1.mono (by omega),white,rfl⟩
  · simp
    exact ⟨_,_,rfl,hs1.mono (by omega),white,rfl⟩
  · have:=dir s1 hs1
    simpa using this
  · have:=dir s1 hs1
    simpa using this
theorem Xb (code : List Int) : ∃ s,vG.sh code = some s∧SrcOK 0 s:=by
 have:=VR (a:=(code.length : Int)) (n:=1000) (by omega) (by decide)
 exact ⟨_,rfl,⟨by simp,by simp,this.1,by have:=this.2; show (code.length : Int).tmod 1000 < 2147483648; omega⟩⟩
theorem guard_of (a0 a1 : List Int) : (bif decide ((1048576 : Int) < (a0.length : Int)) then some true else (some (decide ((1048576 : Int) < (a1.length : Int))))) = some true∨
  ((bif decide ((1048576 : Int) < (a0.length : Int)) then some true else (some (decide ((1048576 : Int) < (a1.length : Int))))) = some false∧a0.length≤1048576∧a1.length≤1048576):=by
 by_cases h0 : (1048576 : Int) < (a0.length : Int)
 ·left; rw [decide_eq_true h0]; rfl
 ·by_cases h1 : (1048576 : Int) < (a1.length : Int)
  ·left; rw [decide_eq_false h0,decide_eq_true h1]; rfl
  ·right; rw [decide_eq_false h0,decide_eq_false h1]; exact ⟨rfl,by omega,by omega⟩
theorem same_loop {α : Type} [DecidableEq α] [Inhabited α] (a b : List α) (hl : a.length = b.length) (B : Int → Option (Step Bool Int Unit)) (hb : ∀ i : Nat, i < a.length → B i = some (sc (if !decide (a.getD i default = b.getD i default) then some false else none : Option Bool) ((i : Int) + 1))) (hn : B a.length = some (.brk ())) :
    (qt B (a.length + 1) 0).bind (fun z=>match z with | .inl t=>some t | .inr _=>some true) = some (decide (a = b)):=by
  rw [jx a.length _ hb hn (a.length + 1) (by omega),Xn a b hl]
  by_cases he : a = b <;> simp [he]
theorem same_sh {α : Type} [DecidableEq α] [Inhabited α] (a b : List α) (h : a.length ≤ 4611686018427387904) (B : Int → Option (Step Bool Int Unit)) (hB : ∀ i : Nat, i < a.length → i < b.length → B i = bif (!decide (a.getD i default = b.getD i default)) then some (.ret false) else some (.nxt ((i : Int) + 1))) (hn : B a.length = some (.brk ())) :
    (bif (!decide ((a.length : Int) = (b.length : Int))) then some false else ((qt B (a.length + 1) 0).bind fun z=>match z with | .inl t=>some t | .inr _=>some true)) = some (decide (a = b)):=by
  by_cases hl : a.length = b.length
  · have : (a.length : Int) = (b.length : Int):=by omega
    rw [decide_eq_true this]
    simp only [Bool.not_true,cond_false]
    refine same_loop a b hl B (fun i hi=>?_) hn
    rw [hB i hi (by omega)]
    by_cases he : a.getD i default = b.getD i default
    · simp only [he,decide_true,Bool.not_true,Bool.false_eq_true,if_false,cond_false,JT]
    · simp only [he,decide_false,Bool.not_false,if_true,cond_true,JP]
  · have h1 : ¬ (a.length : Int) = (b.length : Int):=by omega
    have h2 : a ≠ b:=fun e=>hl (by rw [e])
    simp [h1,h2]
def vF.b1 (a0 : List Nd) (a1 : List Nd) : Int→Option (Step (Bool) (Int) (Unit)):=
 fun x5_2=>bif (decide (x5_2 < (a0.length : Int))) then (bif inR x5_2 a0.length then (bif inR x5_2 a1.length then (bif (!decide ((gt a0 x5_2) = (gt a1 x5_2))) then (some (.ret false)) else (some (.nxt (IntKind.wrap .i64 (x5_2 + 1))))) else none) else none) else (some (.brk ()))
def vF.sh (k : Nat) (a0 : List Nd) (a1 : List Nd) : Option (Bool):=
  bif (!decide ((a0.length : Int) = (a1.length : Int))) then (some false) else ((qt (vF.b1 a0 a1) k 0).bind fun z=>match z with | .inl t=>some t | .inr _=>some true)
theorem vF.eq (a0 a1 : List Nd) (h : a0.length≤4611686018427387904) : ∃ k,vF.sh k a0 a1 = some (decide (a0 = a1)):=by
 refine ⟨a0.length + 1,same_sh a0 a1 h _ (fun i hi hi2=>?_) (by simp [vF.b1])⟩
 simp only [vF.b1,y6,hi,decide_true,cond_true,qT hi,qT hi2,yl,vX hi h]
 rfl
def VM (n : Nat) (l : List Rec) (r : Rec) : Bool:=Vm l && qC r.path && decide ((cut 47 r.path).length≤n + 1) && decide (l.length≤100)
def putQ : Nat→List Rec→Rec→Bool
 | 0,_,_=>false
 | n + 1,l,r=>VM n l r
def putG : Nat→List Rec→Rec→List Rec
 | 0,_,_=>[]
 | n + 1,l,r=>Qr n l r
theorem putOKb_of {n : Nat} {l : List Rec} {r : Rec} (h : VM n l r = true) : Vm l = true∧qC r.path = true∧(cut 47 r.path).length≤n + 1∧l.length≤100:=by
 simp only [VM,Bool.and_eq_true,decide_eq_true_eq] at h
 exact ⟨h.1.1.1,h.1.1.2,h.1.2,h.2⟩
theorem putOKb_mk {n : Nat} {l : List Rec} {r : Rec} (h1 : Vm l = true) (h2 : qC r.path = true) (h3 : (cut 47 r.path).length≤n + 1) (h4 : l.length≤100) : VM n l r = true:=by simp [VM,h1,h2,h3,h4]
def Q5 (r x : Rec) (s : List Rec × Bool) : List Rec × Bool:=
 let s1 : List Rec × Bool:=if (!s.2 && ltP r.path x.path) = true then (s.1 ++ [r],true) else s
 (if Qy r x = true then s1.1 ++ [x] else s1.1,s1.2)
theorem put_after (r : Rec) : ∀ (l : List Rec) (acc : List Rec),(l.foldl (fun s x=>Q5 r x s) (acc,true)) = (acc ++ l.filter (Qy r),true):=by
 intro l
 induction l with
 | nil=>intro acc; simp
 | cons x l ih=>
  intro acc
  rw [List.foldl_cons]
  have e : Q5 r x (acc,true) = (if Qy r x = true then acc ++ [x] else acc,true):=by simp [Q5]
  rw [e,ih]
  rcases qo (Qy r x) with h | h <;> simp [h]
theorem put_fold (r : Rec) : ∀ (l : List Rec),yu (l.map (·.path))→∀ (acc : List Rec),(if (l.foldl (fun s x=>Q5 r x s) (acc,false)).2 = true then (l.foldl (fun s x=>Q5 r x s) (acc,false)).1 else (l.foldl (fun s x=>Q5 r x s) (acc,false)).1 ++ [r]) = acc ++ VK l r:=by
 intro l
 induction l with
 | nil=>intro _ acc; simp [VK]
 | cons x l ih=>
  intro hr acc
  rw [List.map_cons] at hr
  have hgt:=Yo hr
  rw [List.foldl_cons]
  rcases qo (ltP r.path x.path) with h | h
  ·have hall : ∀ y ∈ x :: l,ltP r.path y.path = true:=by
    intro y hy
    rcases List.mem_cons.1 hy with rfl | hy
    ·exact h
    ·exact j3 h (hgt _ (List.mem_map_of_mem hy))
   have e : Q5 r x (acc,false) = (if Qy r x = true then acc ++ [r] ++ [x] else acc ++ [r],true):=by simp [Q5,h]
   rw [e,put_after]
   have f1 : (x :: l).filter (fun y=>Qy r y && ltP y.path r.path) = []:=by
    rw [List.filter_eq_nil_iff]
    intro y hy
    rw [QN (hall y hy)]; simp
   have f2 : (x :: l).filter (fun y=>Qy r y && ltP r.path y.path) = (x :: l).filter (Qy r):=by
    apply List.filter_congr
    intro y hy
    rw [hall y hy]; simp
   unfold VK
   rw [f1,f2]
   rcases qo (Qy r x) with h2 | h2 <;> simp [h2]
  ·have e : Q5 r x (acc,false) = (if Qy r x = true then acc ++ [x] else acc,false):=by simp [Q5,h]
   rw [e,ih (V3 hr)]
   unfold VK
   rcases qo (Qy r x) with h2 | h2
   ·have hne : x.path ≠ r.path:=by
     unfold Qy at h2
     intro e
     rw [decide_eq_true e] at h2; simp at h2
    have hlt : ltP x.path r.path = true:=by
     rcases qo (ltP x.path r.path) with h3 | h3
     ·exact h3
     ·exact absurd (Yl h3 h) hne
    simp [h2,h,hlt]
   ·simp [h2]
theorem put_loop {ρ : Type} (l : List Rec) (r : Rec) (B : List Rec × Bool × Int→Option (Step ρ (List Rec × Bool × Int) (List Rec × Bool)))
  (hB : ∀ (i : Nat) (o : List Rec) (d : Bool),i < l.length→o.length≤2 * i→B (o,d,(i : Int)) = some (.nxt ((Q5 r (gt l (i : Int)) (o,d)).1,(Q5 r (gt l (i : Int)) (o,d)).2,((i + 1 : Nat) : Int))))
  (hn : ∀ o d,B (o,d,(l.length : Int)) = some (.brk (o,d))) : qt B (l.length + 1) ([],false,0) = some (.inr (l.foldl (fun s x=>Q5 r x s) ([],false))):=by
 have hlen : ∀ x (s : List Rec × Bool),(Q5 r x s).1.length≤s.1.length + 2:=by
  intro x s
  unfold Q5
  simp only []
  split <;> split <;> simp
 have key : ∀ (d i k : Nat) (s : List Rec × Bool),i + d = l.length→d < k→s.1.length≤2 * i→qt B k (s.1,s.2,(i : Int)) = some (.inr ((l.drop i).foldl (fun s x=>Q5 r x s) s)):=by
  intro d
  induction d with
  | zero=>
   intro i k s hi hk hs
   obtain ⟨k,rfl⟩ : ∃ m,k = m + 1:=⟨k - 1,by omega⟩
   have : i = l.length:=by omega
   subst this
   rw [qt,hn s.1 s.2,List.drop_length]; rfl
  | succ d ih=>
   intro i k s hi hk hs
   obtain ⟨k,rfl⟩ : ∃ m,k = m + 1:=⟨k - 1,by omega⟩
   have hlt : i < l.length:=by omega
   rw [qt,hB i s.1 s.2 hlt hs,Jg hlt]
   have hl2:=hlen (gt l (i : Int)) (s.1,s.2)
   exact ih (i + 1) k _ (by omega) (by omega) (by simp only [] at hl2 ⊢; omega)
 exact key l.length 0 (l.length + 1) ([],false) (by omega) (by omega) (by simp)
theorem Jn {l : List Rec} {r : Rec} (h : Vm l = true) (hr : qC r.path = true) : Vm (VK l r) = true:=by
 refine sheetB_mk (fun x hx=>?_) (putR1_rise (Xm h))
 rcases QA.1 hx with rfl | ⟨h1,_⟩
 ·exact hr
 ·exact Xx h x h1
theorem putR_sheetB : ∀ (n : Nat) (l : List Rec) (r : Rec),Vm l = true→qC r.path = true→Vm (Qr n l r) = true:=by
 intro n
 induction n with
 | zero=>intro l r h hr; exact Jn h hr
 | succ n ih=>
  intro l r h hr
  rw [Qr]
  split
  ·rename_i hc
   exact Jn (ih _ _ h (YV hr hc.1)) hr
  ·exact Jn h hr
theorem parent_depth {p : List UInt8} {n : Nat} (h : qd p ≠ []) (hd : (cut 47 p).length≤n + 2) : (cut 47 (qd p)).length≤n + 1:=by
 have:=jV (yH h); omega
theorem hasDir_neg {l : List Rec} {p : List UInt8} (h : qJ l p < 0) : VU l p = false:=by
 unfold VU
 rw [decide_eq_false (by omega)]; rfl
theorem X5 {l : List Rec} {p : List UInt8} (h : ¬ qJ l p < 0) : VU l p = decide ((gt l (qJ l p)).kind = 3):=by
 unfold VU
 rw [decide_eq_true (by omega)]; rfl
def qG.b1 (a1 : Rec) (x0_13 : List Rec) : List Rec × Bool × Int→Option (Step (List Rec) (List Rec × Bool × Int) (List Rec × Bool)):=
  fun q=>match q with
  | (x7_47,x8_49,x9_50)=>bif (decide (x9_50 < (x0_13.length : Int))) then (bif (!(!x8_49) || (inR x9_50 x0_13.length)) then (bif (!(!x8_49) || (decide (a1.path.length≤1048576))) then (bif (!(!x8_49) || (decide (((gt x0_13 x9_50).path).length≤1048576))) then ((bif ((!x8_49) && (vy (cut 47 a1.path) (cut 47 ((gt x0_13 x9_50).path)))) then (bif decide ((x7_47.length + ([a1] : List Rec).length) * 56≤140737488355328) then (some (.inr (x7_47 ++ ([a1] : List Rec),true))) else none) else (some (.inr (x7_47,x8_49))) : Option ((Step (List Rec) (List Rec × Bool × Int) (List Rec × Bool)) ⊕ (List Rec × Bool))).bind fun z=>match z with | .inl t=>some t | .inr (x7_104,x8_106)=>bif inR x9_50 x0_13.length then (bif (!((!decide (((gt x0_13 x9_50).path) = a1.path)) && (!(decide (a1.kind = 3)))) || (inR x9_50 x0_13.length)) then (bif ((!decide (((gt x0_13 x9_50).path) = a1.path)) && ((decide (a1.kind = 3)) || (!((decide (a1.path = []) && !decide (((gt x0_13 x9_50).path) = [])) || vw ((gt x0_13 x9_50).path) a1.path)))) then (bif inR x9_50 x0_13.length then (bif decide ((x7_104.length + ([gt x0_13 x9_50] : List Rec).length) * 56≤140737488355328) then (some (.nxt (x7_104 ++ ([gt x0_13 x9_50] : List Rec),x8_106,IntKind.wrap .i64 (x9_50 + 1)))) else none) else none) else (some (.nxt (x7_104,x8_106,IntKind.wrap .i64 (x9_50 + 1))))) else none) else none) else none) else none) else none) else (some (.brk (x7_47,x8_49)))
def qG.sh (n : Nat) (k : Nat) (a0 : List Rec) (a1 : Rec) : Option (List Rec):=
  bif decide (a1.path.length≤4611686018427387904) then ((bif (!decide ((qd a1.path) = ([] : List UInt8))) then (bif decide (a0.length≤1048576) then (((bif (decide ((qJ a0 (qd a1.path)) < 0)) then some true else (bif inR (qJ a0 (qd a1.path)) a0.length then (some (!decide (((gt a0 (qJ a0 (qd a1.path))).kind) = 3))) else none))).bind fun z20=>bif z20 then (bif decide (putQ n a0 (⟨3,(qd a1.path),([] : List UInt8),493,false⟩ : Rec) = true) then (some (.inr (putG n a0 (⟨3,(qd a1.path),([] : List UInt8),493,false⟩ : Rec)))) else none) else (some (.inr a0))) else none) else (some (.inr a0)) : Option ((List Rec) ⊕ (List Rec))).bind fun z=>match z with | .inl t=>some t | .inr x0_13=>(qt (qG.b1 a1 x0_13) k (([] : List Rec),false,0)).bind fun z=>match z with | .inl t=>some t | .inr (x7_54,x8_56)=>bif (!x8_56) then (bif decide ((x7_54.length + ([a1] : List Rec).length) * 56≤140737488355328) then (some (x7_54 ++ ([a1] : List Rec))) else none) else (some x7_54)) else none
theorem qG.body (a0 : List Rec) (a1 : Rec) (hs : Vm a0 = true) (hp : qC a1.path = true) (hl : a0.length ≤ 200) :
    ((qt (qG.b1 a1 a0) (a0.length + 1) (([] : List Rec),false,0)).bind fun z=>match z with | .inl t=>some t | .inr (x7_54,x8_56)=>bif (!x8_56) then (bif decide ((x7_54.length + ([a1] : List Rec).length) * 56≤140737488355328) then (some (x7_54 ++ ([a1] : List Rec))) else none) else (some x7_54)) = some (VK a0 a1):=by
  have hp1:=jo hp
  have hne:=VQ hp
  have hlen : ∀ (l : List Rec) (s : List Rec × Bool),(l.foldl (fun s x=>Q5 a1 x s) s).1.length≤s.1.length + 2 * l.length:=by
    intro l
    induction l with
    | nil=>intro s; simp
    | cons x l ih=>
      intro s
      rw [List.foldl_cons]
      have h1:=ih (Q5 a1 x s)
      have h2 : (Q5 a1 x s).1.length≤s.1.length + 2:=by
        unfold Q5
        simp only []
        split <;> split <;> simp
      simp only [List.length_cons]; omega
  rw [put_loop a0 a1 (qG.b1 a1 a0) (fun i o d hi ho=>by
    have hx:=jo (Xx hs _ (YY (qT hi)))
    have ho2 : ∀ m : Nat,m≤o.length + 2→(decide (m * 56≤140737488355328)) = true:=fun m hm=>decide_eq_true (by omega)
    simp only [qG.b1,y6,hi,decide_true,cond_true,qT hi,decide_eq_true hp1,decide_eq_true hx,Bool.or_true,vX hi (by omega)]
    show ((bif (!d && ltP a1.path (gt a0 (i : Int)).path) then _ else _ : Option _).bind _) = _
    have hk : ((!decide (((gt a0 (i : Int)).path) = a1.path)) && ((decide (a1.kind = 3)) || (!((decide (a1.path = []) && !decide (((gt a0 (i : Int)).path) = [])) || vw ((gt a0 (i : Int)).path) a1.path)))) = Qy a1 (gt a0 (i : Int)):=by
      rw [decide_eq_false hne]; simp [Qy]
    rw [hk]
    unfold Q5
    rw [ho2 (o.length + [a1].length) (by simp)]
    rcases qo (!d && ltP a1.path (gt a0 (i : Int)).path) with h1 | h1
    · rw [h1]
      simp only [cond_true,Option.bind_some,if_true]
      rw [ho2 ((o ++ [a1]).length + [gt a0 (i : Int)].length) (by simp)]
      rcases qo (Qy a1 (gt a0 (i : Int))) with h2 | h2 <;> simp [h2]
    · rw [h1]
      simp only [cond_false,Option.bind_some,Bool.false_eq_true,if_false]
      rw [ho2 (o.length + [gt a0 (i : Int)].length) (by simp)]
      rcases qo (Qy a1 (gt a0 (i : Int))) with h2 | h2 <;> simp [h2]) (fun o d=>by simp [qG.b1])]
  have hf:=put_fold a1 a0 (Xm hs) []
  have hl2:=hlen a0 ([],false)
  obtain ⟨s,hs2⟩ : ∃ s,a0.foldl (fun s x=>Q5 a1 x s) ([],false) = s:=⟨_,rfl⟩
  rw [hs2] at hf hl2 ⊢
  obtain ⟨o,d⟩:=s
  simp only [List.nil_append,List.length_nil] at hf hl2
  simp only [Option.bind_some]
  have hd : decide ((o.length + [a1].length) * 56≤140737488355328) = true:=decide_eq_true (by simp; omega)
  rw [hd]
  cases d with
  | true=>simpa using hf
  | false=>simpa using hf
theorem qG.eq (n : Nat) (hn : n≤50) (a0 : List Rec) (a1 : Rec) (h : VM n a0 a1 = true) : ∃ k,qG.sh n k a0 a1 = some (Qr n a0 a1):=by
  cases n with
  | zero=>
    obtain ⟨h1,h2,h3,h4⟩:=putOKb_of h
    have hpar : qd a1.path = []:=by
      by_cases hp : qd a1.path = []
      · exact hp
      · have:=Gs hp; omega
    have hpl:=jo h2
    have hd : decide (a1.path.length≤4611686018427387904) = true:=decide_eq_true (by omega)
    refine ⟨a0.length + 1,?_⟩
    unfold qG.sh
    simp only [hd,hpar,cond_true,decide_true,Bool.not_true,cond_false,Option.bind_some]
    exact qG.body a0 a1 h1 h2 (by omega)
  | succ m=>
    obtain ⟨h1,h2,h3,h4⟩:=putOKb_of h
    have hpl:=jo h2
    have hd : decide (a1.path.length≤4611686018427387904) = true:=decide_eq_true (by omega)
    have hd2 : decide (a0.length≤1048576) = true:=decide_eq_true (by omega)
    have plain : VU a0 (qd a1.path) = true∨qd a1.path = []→Qr (m + 1) a0 a1 = VK a0 a1:=by
      intro hc
      rw [Qr,if_neg]
      rintro ⟨c1,c2⟩
      rcases hc with hc | hc
      · rw [hc] at c2; cases c2
      · exact c1 hc
    have made : qd a1.path ≠ []→VU a0 (qd a1.path) = false→VM m a0 ⟨3,qd a1.path,[],493,false⟩ = true∧∃ k,((qt (qG.b1 a1 (Qr m a0 ⟨3,qd a1.path,[],493,false⟩)) k (([] : List Rec),false,0)).bind fun z=>match z with | .inl t=>some t | .inr (x7_54,x8_56)=>bif (!x8_56) then (bif decide ((x7_54.length + ([a1] : List Rec).length) * 56≤140737488355328) then (some (x7_54 ++ ([a1] : List Rec))) else none) else (some x7_54)) = some (Qr (m + 1) a0 a1):=by
      intro hp hd
      have hpp:=YV h2 hp
      have hk:=putOKb_mk (n:=m) (l:=a0) (r:=⟨3,qd a1.path,[],493,false⟩) h1 hpp (parent_depth hp h3) h4
      refine ⟨hk,(Qr m a0 ⟨3,qd a1.path,[],493,false⟩).length + 1,?_⟩
      have e9 : Qr (m + 1) a0 a1 = VK (Qr m a0 ⟨3,qd a1.path,[],493,false⟩) a1:=(show _ = VK (if qd a1.path ≠ []∧VU a0 (qd a1.path) = false then _ else a0) a1 from rfl).trans (by rw [if_pos ⟨hp,hd⟩])
      rw [e9]
      have hl:=putR_len m a0 ⟨3,qd a1.path,[],493,false⟩
      exact qG.body _ a1 (putR_sheetB m _ _ h1 hpp) h2 (by omega)
    by_cases hp : qd a1.path = []
    · refine ⟨a0.length + 1,?_⟩
      rw [plain (.inr hp)]
      unfold qG.sh
      simp only [hd,hp,cond_true,decide_true,Bool.not_true,cond_false,Option.bind_some]
      exact qG.body a0 a1 h1 h2 (by omega)
    · by_cases hf : qJ a0 (qd a1.path) < 0
      · obtain ⟨hk,k,e⟩:=made hp (hasDir_neg hf)
        refine ⟨k,?_⟩
        unfold qG.sh
        simp only [hd,hd2,decide_eq_false hp,decide_eq_true hf,cond_true,Bool.not_false,Option.bind_some,putQ,putG,hk,decide_true]
        exact e
      · have hr:=findR_in hf
        by_cases hkd : (gt a0 (qJ a0 (qd a1.path))).kind = 3
        · refine ⟨a0.length + 1,?_⟩
          rw [plain (.inl (by rw [X5 hf,decide_eq_true hkd]))]
          unfold qG.sh
          simp only [hd,hd2,decide_eq_false hp,decide_eq_false hf,cond_true,cond_false,Bool.not_false,Option.bind_some,hr,decide_eq_true hkd,Bool.not_true]
          exact qG.body a0 a1 h1 h2 (by omega)
        · obtain ⟨hk,k,e⟩:=made hp (by rw [X5 hf,decide_eq_false hkd])
          refine ⟨k,?_⟩
          unfold qG.sh
          simp only [hd,hd2,decide_eq_false hp,decide_eq_false hf,cond_true,cond_false,Bool.not_false,Option.bind_some,hr,decide_eq_false hkd,putQ,putG,hk,decide_true]
          exact e
theorem Sheet.bool {l : List Rec} (h : Sheet l) : Vm l = true:=sheetB_mk (fun x hx=>vV (h.ok x hx)) h.rise
theorem mem_putR : ∀ (n : Nat) (l : List Rec) (r x : Rec),x ∈ Qr n l r→x = r∨x ∈ l∨(x.kind = 3∧(cut 47 x.path).length≤(cut 47 r.path).length):=by
 intro n
 induction n with
 | zero=>
  intro l r x hx
  rcases QA.1 hx with h | ⟨h,_⟩
  ·exact .inl h
  ·exact .inr (.inl h)
 | succ n ih=>
  intro l r x hx
  rw [Qr] at hx
  rcases QA.1 hx with h | ⟨h,_⟩
  ·exact .inl h
  ·split at h
   ·rename_i hc
    have hd:=jV (yH hc.1)
    rcases ih _ _ _ h with h2 | h2 | ⟨h2,h3⟩
    ·subst h2; exact .inr (.inr ⟨rfl,Nat.le_of_lt hd⟩)
    ·exact .inr (.inl h2)
    ·exact .inr (.inr ⟨h2,Nat.le_trans h3 (Nat.le_of_lt hd)⟩)
   ·exact .inr (.inl h)
structure Lay (l : List Rec) : Prop where
 sheet : Sheet l
 len : l.length≤16
 deep : ∀ r ∈ l,(cut 47 r.path).length≤3
theorem Lay.nil : Lay []:=⟨Sheet.nil,by simp,by simp⟩
theorem put_ok {l : List Rec} {r : Rec} (hl : Lay l) (hr : qx r = 0) (hd : (cut 47 r.path).length≤3) : VM 2 l r = true∧((Qr 2 l r).length≤16→Lay (Qr 2 l r)):=by
 have h16:=hl.len
 refine ⟨putOKb_mk hl.sheet.bool (vV hr) (by omega) (by omega),fun h=>⟨(putR_Sheet 2 l r hl.sheet hr (by omega)).1,h,fun x hx=>?_⟩⟩
 rcases mem_putR 2 l r x hx with rfl | h2 | ⟨_,h2⟩
 ·exact hd
 ·exact hl.deep x h2
 ·omega
def yp.b1 (a0 : List Int) : List Rec × Int × DSrc→Option (Step (List Rec × DSrc) (List Rec × Int × DSrc) (List Rec × DSrc)):=
 fun q=>match q with
 | (x3_21,x4_23,y24)=>bif (decide (0 < x4_23)) then (((yy.sh 4 a0 y24)).bind fun z48=>((yx.sh a0 z48.2 z48.1)).bind fun z55=>bif decide (VM 2 x3_21 z55.1 = true) then (bif (decide (((Qr 2 x3_21 z55.1).length : Int)≤16)) then (some (.nxt ((Qr 2 x3_21 z55.1),IntKind.wrap .i64 (x4_23 - 1),z55.2))) else (some (.nxt (x3_21,IntKind.wrap .i64 (x4_23 - 1),z55.2)))) else none) else (some (.brk (x3_21,y24)))
def yp.sh (k : Nat) (a0 : List Int) (a1 : DSrc) : Option (List Rec × DSrc):=
  ((jq.sh a0 a1 6)).bind fun z7=>((vv.sh a0 z7.2 (IntKind.wrap .i64 (z7.1 + 3)))).bind fun z14=>(qt (yp.b1 a0) k (([] : List Rec),z14.1,z14.2)).bind fun z=>match z with | .inl t=>some t | .inr (x3_28,y30)=>some (x3_28,y30)
theorem yp.eq (a0 : List Int) (a1 : DSrc) {r : List Rec × DSrc} (H : yp.sh 12 a0 a1 = some r) : ∃ k,yp.sh k a0 a1 = some r:=⟨12,H⟩
theorem layer_loop {code : List Int} (hc : ∀ x ∈ code,okB x) (hl : code.length≤1048577) : ∀ (i : Nat) (k : Nat) (n : Int) (l : List Rec) (s : DSrc),n + 24 * i≤400000000→i < k→Lay l→SrcOK n s→
  ∃ l' s',qt (yp.b1 code) k (l,(i : Int),s) = some (.inr (l',s'))∧Lay l'∧SrcOK (n + 24 * i) s':=by
 intro i
 induction i with
 | zero=>
  intro k n l s hn hk hs hS
  obtain ⟨k,rfl⟩ : ∃ k',k = k' + 1:=⟨k - 1,by omega⟩
  exact ⟨l,s,by simp [qt,yp.b1],hs,hS.mono (by omega)⟩
 | succ i ih=>
  intro k n l s hn hk hs hS
  obtain ⟨k,rfl⟩ : ∃ k',k = k' + 1:=⟨k - 1,by omega⟩
  have hd : decide ((0 : Int) < ((i + 1 : Nat) : Int)) = true:=decide_eq_true (by omega)
  have hbig : (i : Int)≤400000000:=by have:=hS.p0; have:=hS.p1; omega
  have hw : IntKind.wrap .i64 (((i + 1 : Nat) : Int) - 1) = (i : Int):=by rw [show ((i + 1 : Nat) : Int) - 1 = (i : Int) by omega]; exact wrap_small (by omega) (by omega)
  obtain ⟨t,s1,e1,hs1,ht⟩:=path_ok hc hl (by omega) hS
  obtain ⟨r,s2,e2,hs2,hr,hrp⟩:=G0 hc hl (by omega) hs1 ht.ok
  obtain ⟨p1,p2⟩:=put_ok hs hr (by rw [hrp]; exact ht.parts.1)
  rw [qt]
  simp only [yp.b1,hd,cond_true,e1,e2,Option.bind_some,hw,p1,decide_true]
  by_cases hlen : ((Qr 2 l r).length : Int)≤16
  ·obtain ⟨l',s',e,q1,q3⟩:=ih k (n + 24) (Qr 2 l r) s2 (by omega) (by omega) (p2 (by omega)) (hs2.mono (by omega))
   rw [decide_eq_true hlen]
   exact ⟨l',s',e,q1,q3.mono (by omega)⟩
  ·obtain ⟨l',s',e,q1,q3⟩:=ih k (n + 24) l s2 (by omega) (by omega) hs (hs2.mono (by omega))
   rw [decide_eq_false hlen]
   exact ⟨l',s',e,q1,q3.mono (by omega)⟩
theorem layer_ok {code : List Int} (hc : ∀ x ∈ code,okB x) (hl : code.length≤1048577) {n : Int} (hn : n≤300000000) {s : DSrc} (h : SrcOK n s) : Dr (yp.sh 12 code s) (n + 300) Lay:=by
 unfold yp.sh
 obtain ⟨m,s1,e,hs1,hm0,hm1⟩:=room_ok hl h (m:=6) (by omega)
 rw [e]; simp only [Option.bind_some]
 rw [wrap_small (n:=m + 3) (by omega) (by omega)]
 obtain ⟨i,s2,e,hs2,hi0,hi1⟩:=V2 hc hl (by omega) hs1 (m:=m + 3) (by omega)
 rw [e]; simp only [Option.bind_some]
 obtain ⟨j,rfl⟩ : ∃ j : Nat,i = j:=⟨i.toNat,by omega⟩
 obtain ⟨l',s',e,q1,q3⟩:=layer_loop hc hl j 12 (n + 3) [] s2 (by omega) (by omega) Lay.nil hs2
 rw [e]; simp only [Option.bind_some]
 exact ⟨_,_,rfl,q3.mono (by omega),q1⟩
def ya.sh (a0 : List Int) : Option (List Rec):=
 ((vG.sh a0)).bind fun z1=>((yp.sh 12 a0 z1)).bind fun z8=>some z8.1
theorem ya.eq (a0 : List Int) {r : List Rec} (H : ya.sh a0 = some r) : ya.sh a0 = some r:=H
theorem layerDrawn_ok {code : List Int} (hc : ∀ x ∈ code,okB x) (hl : code.length≤1048577) : ∃ l,ya.sh code = some l∧Lay l:=by
 obtain ⟨s,e,hs⟩:=Xb code
 obtain ⟨l,s',e2,_,h⟩:=layer_ok hc hl (by omega) hs
 exact ⟨l,by simp [ya.sh,e,e2],h⟩
theorem no_white {r : Rec} (h : qx r = 0) : qx ⟨if r.kind = 4 then 3 else r.kind,r.path,r.body,r.mode,false⟩ = 0:=by
 by_cases hk : r.kind = 4
 ·obtain ⟨h1,h2,h3,h4,h5⟩:=(y9 r).1 h
  rw [if_pos hk]
  have hb : r.body = []:=by
   have : ((decide (r.kind = 3) || decide (r.kind = 4)) && !decide (r.body = [])) = false:=(Bool.or_eq_false_iff.1 h4).1
   rw [decide_eq_true hk] at this
   simpa using this
  have hm : r.mode = 0:=by
   have : ((decide (r.kind = 2) || decide (r.kind = 4)) && !decide (r.mode = 0)) = false:=(Bool.or_eq_false_iff.1 h5).2
   rw [decide_eq_true hk] at this
   simpa using this
  rw [hb,hm]
  exact Y3 (by decide) h2 (by decide) (by decide) (by decide)
 ·rw [if_neg hk]; exact V1 h false (by simp)
def vD.b1 (a0 : List Int) : List Rec × Int × DSrc→Option (Step (List Nd × DSrc) (List Rec × Int × DSrc) (List Rec × DSrc)):=
 fun q=>match q with
 | (x3_21,x4_23,y24)=>bif (decide (0 < x4_23)) then (((yy.sh 4 a0 y24)).bind fun z48=>((yx.sh a0 z48.2 z48.1)).bind fun z55=>bif (decide (z55.1.kind = 4)) then (bif decide (VM 2 x3_21 (⟨3,z55.1.path,z55.1.body,z55.1.mode,false⟩ : Rec) = true) then (bif (decide (((Qr 2 x3_21 (⟨3,z55.1.path,z55.1.body,z55.1.mode,false⟩ : Rec)).length : Int)≤16)) then (some (.nxt ((Qr 2 x3_21 (⟨3,z55.1.path,z55.1.body,z55.1.mode,false⟩ : Rec)),IntKind.wrap .i64 (x4_23 - 1),z55.2))) else (some (.nxt (x3_21,IntKind.wrap .i64 (x4_23 - 1),z55.2)))) else none) else (bif decide (VM 2 x3_21 (⟨z55.1.kind,z55.1.path,z55.1.body,z55.1.mode,false⟩ : Rec) = true) then (bif (decide (((Qr 2 x3_21 (⟨z55.1.kind,z55.1.path,z55.1.body,z55.1.mode,false⟩ : Rec)).length : Int)≤16)) then (some (.nxt ((Qr 2 x3_21 (⟨z55.1.kind,z55.1.path,z55.1.body,z55.1.mode,false⟩ : Rec)),IntKind.wrap .i64 (x4_23 - 1),z55.2))) else (some (.nxt (x3_21,IntKind.wrap .i64 (x4_23 - 1),z55.2)))) else none)) else (some (.brk (x3_21,y24)))
def vD.b2 (x3_28 : List Rec) : List Nd × Int→Option (Step (List Nd × DSrc) (List Nd × Int) (List Nd)):=
 fun q=>match q with
 | (x7_100,x8_102)=>bif (decide (x8_102 < (x3_28.length : Int))) then (bif inR x8_102 x3_28.length then (bif decide ((x7_100.length + ([(jl (gt x3_28 x8_102))] : List Nd).length) * 48≤140737488355328) then (some (.nxt (x7_100 ++ ([(jl (gt x3_28 x8_102))] : List Nd),IntKind.wrap .i64 (x8_102 + 1)))) else none) else none) else (some (.brk x7_100))
def vD.sh (k : Nat) (a0 : List Int) (a1 : DSrc) : Option (List Nd × DSrc):=
  ((jq.sh a0 a1 7)).bind fun z7=>((vv.sh a0 z7.2 (IntKind.wrap .i64 (z7.1 + 2)))).bind fun z14=>(qt (vD.b1 a0) k (([] : List Rec),z14.1,z14.2)).bind fun z=>match z with | .inl t=>some t | .inr (x3_28,y30)=>(qt (vD.b2 x3_28) k (([] : List Nd),0)).bind fun z=>match z with | .inl t=>some t | .inr x7_106=>some (x7_106,y30)
theorem vD.eq (a0 : List Int) (a1 : DSrc) {r : List Nd × DSrc} (H : vD.sh 24 a0 a1 = some r) : ∃ k,vD.sh k a0 a1 = some r:=⟨24,H⟩
theorem tree_loop {code : List Int} (hc : ∀ x ∈ code,okB x) (hl : code.length≤1048577) : ∀ (i : Nat) (k : Nat) (n : Int) (l : List Rec) (s : DSrc),n + 24 * i≤400000000→i < k→Lay l→(∀ r ∈ l,r.kind ≠ 4)→SrcOK n s→
  ∃ l' s',qt (vD.b1 code) k (l,(i : Int),s) = some (.inr (l',s'))∧Lay l'∧(∀ r ∈ l',r.kind ≠ 4)∧SrcOK (n + 24 * i) s':=by
 intro i
 induction i with
 | zero=>
  intro k n l s hn hk hs hw hS
  obtain ⟨k,rfl⟩ : ∃ k',k = k' + 1:=⟨k - 1,by omega⟩
  exact ⟨l,s,by simp [qt,vD.b1],hs,hw,hS.mono (by omega)⟩
 | succ i ih=>
  intro k n l s hn hk hs hwt hS
  obtain ⟨k,rfl⟩ : ∃ k',k = k' + 1:=⟨k - 1,by omega⟩
  have hd : decide ((0 : Int) < ((i + 1 : Nat) : Int)) = true:=decide_eq_true (by omega)
  have hbig : (i : Int)≤400000000:=by have:=hS.p0; have:=hS.p1; omega
  have hw : IntKind.wrap .i64 (((i + 1 : Nat) : Int) - 1) = (i : Int):=by rw [show ((i + 1 : Nat) : Int) - 1 = (i : Int) by omega]; exact wrap_small (by omega) (by omega)
  obtain ⟨t,s1,e1,hs1,ht⟩:=path_ok hc hl (by omega) hS
  obtain ⟨r,s2,e2,hs2,hr,hrp⟩:=G0 hc hl (by omega) hs1 ht.ok
  obtain ⟨q,hq⟩ : ∃ q : Rec,q = ⟨if r.kind = 4 then 3 else r.kind,r.path,r.body,r.mode,false⟩:=⟨_,rfl⟩
  have hqf : qx q = 0:=by rw [hq]; exact no_white hr
  have hqk : q.kind ≠ 4:=by
   rw [hq]
   show (if r.kind = 4 then (3 : Int) else r.kind) ≠ 4
   split
   ·decide
   ·assumption
  obtain ⟨p1,p2⟩:=put_ok hs hqf (by rw [hq]; show (cut 47 r.path).length≤3; rw [hrp]; exact ht.parts.1)
  have p3 : ∀ x ∈ Qr 2 l q,x.kind ≠ 4:=by
   intro x hx
   rcases mem_putR 2 l q x hx with rfl | h2 | ⟨h2,_⟩
   ·exact hqk
   ·exact hwt x h2
   ·rw [h2]; decide
  have hstep : vD.b1 code (l,((i + 1 : Nat) : Int),s) = bif decide (((Qr 2 l q).length : Int)≤16) then some (.nxt (Qr 2 l q,(i : Int),s2)) else some (.nxt (l,(i : Int),s2)):=by
   by_cases h4 : r.kind = 4
   ·rw [if_pos h4] at hq
    subst hq
    simp only [vD.b1,hd,cond_true,e1,e2,Option.bind_some,hw,p1,decide_true,decide_eq_true h4]
   ·rw [if_neg h4] at hq
    subst hq
    simp only [vD.b1,hd,cond_true,cond_false,e1,e2,Option.bind_some,hw,p1,decide_true,decide_eq_false h4]
  rw [qt,hstep]
  by_cases hlen : ((Qr 2 l q).length : Int)≤16
  ·obtain ⟨l',s',e,q1,q2,q3⟩:=ih k (n + 24) (Qr 2 l q) s2 (by omega) (by omega) (p2 (by omega)) p3 (hs2.mono (by omega))
   rw [decide_eq_true hlen]
   exact ⟨l',s',e,q1,q2,q3.mono (by omega)⟩
  ·obtain ⟨l',s',e,q1,q2,q3⟩:=ih k (n + 24) l s2 (by omega) (by omega) hs hwt (hs2.mono (by omega))
   rw [decide_eq_false hlen]
   exact ⟨l',s',e,q1,q2,q3.mono (by omega)⟩
theorem XW {α β : Type} (f : α→β) : ∀ (l : List α) (acc : List β),l.foldl (fun s x=>s ++ [f x]) acc = acc ++ l.map f:=by
 intro l
 induction l with
 | nil=>intro acc; simp
 | cons x l ih=>intro acc; simp [ih]
theorem tree_ok {code : List Int} (hc : ∀ x ∈ code,okB x) (hl : code.length≤1048577) {n : Int} (hn : n≤300000000) {s : DSrc} (h : SrcOK n s) : Dr (vD.sh 24 code s) (n + 300) (fun t=>Wood t∧t.length≤16):=by
 unfold vD.sh
 obtain ⟨m,s1,e,hs1,hm0,hm1⟩:=room_ok hl h (m:=7) (by omega)
 rw [e]; simp only [Option.bind_some]
 rw [wrap_small (n:=m + 2) (by omega) (by omega)]
 obtain ⟨i,s2,e,hs2,hi0,hi1⟩:=V2 hc hl (by omega) hs1 (m:=m + 2) (by omega)
 rw [e]; simp only [Option.bind_some]
 obtain ⟨j,rfl⟩ : ∃ j : Nat,i = j:=⟨i.toNat,by omega⟩
 obtain ⟨l',s',e,q1,q2,q3⟩:=tree_loop hc hl j 24 (n + 3) [] s2 (by omega) (by omega) Lay.nil (by simp) hs2
 rw [e]; simp only [Option.bind_some]
 have h16:=q1.len
 obtain ⟨e2,_⟩:=foldI_runK (ρ:=List Nd × DSrc) l' (fun (s : List Nd) x=>s ++ [jl x]) (fun i s=>s.length = i) (vD.b2 l') 24 (by omega) (fun i s hi hs=>by
  have hd : decide ((s.length + ([jl (gt l' (i : Int))] : List Nd).length) * 48≤140737488355328) = true:=decide_eq_true (by simp; omega)
  refine ⟨?_,by simp [hs]⟩
  simp only [vD.b2,y6,hi,decide_true,cond_true,qT hi,hd,vX hi (by omega)]
  rfl) (fun s=>by simp [vD.b2]) [] rfl
 rw [e2]
 simp only [Option.bind_some]
 rw [XW]
 exact ⟨_,_,rfl,q3.mono (by omega),sheet_wood q1.sheet q2,by simpa using h16⟩
def yn.sh (a0 : List Int) : Option (List Nd):=
 ((vG.sh a0)).bind fun z1=>((vD.sh 24 a0 z1)).bind fun z8=>some z8.1
theorem yn.eq (a0 : List Int) {r : List Nd} (H : yn.sh a0 = some r) : yn.sh a0 = some r:=H
theorem treeDrawn_ok {code : List Int} (hc : ∀ x ∈ code,okB x) (hl : code.length≤1048577) : ∃ t,yn.sh code = some t∧Wood t∧t.length≤16:=by
 obtain ⟨s,e,hs⟩:=Xb code
 obtain ⟨t,s',e2,_,h⟩:=tree_ok hc hl (by omega) hs
 exact ⟨t,by simp [yn.sh,e,e2],h⟩
theorem set_paths {l : List Rec} {i : Int} (hi : inR i l.length = true) {r : Rec} (hp : r.path = (gt l i).path) : (Y4 l i r).map (·.path) = l.map (·.path):=by
 obtain ⟨hj,hje⟩:=Jk hi
 unfold Y4
 rw [List.map_set]
 apply List.ext_getElem (by simp)
 intro n h1 h2
 rw [List.getElem_set]
 split
 ·rename_i h; subst h; simp only [List.getElem_map]; rw [hp,← hje]
 ·rfl
theorem set_like {l : List Rec} {i : Int} (hi : inR i l.length = true) {r : Rec} (hp : r.path = (gt l i).path) (hk : r.kind = (gt l i).kind) : ∀ q ∈ l,∃ q' ∈ Y4 l i r,q'.path = q.path∧q'.kind = q.kind:=by
 obtain ⟨hj,hje⟩:=Jk hi
 intro q hq
 obtain ⟨m,hm,rfl⟩:=List.mem_iff_getElem.1 hq
 refine ⟨(Y4 l i r)[m]'(by rw [JK]; exact hm),List.getElem_mem _,?_⟩
 simp only [Y4,List.getElem_set]
 split
 ·rename_i h; subst h; rw [hp,hk,← hje]; exact ⟨rfl,rfl⟩
 ·exact ⟨rfl,rfl⟩
theorem Sheet.set {l : List Rec} (h : Sheet l) {i : Int} (hi : inR i l.length = true) {r : Rec} (hp : r.path = (gt l i).path) (hk : r.kind = (gt l i).kind) (hr : qx r = 0) : Sheet (Y4 l i r):=by
 have hlike:=set_like hi hp hk
 refine ⟨by rw [set_paths hi hp]; exact h.rise,fun x hx=>?_,fun x hx hpx=>?_⟩
 ·rcases List.mem_or_eq_of_mem_set hx with h1 | h1
  ·exact h.ok x h1
  ·rw [h1]; exact hr
 ·have : ∃ q ∈ l,q.path = qd x.path∧q.kind = 3:=by
   rcases List.mem_or_eq_of_mem_set hx with h1 | h1
   ·exact h.par x h1 hpx
   ·subst h1
    rw [hp] at hpx ⊢
    exact h.par _ (YY hi) hpx
  obtain ⟨q,q1,q2,q3⟩:=this
  obtain ⟨q',p1,p2,p3⟩:=hlike q q1
  exact ⟨q',p1,p2.trans q2,p3.trans q3⟩
theorem canonL_lenle (l : List Rec) : (qb l).length≤l.length:=by
 unfold qb; exact List.length_filterMap_le _ _
def jI.sh (a0 : List Int) (a1 : DSrc) (a2 : List Rec) : Option (List Rec × DSrc):=
 bif decide ((([] : List Rec).length + a2.length) * 56≤140737488355328) then (bif (decide (((([] : List Rec) ++ a2).length : Int) = 0)) then (some (([] : List Rec) ++ a2,a1)) else (((vv.sh a0 a1 ((([] : List Rec) ++ a2).length : Int))).bind fun z14=>((vv.sh a0 z14.2 6)).bind fun z21=>bif (decide (z21.1 = 0)) then (bif decide ((([] : List Rec) ++ a2).length≤1048576) then (bif decide (∀ x ∈ (([] : List Rec) ++ a2),qC x.path = true) then (some ((qb (([] : List Rec) ++ a2)),z21.2)) else none) else none) else (bif (decide (z21.1 = 1)) then (bif inR z14.1 (([] : List Rec) ++ a2).length then (bif (decide (((gt (([] : List Rec) ++ a2) z14.1).kind) = 3)) then (bif inR z14.1 (([] : List Rec) ++ a2).length then (bif inR z14.1 (([] : List Rec) ++ a2).length then (some (Y4 (([] : List Rec) ++ a2) z14.1 (⟨(gt (([] : List Rec) ++ a2) z14.1).kind,(gt (([] : List Rec) ++ a2) z14.1).path,(gt (([] : List Rec) ++ a2) z14.1).body,(gt (([] : List Rec) ++ a2) z14.1).mode,(!((gt (([] : List Rec) ++ a2) z14.1).opq))⟩ : Rec),z21.2)) else none) else none) else (some (([] : List Rec) ++ a2,z21.2))) else none) else (bif (decide (z21.1 = 2)) then (bif inS 0 (IntKind.wrap .i64 (((([] : List Rec) ++ a2).length : Int) - 1)) ((([] : List Rec) ++ a2).length : Int) then (some (sub (([] : List Rec) ++ a2) 0 (IntKind.wrap .i64 (((([] : List Rec) ++ a2).length : Int) - 1)),z21.2)) else none) else (bif (decide (z21.1 = 3)) then (bif inR z14.1 (([] : List Rec) ++ a2).length then (((yx.sh a0 z21.2 ((gt (([] : List Rec) ++ a2) z14.1).path))).bind fun z60=>bif decide (VM 2 (([] : List Rec) ++ a2) z60.1 = true) then (bif (decide (((Qr 2 (([] : List Rec) ++ a2) z60.1).length : Int)≤16)) then (some ((Qr 2 (([] : List Rec) ++ a2) z60.1),z60.2)) else (some (([] : List Rec) ++ a2,z60.2))) else none) else none) else (bif (decide (z21.1 = 4)) then (bif inR z14.1 (([] : List Rec) ++ a2).length then (bif (decide (((gt (([] : List Rec) ++ a2) z14.1).kind) = 1)) then (bif inR z14.1 (([] : List Rec) ++ a2).length then (some (Y4 (([] : List Rec) ++ a2) z14.1 (⟨(gt (([] : List Rec) ++ a2) z14.1).kind,(gt (([] : List Rec) ++ a2) z14.1).path,([111,116,104,101,114] : List UInt8),(gt (([] : List Rec) ++ a2) z14.1).mode,(gt (([] : List Rec) ++ a2) z14.1).opq⟩ : Rec),z21.2)) else none) else (some (([] : List Rec) ++ a2,z21.2))) else none) else (some (([] : List Rec) ++ a2,z21.2)))))))) else none
theorem jI.eq (a0 : List Int) (a1 : DSrc) (a2 : List Rec) {r : List Rec × DSrc} (H : jI.sh a0 a1 a2 = some r) : jI.sh a0 a1 a2 = some r:=H
theorem akin_ok {code : List Int} (hc : ∀ x ∈ code,okB x) (hl : code.length≤1048577) {n : Int} (hn : n≤300000000) {s : DSrc} (h : SrcOK n s) {l : List Rec} (hL : Lay l) : Dr (jI.sh code s l) (n + 300) (fun r=>Sheet r∧r.length≤16):=by
 have h16:=hL.len
 unfold jI.sh
 simp only [List.nil_append]
 have hd : decide ((([] : List Rec).length + l.length) * 56≤140737488355328) = true:=decide_eq_true (by simp; omega)
 rw [hd]; simp only [cond_true]
 by_cases h0 : (l.length : Int) = 0
 ·rw [decide_eq_true h0]; simp only [cond_true]
  exact ⟨_,_,rfl,h.mono (by omega),hL.sheet,h16⟩
 ·rw [decide_eq_false h0]; simp only [cond_false]
  obtain ⟨k,s1,e,hs1,hk0,hk1⟩:=V2 hc hl (by omega) h (m:=(l.length : Int)) (by omega)
  rw [e]; simp only [Option.bind_some]
  obtain ⟨i,s2,e,hs2,hi0,hi1⟩:=V2 hc hl (by omega) hs1 (m:=6) (by omega)
  rw [e]; simp only [Option.bind_some]
  have hr : inR k l.length = true:=Vl hk0 hk1
  have hg:=hL.sheet.ok _ (YY hr)
  have hplain : Dr (some (l,s2)) (n + 300) (fun r=>Sheet r∧r.length≤16):=⟨_,_,rfl,hs2.mono (by omega),hL.sheet,h16⟩
  have hcase : i = 0∨i = 1∨i = 2∨i = 3∨i = 4∨i = 5:=by omega
  rcases hcase with rfl | rfl | rfl | rfl | rfl | rfl
  ·have d1 : decide (l.length≤1048576) = true:=decide_eq_true (by omega)
   have d2 : decide (∀ x ∈ l,qC x.path = true) = true:=decide_eq_true fun x hx=>vV (hL.sheet.ok x hx)
   simp only [decide_true,cond_true,d1,d2]
   exact ⟨_,_,rfl,hs2.mono (by omega),V8 hL.sheet,Nat.le_trans (canonL_lenle l) h16⟩
  ·simp only [show decide ((1 : Int) = 0) = false by decide,cond_false,decide_true,cond_true,hr]
   by_cases hk : (gt l k).kind = 3
   ·rw [decide_eq_true hk]; simp only [cond_true]
    refine ⟨_,_,rfl,hs2.mono (by omega),hL.sheet.set hr rfl rfl (V1 hg _ fun _=>hk),by rw [JK]; exact h16⟩
   ·rw [decide_eq_false hk]; exact hplain
  ·have hw : IntKind.wrap .i64 ((l.length : Int) - 1) = (l.length : Int) - 1:=wrap_small (by omega) (by omega)
   have hi2 : inS 0 ((l.length : Int) - 1) (l.length : Int) = true:=Vf (by omega) (by omega) (by omega)
   simp only [show decide ((2 : Int) = 0) = false by decide,show decide ((2 : Int) = 1) = false by decide,cond_false,decide_true,cond_true,hw,hi2]
   have hsub : sub l 0 ((l.length : Int) - 1) = l.take ((l.length : Int) - 1).toNat:=by simp [sub]
   refine ⟨_,_,rfl,hs2.mono (by omega),?_,?_⟩
   ·rw [hsub]; exact hL.sheet.take _
   ·rw [hsub,List.length_take]; omega
  ·simp only [show decide ((3 : Int) = 0) = false by decide,show decide ((3 : Int) = 1) = false by decide,show decide ((3 : Int) = 2) = false by decide,cond_false,decide_true,cond_true,hr]
   obtain ⟨r,s3,e,hs3,hrf,hrp⟩:=G0 hc hl (by omega) hs2 (vV hg)
   rw [e]; simp only [Option.bind_some]
   obtain ⟨p1,p2⟩:=put_ok hL hrf (by rw [hrp]; exact hL.deep _ (YY hr))
   rw [decide_eq_true p1]; simp only [cond_true]
   by_cases hlen : ((Qr 2 l r).length : Int)≤16
   ·rw [decide_eq_true hlen]
    have:=p2 (by omega)
    exact ⟨_,_,rfl,hs3.mono (by omega),this.sheet,this.len⟩
   ·rw [decide_eq_false hlen]
    exact ⟨_,_,rfl,hs3.mono (by omega),hL.sheet,h16⟩
  ·simp only [show decide ((4 : Int) = 0) = false by decide,show decide ((4 : Int) = 1) = false by decide,show decide ((4 : Int) = 2) = false by decide,show decide ((4 : Int) = 3) = false by decide,cond_false,decide_true,cond_true,hr]
   by_cases hk : (gt l k).kind = 1
   ·rw [decide_eq_true hk]; simp only [cond_true]
    obtain ⟨g1,g2,g3,g4,g5⟩:=(y9 _).1 hg
    refine ⟨_,_,rfl,hs2.mono (by omega),hL.sheet.set hr rfl rfl ?_,by rw [JK]; exact h16⟩
    refine Y3 g1 g2 ?_ ?_ g5
    ·simp [hk]
    ·rw [hk] at g4 ⊢
     simpa using g4
   ·rw [decide_eq_false hk]; exact hplain
  ·simp only [show decide ((5 : Int) = 0) = false by decide,show decide ((5 : Int) = 1) = false by decide,show decide ((5 : Int) = 2) = false by decide,show decide ((5 : Int) = 3) = false by decide,show decide ((5 : Int) = 4) = false by decide,cond_false]
   exact hplain
def yo.sh (a0 : List Int) (a1 : List Rec) : Option (List Rec):=
 ((vG.sh a0)).bind fun z1=>((jI.sh a0 z1 a1)).bind fun z8=>some z8.1
theorem yo.eq (a0 : List Int) (a1 : List Rec) {r : List Rec} (H : yo.sh a0 a1 = some r) : yo.sh a0 a1 = some r:=H
theorem akinDrawn_ok {code : List Int} (hc : ∀ x ∈ code,okB x) (hl : code.length≤1048577) {a : List Rec} (ha : Lay a) : ∃ l,yo.sh code a = some l∧Sheet l∧l.length≤16:=by
 obtain ⟨s,e,hs⟩:=Xb code
 obtain ⟨l,s',e2,_,h⟩:=akin_ok hc hl (by omega) hs ha
 exact ⟨l,by simp [yo.sh,e,e2],h⟩
end Go.UL
