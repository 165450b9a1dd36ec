import Derived.ProofKit
import Derived.OpenShut
import Derived.OpenVars
import Derived.HandedShaped
import Derived.Shelf.Vars
import Derived.LaidMore
import Derived.Lay
import Derived.SevenTiedAt
import Derived.JoinedOf
import Derived.Stop.Joined
import Derived.Test.YtdhmlillkbjjjaaGreatDoorK
set_option linter.unusedVariables false
namespace Go.UL
open Go.ChangeShapes Go.WideShapes Go.ChangeAt Go.RowKit Go.WideElems Go.ChangeMaps
def Jo (P : Program) (ts : List TypeId) : Bool:=ts.all fun t=>P.readableRec t && decide (t < P.types.size)
theorem JM {H : Type} {enc : TypeId × Value→H} {P : Program} (hl : laidOutB P = true) {W W' : World} (hb : Below W.heap.size W W') {sp : Nat→Bool} :
  ∀ {ts : List TypeId} {vs : List Value} {ds : List (DataW H)} {ps : List MemPlace},Jo P ts = true→DataW.TrodAll enc P W 0 (fun _=>true) true ts vs ds ps→
   (∀ x ∈ ps,x.block < W.heap.size)→(∀ x ∈ ps,sp x.block = true)→DataW.TrodAll enc P W' 0 sp true ts vs ds ps
 | [],[],[],_,_,h,_,_=>h
 | [],[],_ :: _,_,_,h,_,_=>h.elim
 | [],_ :: _,_,_,_,h,_,_=>h.elim
 | _ :: _,[],_,_,_,h,_,_=>h.elim
 | _ :: _,_ :: _,[],_,_,h,_,_=>h.elim
 | t :: ts,v :: vs,d :: ds,ps,hr,h,hlt,hs=>by
  obtain ⟨p,q,h1,h2,rfl⟩:=h
  simp only [Jo,List.all_cons,Bool.and_eq_true,decide_eq_true_eq] at hr
  exact ⟨p,q,Trod_stays hl hr.1.1 hr.1.2 h1 (fun x hx=>hb.same (hlt x (List.mem_append_left _ hx))) (fun x hx=>hs x (List.mem_append_left _ hx)),
   JM hl hb hr.2 h2 (fun x hx=>hlt x (List.mem_append_right _ hx)) (fun x hx=>hs x (List.mem_append_right _ hx)),rfl⟩
theorem YV {H : Type} {enc : TypeId × Value→H} {P : Program} (hl : laidOutB P = true) {W W' : World} (hb : Below W.heap.size W W') {sp : Nat→Bool} :
  ∀ {ns : List String} {gs : List (DataW H)} {ps : List MemPlace},varsRowed P ns = true→DataW.TrodVars enc P W (fun _=>true) ns gs ps→(∀ x ∈ ps,sp x.block = true)→DataW.TrodVars enc P W' sp ns gs ps
 | [],[],_,_,h,_=>h
 | [],_ :: _,_,_,h,_=>h.elim
 | _ :: _,[],_,_,h,_=>h.elim
 | n :: ns,d :: ds,ps,hv,h,hsp=>by
  have hlt:=h.lt
  obtain ⟨g,t,cs,fuel,p,q,h1,h2,h3,h4,hs,e⟩:=h
  simp only [varsRowed,List.all_cons,Bool.and_eq_true] at hv
  have ht : P.readableRec t = true∧t < P.types.size:=by
   have:=hv.1
   rw [h1] at this
   cases hg : P.globals[g]? with
   | none=>rw [hg] at h2; cases h2
   | some gl=>
    rw [hg] at h2
    obtain rfl : gl.type = t:=Option.some.inj h2
    simpa [hg] using this
  have hp : ∀ x ∈ p,x.block < W.heap.size:=fun x hx=>hlt x (by rw [e]; simp [hx])
  have h3' : W'.var? P n = some cs:=by
   unfold World.var? at h3 ⊢
   rw [h1] at h3 ⊢
   simp only [Option.bind_some] at h3 ⊢
   have hg : g < W.heap.size:=by
    cases hh : W.heap[g]? with
    | none=>rw [hh] at h3; cases h3
    | some o=>exact (Array.getElem?_eq_some_iff.1 hh).1
   rw [hb.block g hg]; exact h3
  exact ⟨g,t,cs,fuel,p,q,h1,h2,h3',DataW.trod_stays (kids_book hl ht.1) (book_sized ht.1) (fun h=>by cases h) ⟨ht.2,book_self t⟩ h4 (fun x hx=>hb.same (hp x hx)) (fun x hx=>hsp x (by rw [e]; simp [hx])),
   YV hl hb (by simpa [varsRowed] using hv.2) hs (fun x hx=>hsp x (by rw [e]; simp [hx])),e⟩
theorem law_post {H : Type} {enc : TypeId × Value→H} {P : Program} {f : Func} {s : ChangeSpec} {W W' : World} {args : Array Value} {ds gs : List (DataW H)} {before : List MemPlace}
  (hl : laidOutB P = true) (hps : Jo P f.params.toList = true) (hvs : varsRowed P s.vars = true)
  (hfn : s.fn H (ds ++ gs) = { results:=[.lit (.bool true)],args:=ds,vars:=gs })
  (hW : DataW.Whole enc P f.params.toList s.vars false W args.toList ds gs before)
  {tb : TypeId} (hr : f.resultTypes = #[tb]) (hub : P.underlying tb = some .bool) (hb : Below W.heap.size W W') :
  s.post enc P f false true false false W args (.bool true) W':=by
 have hlt : ∀ p ∈ before,p.block < W.heap.size:=fun p hp=>hW.lt p hp
 have hold : ∀ p ∈ before,(fun b=>decide (b < W.heap.size)) p.block = true:=fun p hp=>by simpa using hlt p hp
 have hW0:=hW
 obtain ⟨pa,pv,hA,hV,rfl,hz,hn⟩:=hW
 have hargs : ∀ sp : Nat→Bool,(∀ p ∈ pa ++ pv,sp p.block = true)→DataW.TrodAll enc P W' 0 sp true f.params.toList args.toList (s.fn H (ds ++ gs)).args pa:=fun sp hs=>by
  rw [hfn]
  exact JM hl hb hps hA (fun x hx=>hlt x (List.mem_append_left _ hx)) (fun x hx=>hs x (List.mem_append_left _ hx))
 have hvars : ∀ sp : Nat→Bool,(∀ p ∈ pa ++ pv,sp p.block = true)→DataW.TrodVars enc P W' sp s.vars (s.fn H (ds ++ gs)).vars pv:=fun sp hs=>by
  rw [hfn]
  exact YV hl hb hvs hV (fun x hx=>hs x (List.mem_append_right _ hx))
 have hres : ∀ (b : Nat) (sp : Nat→Bool) (hd : Bool),DataW.TrodAll enc P W' b sp hd f.resultTypes.toList ((Value.bool true).resultList f.resultTypes.size) (s.fn H (ds ++ gs)).results []:=fun b sp hd=>by
  rw [hfn,hr]
  exact trodAll_cons_mk (shut_bool hub true) trodAll_mk0
 have hok:=ok_one (P:=P) (W':=W') (f:=f) (v:=.bool true) hr rfl (okWide_bool_mk hub true)
 refine ⟨ds,gs,pa ++ pv,[],pa,pv,hW0,hres _ _ _,hargs _ hold,hvars _ hold,World.keptBut_mono (fun p hp=>⟨hp,?_⟩) (hb.frame (· ∈ pa ++ pv)),fun _=>?_⟩
 ·rw [List.mem_append] at hp
  exact Or.inr hp
 ·refine ⟨hok,_,_,([] ++ pa) ++ pv,⟨[] ++ pa,pv,trodAll_append (hargs _ (fun _ _=>rfl)) (hres _ _ _),hvars _ (fun _ _=>rfl),rfl,?_,?_⟩,?_⟩
  ·intro b off hp
   have hin : MemPlace.cell b off ∈ pa ++ pv:=by simpa using hp
   rw [hb.frozen (hlt _ hin)]
   exact hz b off hin
  ·intro ha
   cases ha
  ·intro p hp _
   simpa using hp
theorem add_add (a : Addr) (i j : Nat) : (a.add i).add j = a.add (i + j):=by
 unfold Addr.add
 by_cases h1 : i = 0 <;> by_cases h2 : j = 0 <;> simp_all [Nat.add_assoc]
section
variable {H : Type} {enc : TypeId × Value → H} {P : Program} {w : World} {r : Reach} {base b0 : Nat} {sp : Nat → Bool} {held : Bool}
def GC {α : Type} (enc : TypeId × Value→H) (P : Program) (w : World) (base : Nat) (sp : Nat→Bool) (held : Bool) (e : TypeId) (enc' : α→List Value) (ok : α→Prop) : Prop:=
 ∀ (fuel : Nat) (cs : List Value) (x : DataW H × List MemPlace),DataW.trod enc P w base sp held fuel e cs = some x→∃ a,cs = enc' a∧ok a
theorem X7 {α : Type} {e : TypeId} {sz : Nat} {enc' : α→List Value} {ok : α→Prop} {n : Nat} (hE : GC enc P w base sp held e enc' ok) (hsz : P.cellsOf e = sz) (a : Addr) :
  ∀ (len : Nat) (off : Nat) (elems : List (DataW H × List MemPlace)),elems.length = len→(∀ i,i < len→(w.cells? base (a.add ((off + i) * P.cellsOf e)) (P.cellsOf e)).bind (DataW.trod enc P w base sp held n e) = elems[i]?)→
  ∃ xs : List α,xs.length = len∧(∀ x ∈ xs,ok x∧(enc' x).length = sz)∧∀ j (h : j < xs.length) (f : Nat) (u : Value),(enc' xs[j])[f]? = some u→w.cell? (a.add ((off + j) * sz + f)) = some u:=by
 intro len
 induction len with
 | zero=>intro off elems _ _; exact ⟨[],rfl,by simp,by simp⟩
 | succ len ih=>
  intro off elems hl h
  cases elems with
  | nil=>simp at hl
  | cons el rest=>
   have h0:=h 0 (by omega)
   simp only [Nat.add_zero,List.getElem?_cons_zero,Option.bind_eq_some_iff] at h0
   obtain ⟨cs,hc,ht⟩:=h0
   obtain ⟨x,rfl,hok⟩:=hE _ _ _ ht
   obtain ⟨_,hlen,hcell⟩:=World.cells?_some hc
   obtain ⟨xs,hxl,hxs,hxc⟩:=ih (off + 1) rest (by simpa using hl) (fun i hi=>by
    have:=h (i + 1) (by omega)
    rw [show off + (i + 1) = off + 1 + i by omega] at this
    simpa using this)
   refine ⟨x :: xs,by simp [hxl],?_,?_⟩
   ·intro y hy
    rcases List.mem_cons.1 hy with rfl | hy
    ·exact ⟨hok,by rw [hlen,hsz]⟩
    ·exact hxs y hy
   ·intro j hj f u hu
    cases j with
    | zero=>
     have hf : f < (enc' x).length:=(List.getElem?_eq_some_iff.1 hu).1
     have:=hcell f (by rw [hsz]; rw [hlen,hsz] at hf; exact hf)
     rw [add_add,hsz] at this
     simp only [Nat.add_zero]
     rw [this]; exact hu
    | succ j=>
     have:=hxc j (by simpa using hj) f u (by simpa using hu)
     rw [show off + (j + 1) = off + 1 + j by omega]
     exact this
theorem GJ {α : Type} {t e : TypeId} {sz : Nat} {enc' : α→List Value} {ok : α→Prop} (hE : GC enc P w base sp held e enc' ok) (hsz : P.cellsOf e = sz) (ht : P.underlying t = some (.slice e)) :
  GC enc P w base sp held t QV (fun u=>∃ xs : List α,Rd sz enc' w u xs∧∀ x ∈ xs,ok x):=by
 intro fuel cs x h
 rcases DataW.trod_slice ht h with ⟨rfl,_⟩ | ⟨a,len,cap,elems,rest,n,_,rfl,_,_,hlc,hcm,hel,hread,_⟩
 ·exact ⟨_,rfl,[],Rd.nil _ _ _,by simp⟩
 ·obtain ⟨xs,hxl,hxs,hxc⟩:=X7 (n:=n) hE hsz a len 0 elems hel (fun i hi=>by simpa using hread i hi)
  refine ⟨_,rfl,xs,⟨some a,cap,by rw [hxl],⟨by omega,by simp,by unfold maxLen at hcm; omega⟩,fun x hx=>(hxs x hx).2,fun _=>⟨a,rfl,fun j hj f u hu=>?_⟩⟩,fun x hx=>(hxs x hx).1⟩
  have:=hxc j hj f u hu
  simpa using this
theorem Qu {cs : List Value} {k : Nat} {v : Value} (h : (cs.drop k).take 1 = [v]) : cs[k]? = some v:=by
 have:=congrArg (·[0]?) h
 simpa [List.getElem?_take,List.getElem?_drop] using this
theorem Gs {t ti ts : TypeId} {fs : Array Field} (ht : P.underlying t = some (.struct fs)) (hn : P.cellsOf t = 4) (hf : fs.toList.map (fun f=>(f.offset,f.type)) = [(0,ti),(1,ts),(2,ts),(3,ti)])
  (hi : P.underlying ti = some (.int .i64)) (hs : P.underlying ts = some .string) (ci : P.cellsOf ti = 1) (cs' : P.cellsOf ts = 1) : GC enc P w base sp held t qJ YG:=by
 intro fuel cs x h
 obtain ⟨xs,n,_,_,hl,hlen,hg⟩:=DataW.trod_struct ht h
 have fld : ∀ (i o : Nat) (ty : TypeId),(fs.toList.map (fun f=>(f.offset,f.type)))[i]? = some (o,ty)→P.cellsOf ty = 1→∃ y,DataW.trod enc P w base sp held n ty ((cs.drop o).take 1) = some y:=by
  intro i o ty hi h1
  rw [List.getElem?_map,Option.map_eq_some_iff] at hi
  obtain ⟨f,hf0,he⟩:=hi
  simp only [Prod.mk.injEq] at he
  obtain ⟨rfl,rfl⟩:=he
  have hf1 : fs[i]? = some f:=by simpa using hf0
  have hlt : i < xs.length:=by rw [hlen]; exact (Array.getElem?_eq_some_iff.1 hf1).1
  have:=hg i f hf1
  rw [h1,List.getElem?_eq_getElem hlt] at this
  exact ⟨_,this⟩
 rw [hf] at fld
 obtain ⟨y0,h0⟩:=fld 0 0 ti rfl ci
 obtain ⟨y1,h1⟩:=fld 1 1 ts rfl cs'
 obtain ⟨y2,h2⟩:=fld 2 2 ts rfl cs'
 obtain ⟨y3,h3⟩:=fld 3 3 ti rfl ci
 obtain ⟨n0,e0,_,_⟩:=DataW.trod_int hi h0
 obtain ⟨s1,e1,_,l1⟩:=DataW.trod_string hs h1
 obtain ⟨s2,e2,_,l2⟩:=DataW.trod_string hs h2
 obtain ⟨n3,e3,_,_⟩:=DataW.trod_int hi h3
 have g0:=Qu e0
 have g1:=Qu e1
 have g2:=Qu e2
 have g3:=Qu e3
 rw [hn] at hl
 refine ⟨⟨n0,s1.data.toList,s2.data.toList,n3⟩,?_,?_,?_⟩
 ·match cs,hl with
  | [c0,c1,c2,c3],_=>
   simp at g0 g1 g2 g3
   subst g0 g1 g2 g3
   simp [qJ,S]
 ·exact l1
 ·exact l2
theorem XJ {α : Type} {t e : TypeId} {sz : Nat} {v : Value} {d : DataW H} {ps : List MemPlace} {enc' : α→List Value} {ok : α→Prop} (hE : GC enc P w base sp held e enc' ok) (hsz : P.cellsOf e = sz) (ht : P.underlying t = some (.slice e))
  (hval : Value.okWide P w r b0 t v) (hd : DataW.Trod enc P w base sp held t v d ps) : ∃ xs : List α,Rd sz enc' w v xs∧∀ x ∈ xs,ok x:=by
 obtain ⟨fuel,hf⟩:=hd
 obtain ⟨u,hu,hR⟩:=GJ hE hsz ht _ _ _ hf
 obtain ⟨p,n,c,rfl⟩:=okWide_slice ht hval
 simp [Value.cells] at hu
 subst hu
 exact hR
end
theorem GZ {H : Type} {enc : TypeId × Value→H} {a : Assume} {C : Checked} {os : Os} {f : FuncId} {fn : Func} {s : ChangeSpec} {conds : List PathCond} {apart fresh handsOn again : Bool} {X : World→Array Value→Prop}
  (own : ownKnob C.prog.godebug = none) (started : os.Started) (noInit : C.prog.inits.idxOf? f = none) (hfn : C.prog.funcs[f]? = some fn)
  (XE : ∃ (w : World) (tape : Tape) (i : Input),w.os = os∧(w.forCall tape i).Shaped C.prog∧i.vars = []∧Input.okWide C.prog (w.forCall tape i) .any w.heap.size f i∧
   ((s.pre enc C.prog fn conds apart (w.forCall tape i).memory i.args∧X (w.forCall tape i).memory i.args)∧sizedMet enc C.prog fn (OpenSpec.ofChange s) apart (w.forCall tape i).memory i.args)∧a.holds C.prog (lone (Frame.enter C.prog f i.args .normal) [] (w.forCall tape i)))
  (contract : ∀ (W : World) (base : Nat) (args : Array Value) (ds gs : List (DataW H)) (before : List MemPlace),
   (∀ (j : Nat) t v,fn.params[j]? = some t→args[j]? = some v→Value.okWide C.prog W .any base t v)→
   DataW.Whole enc C.prog fn.params.toList s.vars apart W args.toList ds gs before→
   W.ShapedOpen C.prog→
   Calls C.prog f args W fun e W'=>∃ v,e = .returned v∧s.post enc C.prog fn apart fresh handsOn again W args v W') :
  ReturnsInHanded a C os f .any (fun w args=>(s.pre enc C.prog fn conds apart w args∧X w args)∧sizedMet enc C.prog fn (OpenSpec.ofChange s) apart w args) (s.post enc C.prog fn apart fresh handsOn again):=by
 refine returnsInHanded_of_calls own started noInit XE ?_
 intro w tape i _ hsh _ hok hpre hholds
 obtain ⟨_,_,_,fn',hfn',_,_,_,_,hval⟩:=hok
 have e : fn' = fn:=Option.some.inj (hfn'.symm.trans hfn)
 subst e
 obtain ⟨⟨⟨ds,gs,before,hw,hc⟩,hx⟩,hz⟩:=hpre
 have hw':=DataW.Whole.of_heap (w':=w.forCall tape i) (by rfl) hw
 refine (contract (w.forCall tape i) w.heap.size i.args ds gs before hval hw' hsh).mono fun e W' ⟨v,he,hp⟩=>?_
 subst he
 exact ChangeSpec.post_blind hp
theorem joined_of {P : Program} {f : FuncId} {fn : Func} {s : ChangeSpec} {c : OpenClaim} (h1 : c.wf (OpenSpec.ofChange s) = true) (hl : laidOutB P = true) (hm : mapsRowed P = true)
    (h2 : (fn.params.all (P.readableRec ·) && namedTie P c.named s.vars && (c.stops == []) && (P.stops == []) && (c.knobs == []) && (P.stopKnobs == [])) = true)
    (k1 : (c.inPlace == P.inPlace f) = true) (k2 : (c.unfollowed == P.unfollowed f) = true) (k3 : (c.recurses == P.recurses f) = true) (k4 : (c.named == P.varsNamed f) = true)
    (h3 : ((c.maps == (fn.params.toList ++ s.plain.varTypes P).any (P.mapsRec ·)) && (c.ifaces == (fn.params.toList ++ s.plain.varTypes P).any (P.ifacesRec ·)) && (c.mapsOut == P.mapsAmong fn.resultTypes.toList) &&
      (c.loops == (fn.params.toList ++ s.plain.varTypes P).any (P.loopsFrom ·)) && (c.wideKeys == (fn.params.toList ++ s.plain.varTypes P ++ fn.resultTypes.toList).any (P.wideKeysFrom ·)) &&
      s.vars.all (P.varReadable ·) && fn.resultTypes.all (fun t=>P.readableRec t && decide (t < P.types.size)) && (c.ifacesOut == fn.resultTypes.toList.any (P.ifacesRec ·)) && (c.loopsOut == fn.resultTypes.toList.any (P.loopsFrom ·))) = true)
    (hk : (c.plainKeys == P.plainKeys) = true) (hs : c.shortTexts.isNone = true) (hh : P.stopsHeard = true) (he : P.mayEnter = true) (hf : (c.lifted == P.liftsFinal) = true)
    (h4 : ((P.make == some c.make) && (c.kinds == (if c.domain.isEmpty then [] else fn.params.toList.map fun t=>match P.underlying t with | some (.int k)=>some k | _=>none)) && (c.pinned == c.pinnedBy) &&
      (c.veiled == (fn.params.toList ++ s.plain.varTypes P ++ fn.resultTypes.toList).any (P.veiledRec ·)) && c.veiledFits P fn.params.toList (fn.params.toList ++ s.plain.varTypes P ++ fn.resultTypes.toList)) = true) :
    joinedFacts P f fn s c = true:=by
  unfold joinedFacts
  rw [Bool.and_eq_true,Bool.and_eq_true,Bool.and_eq_true,Bool.and_eq_true] at h4
  obtain ⟨⟨⟨⟨p1,p2⟩,p3⟩,p4⟩,p5⟩:=h4
  simp only [Bool.and_eq_true] at h2 h3
  obtain ⟨⟨⟨⟨⟨a1,a2⟩,a3⟩,a4⟩,a5⟩,a6⟩:=h2
  obtain ⟨⟨⟨⟨⟨⟨⟨⟨b1,b2⟩,b3⟩,b4⟩,b5⟩,b6⟩,b7⟩,b8⟩,b9⟩:=h3
  exact (qQ (qQ (qQ (qQ (qQ (qQ (qQ (qQ (qQ (qQ (qQ (qQ (qQ (qQ (qQ (qQ (qQ (qQ (qQ (qQ (qQ (qQ (qQ (qQ (qQ (qQ (qQ (qQ (qQ (qQ (qQ h1 hl) hm) a1) a2) a3) a4) a5) a6) k1) k2) k3) k4) b1) b2) b3) b4) b5) b6) b7) b8) b9) hk) hs) hh) he) hf) p1) p2) p3) p4) p5)
theorem G1 {P : Program} {c : OpenClaim} (h : P.funcs.any Func.goes = false) (hs : c.start = .entering) : false = c.goesBy P:=by
 have h1 : ∀ g : Nat,(P.funcs[g]?).any Func.goes = false:=fun g=>by
  cases hg : P.funcs[g]? with
  | none=>rfl
  | some fn=>
   rw [Option.any_some]
   cases hf : fn.goes with
   | false=>rfl
   | true=>
    obtain ⟨hl,he⟩:=Array.getElem?_eq_some_iff.1 hg
    have : P.funcs.any Func.goes = true:=by
     rw [Array.any_eq_true]
     exact ⟨g,hl,by rw [he]; exact hf⟩
    rw [h] at this; cases this
 have h2 : ∀ f,P.goes f = false:=fun f=>by
  unfold Program.goes
  rw [h,Bool.and_false,Bool.or_false]
  cases ha : (P.closure f).any fun g=>(P.funcs[g]?).any Func.goes with
  | false=>rfl
  | true=>
   obtain ⟨g,_,hg⟩:=List.any_eq_true.1 ha
   rw [h1] at hg; cases hg
 unfold OpenClaim.goesBy Program.goesAt Program.goesFrom
 rw [hs]
 cases P.funcNamed c.func with
 | none=>rfl
 | some f=>rw [Option.any_some,h2]; rfl
end Go.UL
