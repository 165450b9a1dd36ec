import Derived.RangeFuncNested
import Derived.RangeFuncCalls
import Derived.RangeFuncLeaves
import Derived.RangeFuncFrom
import Derived.LoopNIn
import Derived.Test.YtdhmlillkbjjjaaGreatDoorK
set_option linter.unusedVariables false
set_option linter.unusedSimpArgs false
namespace Go.UL
open Go.RowKit
structure RepD (N : Nat) (ds : List Deferred) (a : Act) (σ : Fr) : Prop where
 size : a.tmps.size = N
 defers : a.defers = ds
 get : ∀ t,a.tmps.getD t undef = σ t
theorem RepD.ev {N : Nat} {ds : List Deferred} {a : Act} {σ : Fr} (h : RepD N ds a σ) : a.eval = ev σ:=by
 funext x
 cases x with
 | tmp t=>exact h.get t
 | const v=>rfl
 | global g=>rfl
 | func f=>rfl
theorem RepD.put {N : Nat} {ds : List Deferred} {a : Act} {σ : Fr} (h : RepD N ds a σ) (d : Nat) (hd : d < N) (v : Value) : RepD N ds (a.put (some d) v) (upd σ d v):=by
 refine ⟨by simp [Act.put,h.size],by simp [Act.put,h.defers],fun t=>?_⟩
 simp only [Act.put]
 by_cases e : t = d
 ·subst e
  rw [Yc,Array.getD_eq_getD_getElem?,Array.getElem?_setIfInBounds_self_of_lt (by rw [h.size]; exact hd)]
  rfl
 ·rw [YW _ _ _ _ e,Array.getD_eq_getD_getElem?,Array.getElem?_setIfInBounds_ne (fun h=>e h.symm),← Array.getD_eq_getD_getElem?]
  exact h.get t
def actOf (N : Nat) (σ : Fr) : Act:={ tmps:=(Array.range N).map σ,defers:=[] }
theorem RepD.act {N : Nat} {a : Act} {σ : Fr} (h : RepD N [] a σ) : a = actOf N σ:=by
 have h1 : a.tmps = (Array.range N).map σ:=by
  apply Array.ext
  ·simp [h.size]
  ·intro i h1 h2
   have:=h.get i
   rw [Array.getD_eq_getD_getElem?,Array.getElem?_eq_getElem h1] at this
   simpa using this
 cases a with
 | mk t d=>simp only at h1; have:=h.defers; simp only at this; subst h1; subst this; rfl
theorem RepD.far {N : Nat} {ds : List Deferred} {a : Act} {σ : Fr} (h : RepD N ds a σ) : ∀ t,N≤t→σ t = undef:=fun t ht=>by
 have:=h.get t
 rw [Array.getD_eq_getD_getElem?,Array.getElem?_eq_none (by rw [h.size]; exact ht)] at this
 exact this.symm
theorem upd_far {σ : Fr} {N d : Nat} {v : Value} (hd : d < N) (h : ∀ t,N≤t→σ t = undef) : ∀ t,N≤t→upd σ d v t = undef:=fun t ht=>by
 rw [YW _ _ _ _ (by omega)]; exact h t ht
theorem actOf_rep {N : Nat} {σ : Fr} (h : ∀ t,N≤t→σ t = undef) : RepD N [] (actOf N σ) σ:=by
 refine ⟨by simp [actOf],rfl,fun t=>?_⟩
 simp only [actOf,Array.getD_eq_getD_getElem?,Array.getElem?_map]
 by_cases ht : t < N
 ·simp [ht]
 ·rw [h t (by omega)]; simp [ht]
theorem RepD.two {N : Nat} {a : Act} {σ : Fr} (h : RepD N [] a σ) (p q : Nat) (hp : p < N) (hq : q < N) (u v : Value) : RepD N [] { tmps:=((#[p,q] : Array Tmp).zip #[u,v]).foldl (fun t (p,v)=>t.setIfInBounds p v) a.tmps,defers:=[] } (upd (upd σ p u) q v):=by
 have h2:=(h.put p hp u).put q hq v
 have e : ((#[p,q] : Array Tmp).zip #[u,v]).foldl (fun t (p,v)=>t.setIfInBounds p v) a.tmps = (a.tmps.setIfInBounds p u).setIfInBounds q v:=by simp
 rw [e]
 exact ⟨h2.size,rfl,h2.get⟩
abbrev GG:=Exit→List Deferred→Fr→World→Prop
def liftD (N : Nat) (Q : GG) : Exit→Act→World→Prop:=fun e a w=>∃ σ ds,RepD N ds a σ∧Q e ds σ w
def WI (F : Fence) (n : Nat) (P : Program) (N : Nat) (ds : List Deferred) (c : Code) (Q : GG) (σ : Fr) (w : World) : Prop:=∀ a,RepD N ds a σ→c.wpIn F n P (liftD N Q) a w
def thnD (K : List Deferred→Fr→World→Prop) (Q : GG) : GG
 | .normal,ds,σ,w=>K ds σ w
 | .exit i,ds,σ,w=>Q (.exit i) ds σ w
 | .ret,ds,σ,w=>Q .ret ds σ w
 | .goto l,ds,σ,w=>Q (.goto l) ds σ w
 | .panic ch,ds,σ,w=>Q (.panic ch) ds σ w
 | .outgrown,ds,σ,w=>Q .outgrown ds σ w
def blkD (i : Nat) (Q : GG) : GG
 | .exit j,ds,σ,w=>cond (Nat.beq j i) (Q .normal ds σ w) (Q (.exit j) ds σ w)
 | .normal,ds,σ,w=>Q .normal ds σ w
 | .ret,ds,σ,w=>Q .ret ds σ w
 | .goto l,ds,σ,w=>Q (.goto l) ds σ w
 | .panic ch,ds,σ,w=>Q (.panic ch) ds σ w
 | .outgrown,ds,σ,w=>Q .outgrown ds σ w
structure Open (F : Fence) : Prop where
 fn : ∀ f,F.fn f
 depth : F.depth = none
 calls : ∀ {P : Program} {f : FuncId} {args : Array Value} {w : World} {R : Ending→World→Prop} {m : Nat},Calls P f args w R→CallsIn F m P f args w R
theorem yg : Open Fence.wide:=⟨fun _=>trivial,rfl,callsIn_wide.2⟩
theorem VX (l : Nat) : Open (Fence.wide.inRound l):=⟨fun _=>trivial,rfl,fun h=>CallsIn.inRound l (callsIn_wide.2 h)⟩
def Y1 : Op→Bool | .defer _=>false | _=>true
section
variable {F : Fence} {n : Nat} {P : Program} {N : Nat} {ds : List Deferred} {Q : GG} {σ : Fr} {w : World}
theorem YT {x y : Code} (h : WI F n P N ds x (thnD (fun ds σ w=>WI F n P N ds y Q σ w) Q) σ w) : WI F n P N ds (.seq x y) Q σ w:=fun a ha=>
 wpIn_seq (wpIn_mono (h a ha) (fun e a' w' hq=>by
  obtain ⟨σ',ds',hr,hq⟩:=hq
  cases e with
  | normal=>exact hq a' hr
  | _=>exact ⟨σ',ds',hr,hq⟩))
theorem WI_ret (h : Q .ret ds σ w) : WI F n P N ds .ret Q σ w:=fun a ha=>wpIn_ret ⟨σ,ds,ha,h⟩
theorem WI_skip (h : Q .normal ds σ w) : WI F n P N ds .skip Q σ w:=fun a ha=>wpIn_skip ⟨σ,ds,ha,h⟩
theorem WI_exit {i : Nat} (h : Q (.exit i) ds σ w) : WI F n P N ds (.exit i) Q σ w:=fun a ha=>wpIn_exit ⟨σ,ds,ha,h⟩
theorem GF {i : Nat} {c : Code} (h : WI F n P N ds c (blkD i Q) σ w) : WI F n P N ds (.block i c) Q σ w:=fun a ha=>
 wpIn_block (wpIn_mono (h a ha) (fun e a' w' hq=>by
  obtain ⟨σ',ds',hr,hq⟩:=hq
  cases e with
  | exit j=>
   simp only [Exit.inBlock]
   simp only [blkD] at hq
   by_cases e : j = i
   ·subst e
    have : Nat.beq j j = true:=Nat.beq_refl j
    rw [if_pos rfl]; rw [this] at hq
    exact ⟨σ',ds',hr,hq⟩
   ·have : Nat.beq j i = false:=by
     cases hb : Nat.beq j i with
     | true=>exact absurd (Nat.eq_of_beq_eq_true hb) e
     | false=>rfl
    rw [if_neg e]; rw [this] at hq
    exact ⟨σ',ds',hr,hq⟩
  | _=>exact ⟨σ',ds',hr,hq⟩))
theorem WI_cond {c : Operand} {x y : Code} (t : Bool) (hc : ev σ c = .bool t) (h1 : t = true→WI F n P N ds x Q σ w) (h2 : t = false→WI F n P N ds y Q σ w) : WI F n P N ds (.cond c x y) Q σ w:=fun a ha=>
 wpIn_cond_split (by rw [ha.ev]; exact hc) (fun h=>h1 h a ha) (fun h=>h2 h a ha)
theorem WI_loop {c : Code} (I : Nat→Fr→World→Prop) (k : Nat) (h0 : I k σ w)
  (round : ∀ k σ w,I k σ w→WI F n P N ds c (thnD (fun ds' σ' w'=>ds' = ds∧∃ k',k' < k∧I k' σ' w') Q) σ w) : WI F n P N ds (.loop c) Q σ w:=by
 intro a ha
 have key : ∀ m k σ w a,k < m→I k σ w→RepD N ds a σ→Code.roundsIn F n P c (liftD N Q) m a w:=by
  intro m
  induction m with
  | zero=>intro k σ w a h; omega
  | succ m ih=>
   intro k σ w a hk hI hr
   rw [roundsIn_succ]
   refine wpIn_mono (round k σ w hI a hr) (fun e a' w' hq=>?_)
   obtain ⟨σ',ds',hr',hq⟩:=hq
   cases e with
   | normal=>
    obtain ⟨rfl,k',hlt,hI'⟩:=hq
    exact ih k' σ' w' a' (by omega) hI' hr'
   | _=>exact ⟨σ',ds',hr',hq⟩
 exact wpIn_loop_rounds (k + 1) (key (k + 1) k σ w a (by omega) h0 ha)
def WLI (F : Fence) (n : Nat) (P : Program) (N : Nat) (ds : List Deferred) (ops : Array Oper) (Q : GG) (l : List Oper) (σ : Fr) (w : World) : Prop:=∀ a,RepD N ds a σ→wpListIn F n P ops (liftD N Q) l a w
theorem YU {id : Nat} {l : List Oper} (h : WLI F n P N ds l.toArray Q l σ w) : WI F n P N ds (.region id l.toArray false) Q σ w:=fun a ha=>wpIn_region_lit (h a ha)
theorem YR {ops : Array Oper} (h : Q .normal ds σ w) : WLI F n P N ds ops Q [] σ w:=fun a ha=>⟨σ,ds,ha,h⟩
variable {ops : Array Oper} {rest : List Oper} {o : Oper}
theorem Gy {ro : Option Nat} (h : Y1 o.op = true) (ρ : Operand→Value) : Oper.semAt ro ρ o = execOp ρ o:=Oper.semAt_eq ro ρ o (fun c e=>by rw [e] at h; cases h)
theorem Qf (O : Open F) {d : Nat} {v : Value} {w1 : World} (hg : o.guard = none) (hn : Y1 o.op = true) (hd : o.dst = some d) (hN : d < N) (hx : Ex P σ w o.op v w1) (h : WLI F n P N ds ops Q rest (upd σ d v) w1) : WLI F n P N ds ops Q (o :: rest) σ w:=fun a ha=>
 wpListIn_plain hg fun K hK=>⟨fun f _=>O.fn f,by
  rw [Gy hn,ha.ev,hx o rfl,Oper.uponIn_value,hd]
  exact hK _ _ (h _ (ha.put d hN v))⟩
theorem LI_alloc (O : Open F) {d : Nat} {t : TypeId} {z : Value} (hg : o.guard = none) (hn : Y1 o.op = true) (hd : o.dst = some d) (hN : d < N) (ho : o.op = .alloc t) (hz : ∀ w,(zeroValue t).run P w = .ok z w)
  (h : ∀ b w1,w.heap.size = b→w1.heap.size = b + 1→Ext w w1→Blk w1 b z.cells t→WLI F n P N ds ops Q rest (upd σ d (.pointer (some ⟨b,0,none⟩))) w1) : WLI F n P N ds ops Q (o :: rest) σ w:=
 Qf O hg hn hd hN (by rw [ho]; exact X_alloc hz) (h _ _ rfl (by simp) (Ext.alloc _ _) (Q0 _ _ _))
theorem LI_store1 (O : Open F) {t : TypeId} {x y : Operand} {b i : Nat} {cs : Array Value} {T : TypeId} {v : Value} (hg : o.guard = none) (hd : o.dst = none) (ho : o.op = .store t x y)
  (hs : ∀ w,(sizeOf t).run P w = .ok 1 w) (hx : ev σ x = .pointer (some ⟨b,i,none⟩)) (hy : ev σ y = v) (h1 : v.oneCell' = true) (hb : Blk w b cs T) (hi : i < cs.size)
  (h : ∀ w1,Wr b w w1→Blk w1 b (cs.setIfInBounds i v) T→WLI F n P N ds ops Q rest σ w1) : WLI F n P N ds ops Q (o :: rest) σ w:=fun a ha=>
 wpListIn_plain hg fun K hK=>⟨fun f _=>O.fn f,by
  rw [Gy (by rw [ho]; rfl),ha.ev,X_store1 hs hx hy h1 hb hi o ho,Oper.uponIn_skip,hd]
  exact hK _ _ (h _ (Wr.of_setCell w ⟨b,i,none⟩ v) (Xf hb v) a ha)⟩
theorem LI_callA (O : Open F) {d f : Nat} {xs : Array Operand} {ts : Array TypeId} {vs : Array Value} {A : Value→World→Prop} (hg : o.guard = none) (hd : o.dst = some d) (hN : d < N)
  (ho : o.op = .call { callee:=.value (.func f),args:=xs,argTypes:=ts }) (hf : ∀ args w,(callFunc f args).run P w = .ok (.enter f args) w)
  (hC : Calls P f vs w (Rt A)) (hvs : xs.toList.map (ev σ) = vs.toList) (h : ∀ v w1,A v w1→WLI F n P N ds ops Q rest (upd σ d v) w1) : WLI F n P N ds ops Q (o :: rest) σ w:=fun a ha=>
 wpListIn_plain hg fun K hK=>⟨fun f _=>O.fn f,by
  have hvs' : xs.map (ev σ) = vs:=by rw [← Array.toList_inj]; simpa using hvs
  have e : (execOp (ev σ) o).run P w = .ok (.enter f vs) w:=by
   unfold execOp; simp only [ho]
   simp [resolve,ev,Deferred.ofValue,invoke,hvs',hf]
  rw [Gy (by rw [ho]; rfl),ha.ev,e,Oper.uponIn_enter]
  refine ⟨fun hh=>(by rw [O.depth] at hh; cases hh),O.calls (hC.mono fun en w1 hr=>?_)⟩
  obtain ⟨v,rfl,hA⟩:=hr
  simp only [hd]
  exact hK _ _ (h v w1 hA _ (ha.put d hN v))⟩
theorem LI_yield (O : Open F) {d l m : Nat} {x : Operand} {xs : Array Operand} {ts : Array TypeId} {vs : Array Value} {A : Bool→World→Prop} (hg : o.guard = none) (hd : o.dst = some d) (hN : d < N)
  (ho : o.op = .call { callee:=.value x,args:=xs,argTypes:=ts }) (hx : ev σ x = .func (.yield l) #[] #[]) (hvs : xs.toList.map (ev σ) = vs.toList) (hm : n - 1 = m)
  (hY : YieldAt F m P l vs w fun e w'=>(∃ b,e = .returned (.bool b)∧A b w')) (h : ∀ b w1,A b w1→WLI F n P N ds ops Q rest (upd σ d (.bool b)) w1) : WLI F n P N ds ops Q (o :: rest) σ w:=fun a ha=>
 wpListIn_plain hg fun K hK=>⟨fun f _=>O.fn f,by
  have hvs' : xs.map (ev σ) = vs:=by rw [← Array.toList_inj]; simpa using hvs
  obtain ⟨fn,tmps,assign,body,hy,hR⟩:=hY
  have e : (execOp (ev σ) o).run P w = .ok (.round l fn tmps assign body) w:=by
   unfold execOp; simp only [ho]
   simp [resolve,hx,Deferred.ofValue,invoke,hvs',hy]
  rw [Gy (by rw [ho]; rfl),ha.ev,e,Oper.uponIn_round]
  subst hm
  refine ⟨fun hh=>(by rw [O.depth] at hh; cases hh),RoundIn.mono hR fun en w1 hr=>?_⟩
  obtain ⟨b,rfl,hA⟩:=hr
  simp only [hd]
  exact hK _ _ (h b w1 hA _ (ha.put d hN (.bool b)))⟩
theorem Gb {f : FuncId} {fn : Func} {c : Code} {args : Array Value} {R : Ending→World→Prop} (hf : P.funcs[f]? = some fn) (hb : fn.body = some c) (hN : args.size≤N) (hn : fn.ntmps = N)
  (h : WI Fence.wide n P N [] c (fun e ds σ w=>(e = .normal∨e = .ret)∧((ds = []∧∃ v,(∀ tmps : Array Value,(∀ t,tmps.getD t undef = σ t)→(results fn tmps).run P w = .ok v w)∧R (.returned v) w)∨
   ∃ D,ds = [{ target:=.collected D,args:=#[] }]∧w.heap[D]? = some (.deferred (some []))∧∃ v,(∀ tmps : Array Value,(∀ t,tmps.getD t undef = σ t)→(results fn tmps).run P (w.putObj D (.deferred none)) = .ok v (w.putObj D (.deferred none)))∧R (.returned v) (w.putObj D (.deferred none)))) (fun t=>args.getD t undef) w) :
  CallsIn Fence.wide n P f args w R:=by
 refine callsIn_of_wp_marks hf hb trivial (wpIn_mono (h _ ⟨?_,rfl,fun t=>?_⟩) (fun e a' w' hq=>?_))
 ·simp [hn]; omega
 ·simp only [Array.getD_eq_getD_getElem?,Array.getElem?_append]
  split
  ·rfl
  ·rename_i hlt
   rw [Array.getElem?_eq_none (by omega : args.size≤t),Array.getElem?_replicate]
   split <;> rfl
 ·obtain ⟨σ',ds',hr,he,hq⟩:=hq
  have key : LeavesInM Fence.wide n P fn a'.tmps R a'.defers .returning w':=by
   rw [hr.defers]
   rcases hq with ⟨rfl,v,h1,h2⟩ | ⟨D,rfl,hD,v,h1,h2⟩
   ·exact ⟨v,h1 _ hr.get,h2⟩
   ·exact ⟨by simp,.inl ⟨D,_,rfl,run_takeDeferred hD,v,h1 _ hr.get,h2⟩⟩
  rcases he with rfl | rfl <;> exact key
theorem WI_range {α : Type} {g : Operand} {ps : Array Tmp} {assign body : Code} (h1 : 1≤n) {gf : Nat} {lb : Array Value} (hg : ev σ g = .func (.func gf) #[] lb) (eg : ∀ args w,(callFunc gf args).run P w = .ok (.enter gf args) w)
  {encs : α→Array Value} {Kp : World→World→Prop} {S Sp : List α→Prop} {M : Nat} {w0 : World} (hseq : SeqStopsK Fence.wide (n - 1) P gf lb encs Kp S Sp M w0)
  (hKt : ∀ {A B C : World},Kp A B→Kp B C→Kp A C) (hKb : ∀ (W : World) (l : Nat) (o o' : Obj),w.heap.size≤l→W.heap[l]? = some o→o.isCells = false→o.isWalk = false→Kp W (W.putObj l o')) (hb0 : Below w0.heap.size w0 w) (hps : ∀ x,(encs x).size = ps.size)
  (I : List α→World→Prop) (Ix : Code→List α→World→Prop) (hI : OwnFrom w.heap.size I) (hIx : ∀ c,OwnFrom w.heap.size (Ix c)) (h0 : I [] w) (σ₁ : α→Fr)
  (hσ : (∀ t,N≤t→σ t = undef)→∀ (x : α) t,N≤t→σ₁ x t = undef)
  (hassign : ∀ (l : Nat) (x : α) (W : World) (a : Act) (K : List Deferred→Fr→World→Prop),RepD N [] a σ→K [] (σ₁ x) W→
   ∃ σ',RepD N [] { tmps:=(ps.zip (encs x)).foldl (fun t (p,v)=>t.setIfInBounds p v) a.tmps,defers:=[] } σ'∧WI (Fence.wide.inRound l) (n - 1 - 1) P N [] assign (thnD K (fun _ _ _ _=>False)) σ' W)
  (hbody : ∀ (l : Nat) (pre : List α) (x : α) (W : World),I pre W→pre.length < M→WI (Fence.wide.inRound l) (n - 1 - 1) P N [] body (fun e _ _ W'=>ownPostK Kp I Ix (pre ++ [x]) W e { tmps:=#[],defers:=[] } W') (σ₁ x) W)
  (hdone : ∀ (D : Nat) (xs : List α) (W : World),w.heap.size≤D→S xs→I xs W→W.heap[D]? = some (.deferred (some []))→Q .normal [{ target:=.collected D,args:=#[] }] σ W)
  (hstop : ∀ (D : Nat) (c : Code) (pre : List α) (W : World),w.heap.size≤D→Sp pre→Ix c pre W→W.heap[D]? = some (.deferred (some []))→WI Fence.wide n P N [{ target:=.collected D,args:=#[] }] c Q σ W) :
  WI Fence.wide n P N [] (.rangeFunc g ps assign body) Q σ w:=by
 intro a ha
 have hre : ∀ D : Nat,RepD N [{ target:=.collected D,args:=#[] }] { a with defers:={ target:=.collected D,args:=#[] } :: a.defers } σ:=fun D=>⟨ha.size,by simp [ha.defers],ha.get⟩
 refine wpIn_rangeFunc_ownF rfl h1 (gf:=gf) (lb:=lb) (by rw [ha.ev]; exact hg) trivial eg hseq hKt hKb hb0 hps I Ix hI hIx h0 (fun x=>actOf N (σ₁ x)) ?_ ?_ ?_ ?_
 ·intro l x W K hK
  obtain ⟨σ',hr,hW⟩:=hassign l x W a (fun ds s W'=>ds = []∧K (actOf N s) W') ha ⟨rfl,hK⟩
  refine wpIn_mono (hW _ hr) (fun e a' w' hq=>?_)
  obtain ⟨s,ds',hr',hq⟩:=hq
  cases e with
  | normal=>
   obtain ⟨rfl,hK'⟩:=hq
   show K a' w'
   rw [hr'.act]; exact hK'
  | _=>exact hq
 ·intro l pre x W hi hl
  refine wpIn_mono (hbody l pre x W hi hl _ (actOf_rep (hσ ha.far x))) (fun e a' w' hq=>?_)
  obtain ⟨s,ds',hr',hq⟩:=hq
  cases e <;> exact hq
 ·intro D xs W hD hS hi hk
  exact ⟨σ,_,hre D,hdone D xs W hD hS hi hk⟩
 ·intro D c pre W hD hS hi hk
  exact hstop D c pre W hD hS hi hk _ (hre D)
def Ql (n : Nat) : List (Fin n):=(List.finRange n).reverse
theorem downTo_len (n : Nat) : (Ql n).length = n:=by simp [Ql]
theorem downTo_get (n k : Nat) (h : k < n) : (Ql n)[k]? = some ⟨n - 1 - k,by omega⟩:=by
 have hl : k < (Ql n).length:=by rw [downTo_len]; exact h
 rw [List.getElem?_eq_getElem hl]
 simp [Ql,List.getElem_reverse,List.getElem_finRange]
theorem downTo_take (n m : Nat) (h : m < n) : (Ql n).take (n - (m + 1)) ++ [⟨m,h⟩] = (Ql n).take (n - m):=by
 have e : n - m = (n - (m + 1)) + 1:=by omega
 rw [e,List.take_add_one,downTo_get n (n - (m + 1)) (by omega)]
 have : n - 1 - (n - (m + 1)) = m:=by omega
 simp [this]
theorem downTo_pre (n k : Nat) : (Ql n).take k <+: Ql n:=List.take_prefix _ _
theorem Rd.toV {w : World} {v : Value} {xs : List (List UInt8)} (h : Rd 1 y4 w v xs) : Rd 1 Yn w v (xs.map S):=by
 obtain ⟨A,c,hv,h1,h2,h3⟩:=h
 refine ⟨A,c,by simpa using hv,by simpa using h1,by intro x hx; rfl,fun h0=>?_⟩
 obtain ⟨a,ha,hc⟩:=h3 (by simpa using h0)
 refine ⟨a,ha,fun j hj f u hu=>?_⟩
 have hj' : j < xs.length:=by simpa using hj
 exact hc j hj' f u (by simpa [Yn,y4] using hu)
theorem LI_idx (O : Open F) {α : Type} [Inhabited α] {sz : Nat} {enc : α→List Value} {d : Nat} {t e : TypeId} {x y : Operand} {v : Value} {xs : List α} {k : IntKind} {i : Int} (hg : o.guard = none) (hn : Y1 o.op = true) (hd : o.dst = some d) (hN : d < N) (ho : o.op = .indexAddr t x y)
  (hu : P.underlying t = some (.slice e)) (hs : ∀ w,(sizeOf e).run P w = .ok sz w) (hx : ev σ x = v) (hR : Rd sz enc w v xs) (hy : ev σ y = .int k i) (hi : inR i xs.length = true)
  (h : ∀ p,At w p (enc (gt xs i))→WLI F n P N ds ops Q rest (upd σ d (.pointer (some p))) w) : WLI F n P N ds ops Q (o :: rest) σ w:=by
 obtain ⟨ad,c,hv,hA⟩:=hR.at hi
 exact Qf O hg hn hd hN (by rw [ho]; exact V7 hu hs (hx.trans hv) hy (Qv hi) (j9 hi)) (h _ hA)
end
theorem Ext.grow {w W W' : World} {row : Option Nat} {B : Nat} (h : Ext w W) (hg : W.grownBy W' row) (hB : w.heap.size≤B) (hr : ∀ r,row = some r→B≤r∧∃ o : Obj,W.heap[r]? = some o∧o.isCells = false) : Ext w W':=
 Below.grown h hg h.size (fun k e=>Nat.le_trans hB (hr k e).1)
theorem Blk.grow {W W' : World} {row : Option Nat} {B b : Nat} {cs : Array Value} {T : TypeId} (h : Blk W b cs T) (hg : W.grownBy W' row) (hr : ∀ r,row = some r→B≤r∧∃ o : Obj,W.heap[r]? = some o∧o.isCells = false) : Blk W' b cs T:=by
 unfold Blk at h ⊢
 rw [hg.block b (Array.getElem?_eq_some_iff.1 h).1 (fun e=>?_),h]
 obtain ⟨_,o,ho,hc⟩:=hr b e.symm
 rw [h] at ho; cases ho; cases hc
theorem keeps_ext {W W' : World} (h : Ext W W') : KeepsOthers W W':=⟨h.size,fun k o hk _=>by rw [h.block k (Array.getElem?_eq_some_iff.1 hk).1]; exact hk⟩
theorem keeps_wr {W W' : World} {b : Nat} {cs : Array Value} {T : TypeId} (h : Wr b W W') (hB : Blk W b cs T) : KeepsOthers W W':=⟨h.grown.size,fun k o hk ho=>by
 rw [h.grown.block k (Array.getElem?_eq_some_iff.1 hk).1 (fun e=>?_)]
 ·exact hk
 ·have : b = k:=by injection e with e; exact e.symm
  subst this; unfold Blk at hB; rw [hB] at hk; cases hk; cases ho⟩
theorem putD_ext {w W : World} {D : Nat} (h : Ext w W) (hD : w.heap.size≤D) (o : Obj) (hk : W.heap[D]? = some (.deferred (some []))) : Ext w (W.putObj D o):=
 Below.grown h (grownBy_putObj' W D o) h.size (fun k e=>by cases e; exact hD)
section
variable {P : Program} {σ : Fr} {w : World}
theorem X_lit {t e : TypeId} {n sz : Nat} {ps : Array (Nat × Operand)} {vs : List Value} {z : Value}
  (hu : P.underlying t = some (.slice e)) (hs : ∀ w,(sizeOf e).run P w = .ok sz w) (hz : ∀ w,(zeroValue e).run P w = .ok z w) (hzs : Nat.beq z.cells.size sz = true) (hn : Nat.ble (n * sz) 16777216 = true && Nat.blt 0 sz)
  (hps : ps.toList.map (·.1) = List.range' 0 n) (hvs : ps.toList.map (fun p=>ev σ p.2) = vs) (hall : ∀ v ∈ vs,v.cells.size = sz) :
  Ex P σ w (.buildSlice t n ps) (.slice (some ⟨w.heap.size,0,none⟩) n n) (w.alloc (.cells ⟨(vs.map fun v=>v.cells.toList).flatten⟩ e)):=by
 have hzs':=Nat.eq_of_beq_eq_true hzs
 have hlen : vs.length = n:=by rw [← hvs,List.length_map]; have:=congrArg List.length hps; simpa using this
 simp only [Bool.and_eq_true,decide_eq_true_eq] at hn
 have hle0:=Nat.le_of_ble_eq_true hn.1
 have hpos : 0 < sz:=by have:=hn.2; rwa [Nat.blt_eq] at this
 have hfill : Instr.fill (fun i=>some (i * sz,sz)) ((Array.range (n * sz)).map (z.cells[· % z.cells.size]!)) (ps.map fun (i,x)=>(i,ev σ x)).toList = some ⟨(vs.map fun v=>v.cells.toList).flatten⟩:=by
  have h1 : (ps.map fun (i,x)=>(i,ev σ x)).toList = (vs.zipIdx 0).map fun p=>(p.2,p.1):=by
   rw [Array.toList_map]
   exact parts_zip vs 0 (by rw [hlen]; exact hps) hvs
  have h2 : ((Array.range (n * sz)).map (z.cells[· % z.cells.size]!)) = ⟨[] ++ (List.replicate n z.cells.toList).flatten⟩:=by
   apply Array.ext'
   have:=Xc z.cells (by omega) n
   rw [hzs'] at this
   simpa [madeCells] using this
  rw [h1,h2]
  have:=fill_lit sz vs 0 [] (List.replicate n z.cells.toList).flatten hall (by simp) (by simp [hlen,hzs'])
  simpa using this
 have hx : Ex P σ w (.buildSlice t n ps) (.slice (some ⟨w.heap.size,0,none⟩) n n) (w.alloc (.cells ⟨(vs.map fun v=>v.cells.toList).flatten⟩ e)):=by
  intro o ho; unfold execOp; simp only [ho]
  have hle : ¬ n * sz > 2 ^ 24:=by omega
  simp only [Instr.buildSlice,Sem.run_bind,run_underlying hu,Result.andThen_ok,hs,if_neg hle]
  by_cases h0 : n * sz = 0
  ·have hn0 : n = 0:=by
    rcases Nat.mul_eq_zero.1 h0 with h | h
    ·exact h
    ·omega
   subst hn0
   have hv0 : vs = []:=List.eq_nil_of_length_eq_zero hlen
   subst hv0
   have hp0 : ps.toList = []:=by simpa using hvs
   have hp0' : ps = #[]:=by apply Array.ext'; simpa using hp0
   subst hp0'
   have he : Array.map (fun (_ : Nat)=>(default : Value)) (Array.range 0) = (⟨[]⟩ : Array Value):=by apply Array.ext'; simp
   simp [Instr.fill,newRow]
   rw [he]
  ·have hfill' : Instr.fill (fun i=>some (i * sz,sz)) (Array.map (fun x=>z.cells[x % z.cells.size]!) (Array.range (n * sz))) (Array.map (fun x=>(x.fst,ev σ x.snd)) ps).toList = some ⟨(vs.map fun v=>v.cells.toList).flatten⟩:=hfill
   simp only [if_neg h0,Sem.run_bind,hz,Sem.run_pure,Result.andThen_ok,hfill',newRow,run_newObj]
   rfl
 exact hx
end
section
variable {F : Fence} {n : Nat} {P : Program} {N : Nat} {ds : List Deferred} {Q : GG} {σ : Fr} {w : World} {ops : Array Oper} {rest : List Oper} {o : Oper}
theorem LI_lit (O : Open F) {d : Nat} {t e : TypeId} {m sz : Nat} {ps : Array (Nat × Operand)} {vs : List Value} {z : Value} (hg : o.guard = none) (hn : Y1 o.op = true) (hd : o.dst = some d) (hN : d < N) (ho : o.op = .buildSlice t m ps)
  (hu : P.underlying t = some (.slice e)) (hs : ∀ w,(sizeOf e).run P w = .ok sz w) (hz : ∀ w,(zeroValue e).run P w = .ok z w) (hzs : Nat.beq z.cells.size sz = true) (hm : Nat.ble (m * sz) 16777216 = true && Nat.blt 0 sz)
  (hps : ps.toList.map (·.1) = List.range' 0 m) (hvs : ps.toList.map (fun p=>ev σ p.2) = vs) (hall : ∀ v ∈ vs,v.cells.size = sz)
  (h : ∀ b w1,w.heap.size = b→w1.heap.size = b + 1→Ext w w1→Blk w1 b ⟨(vs.map fun v=>v.cells.toList).flatten⟩ e→WLI F n P N ds ops Q rest (upd σ d (.slice (some ⟨b,0,none⟩) m m)) w1) : WLI F n P N ds ops Q (o :: rest) σ w:=
 Qf O hg hn hd hN (by rw [ho]; exact X_lit hu hs hz hzs hm hps hvs hall) (h _ _ rfl (by simp) (Ext.alloc _ _) (Q0 _ _ _))
theorem LI_append (O : Open F) {α : Type} {enc : α→List Value} {d : Nat} {s x : Operand} {t e : TypeId} {z : Value} {sz by' base : Nat} {v u : Value} {xs ys : List α} (hg : o.guard = none) (hn : Y1 o.op = true) (hd : o.dst = some d) (hN : d < N)
  (ho : o.op = .call { callee:=.builtin .append,args:=#[s,x],argTypes:=#[t,t] }) (he : ElemI P t e sz by' z)
  (hs : ev σ s = v) (hx : ev σ x = u) (hO : Ow e sz enc base w v xs) (hR : Rd sz enc w u ys) (h1 : ∀ y ∈ ys,∀ c ∈ enc y,c.oneCell' = true) (hbound : (xs.length + ys.length) * by'≤140737488355328) (hbase : base≤w.heap.size)
  (h : ∀ v1 w1,Ow e sz enc base w1 v1 (xs ++ ys)→(∀ W,Below base W w→Below base W w1)→KeepsOthers w w1→WLI F n P N ds ops Q rest (upd σ d v1) w1) : WLI F n P N ds ops Q (o :: rest) σ w:=by
 obtain ⟨hu,⟨i,hi,hz,hsz,hby⟩,hzs,hpos,hb0⟩:=he
 obtain ⟨v1,w1,hr,h2,h3,h4,r,h5,h6,h7⟩:=XD (P:=P) (ty:=o.type) hu hi hz hsz hby hzs hpos hb0 hO hR h1 hbound hbase
 refine Qf O hg hn hd hN ?_ (h v1 w1 h2 h4 ⟨h3,fun k o hk ho=>?_⟩)
 ·intro o' ho'
  have hty : Builtin.append_ #[t,t] o'.type #[v,u] = Builtin.append_ #[t,t] o.type #[v,u]:=rfl
  unfold execOp
  simp only [ho',ho,resolve,invoke,builtin,Sem.run_bind,Sem.run_pure,Result.andThen_ok,List.map_toArray,List.map_cons,List.map_nil,hs,hx,hty,hr]
 ·rw [h5.block k (Array.getElem?_eq_some_iff.1 hk).1 fun e=>?_]
  ·exact hk
  ·obtain ⟨q1,q2⟩:=h6 k e.symm
   obtain ⟨h8 | h8,_⟩:=hO
   ·rcases h8.2 with ⟨hv,_⟩ | ⟨g,cap,cur,hv,_,hc,_⟩
    ·exact q1 ⟨_,hv⟩
    ·rw [hv] at q2
     have : g = k:=Option.some.inj q2
     subst this
     rw [hc] at hk; cases hk; cases ho
   ·exact q1 h8.1
end
theorem Ow.grow {α : Type} {e : TypeId} {sz base : Nat} {enc : α→List Value} {W W' : World} {row : Option Nat} {v : Value} {xs : List α} (h : Ow e sz enc base W v xs) (hg : W.grownBy W' row) (hr : ∀ r,row = some r→∃ o : Obj,W.heap[r]? = some o∧o.isCells = false) : Ow e sz enc base W' v xs:=by
 obtain ⟨h1 | h1,h2⟩:=h
 ·refine ⟨.inl ⟨h1.1,?_⟩,h2⟩
  rcases h1.2 with hv | ⟨g,cap,cur,hv,hb,hc,hrest⟩
  ·exact .inl hv
  ·refine .inr ⟨g,cap,cur,hv,hb,?_,hrest⟩
   rw [hg.block g (Array.getElem?_eq_some_iff.1 hc).1 fun e=>?_]
   ·exact hc
   ·obtain ⟨o,ho,hoc⟩:=hr g e.symm
    rw [hc] at ho; cases ho; cases hoc
 ·exact ⟨.inr h1,h2⟩
theorem Ow.putD {α : Type} {e : TypeId} {sz base D : Nat} {enc : α→List Value} {W : World} {v : Value} {xs : List α} (h : Ow e sz enc base W v xs) (o : Obj) (hk : W.heap[D]? = some (.deferred (some []))) : Ow e sz enc base (W.putObj D o) v xs:=
 h.grow (grownBy_putObj' W D o) fun r e=>by cases e; exact ⟨_,hk,rfl⟩
theorem downTo_map {β γ : Type} (l : List β) (d : β) (f : β→γ) : ∀ n,n = l.length→(Ql n).map (fun i : Fin n=>f (l.getD i.val d)) = l.reverse.map f:=by
 rintro n rfl
 have h : (List.finRange l.length).map (fun i : Fin l.length=>f (l.getD i.val d)) = l.map f:=by
  apply List.ext_getElem
  ·simp
  ·intro i h1 h2
   have hi : i < l.length:=by simpa using h1
   simp [List.getD_eq_getElem?_getD,List.getElem?_eq_getElem hi]
 unfold Ql
 rw [List.map_reverse,h,← List.map_reverse]
end Go.UL
