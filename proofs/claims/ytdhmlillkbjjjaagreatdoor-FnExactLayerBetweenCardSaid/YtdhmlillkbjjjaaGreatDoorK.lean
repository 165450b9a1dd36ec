import Derived.WalkKit
import Derived.Below
import Derived.KernelRfl
import Derived.Laws.StructEq
import Derived.Orders
import Derived.Maps.AppendAt
set_option linter.unusedVariables false
set_option linter.unusedSimpArgs false
namespace Go.UL
open Go.RowKit
abbrev Fr:=Nat→Value
def upd (σ : Fr) (d : Nat) (v : Value) : Fr:=fun t=>cond (Nat.beq t d) v (σ t)
theorem Qh (σ : Fr) (d : Nat) (v : Value) : upd σ d v d = v:=by simp [upd]
theorem Ve (σ : Fr) (d t : Nat) (v : Value) (h : t ≠ d) : upd σ d v t = σ t:=by
 have : Nat.beq t d = false:=by cases hb : Nat.beq t d with
  | true=>exact absurd (Nat.eq_of_beq_eq_true hb) h
  | false=>rfl
 simp [upd,this]
theorem ltb {a b : Nat} (h : Nat.blt a b = true) : a < b:=by rwa [Nat.blt_eq] at h
structure Rep (N : Nat) (a : Act) (σ : Fr) : Prop where
 size : a.tmps.size = N
 defers : a.defers = []
 get : ∀ t,a.tmps.getD t undef = σ t
def ev (σ : Fr) : Operand→Value
 | .tmp t=>σ t
 | .const v=>v
 | .global g=>.pointer (some ⟨g,0,none⟩)
 | .func f=>.func (.func f) #[] #[]
theorem Rep.ev {N : Nat} {a : Act} {σ : Fr} (h : Rep N a σ) : a.eval = ev σ:=by
 funext x
 cases x with
 | tmp t=>exact h.get t
 | const v=>rfl
 | global g=>rfl
 | func f=>rfl
theorem Rep.put {N : Nat} {a : Act} {σ : Fr} (h : Rep N a σ) (d : Nat) (hd : d < N) (v : Value) : Rep N (a.put (some d) v) (upd σ d v):=by
 refine ⟨by simp [Act.put,h.size],by simp [Act.put,h.defers],fun t=>?_⟩
 simp only [Act.put]
 by_cases e : t = d
 ·subst e
  rw [Qh,Array.getD_eq_getD_getElem?,Array.getElem?_setIfInBounds_self_of_lt (by rw [h.size]; exact hd)]
  rfl
 ·rw [Ve _ _ _ _ e,Array.getD_eq_getD_getElem?,Array.getElem?_setIfInBounds_ne (fun h=>e h.symm),← Array.getD_eq_getD_getElem?]
  exact h.get t
abbrev yb:=Exit→Fr→World→Prop
def Qn (N : Nat) (Q : yb) : Exit→Act→World→Prop:=fun e a w=>∃ σ,Rep N a σ∧Q e σ w
def W (P : Program) (N : Nat) (c : Code) (Q : yb) (σ : Fr) (w : World) : Prop:=∀ a,Rep N a σ→c.wp P (Qn N Q) a w
def thn (K : Fr→World→Prop) (Q : yb) : yb
 | .normal,σ,w=>K σ w
 | .exit i,σ,w=>Q (.exit i) σ w
 | .ret,σ,w=>Q .ret σ w
 | .goto l,σ,w=>Q (.goto l) σ w
 | .panic ch,σ,w=>Q (.panic ch) σ w
 | .outgrown,σ,w=>Q .outgrown σ w
def blk (i : Nat) (Q : yb) : yb
 | .exit j,σ,w=>cond (Nat.beq j i) (Q .normal σ w) (Q (.exit j) σ w)
 | .normal,σ,w=>Q .normal σ w
 | .ret,σ,w=>Q .ret σ w
 | .goto l,σ,w=>Q (.goto l) σ w
 | .panic ch,σ,w=>Q (.panic ch) σ w
 | .outgrown,σ,w=>Q .outgrown σ w
section
variable {P : Program} {N : Nat} {Q : yb} {σ : Fr} {w : World}
theorem qf {K : Fr→World→Prop} (h : K σ w) : thn K Q .normal σ w:=h
theorem qY {K : Fr→World→Prop} {i : Nat} (h : Q (.exit i) σ w) : thn K Q (.exit i) σ w:=h
theorem qo {K : Fr→World→Prop} (h : Q .ret σ w) : thn K Q .ret σ w:=h
theorem vM {i : Nat} (h : Q .normal σ w) : blk i Q .normal σ w:=h
theorem vZ {i : Nat} (h : Q .normal σ w) : blk i Q (.exit i) σ w:=by
 simp [blk]; exact h
theorem vl {i : Nat} (h : Q .ret σ w) : blk i Q .ret σ w:=h
theorem qi {x y : Code} (h : W P N x (thn (fun σ w=>W P N y Q σ w) Q) σ w) : W P N (.seq x y) Q σ w:=fun a ha=>
 wp_seq (Code.wp_mono (fun e a' w' hq=>by
  obtain ⟨σ',hr,hq⟩:=hq
  cases e with
  | normal=>exact hq a' hr
  | _=>exact ⟨σ',hr,hq⟩) (h a ha))
theorem qr (h : Q .ret σ w) : W P N .ret Q σ w:=fun a ha=>wp_ret ⟨σ,ha,h⟩
theorem qp (h : Q .normal σ w) : W P N .skip Q σ w:=fun a ha=>wp_skip ⟨σ,ha,h⟩
theorem vu {i : Nat} (h : Q (.exit i) σ w) : W P N (.exit i) Q σ w:=fun a ha=>wp_exit ⟨σ,ha,h⟩
theorem qB {i : Nat} {c : Code} (h : W P N c (blk i Q) σ w) : W P N (.block i c) Q σ w:=fun a ha=>
 wp_block (Code.wp_mono (fun e a' w' hq=>by
  obtain ⟨σ',hr,hq⟩:=hq
  cases e with
  | exit j=>
   simp only [Exit.inBlock]
   simp only [blk] at hq
   by_cases e : j = i
   ·subst e
    have : Nat.beq j j = true:=Nat.beq_refl j
    rw [if_pos rfl]; rw [this] at hq
    exact ⟨σ',hr,hq⟩
   ·have : Nat.beq j i = false:=by
     cases hb : Nat.beq j i with
     | true=>exact absurd (Nat.eq_of_beq_eq_true hb) e
     | false=>rfl
    rw [if_neg e]; rw [this] at hq
    exact ⟨σ',hr,hq⟩
  | _=>exact ⟨σ',hr,hq⟩) (h a ha))
theorem qn {c : Operand} {x y : Code} (hc : ev σ c = .bool true) (h1 : W P N x Q σ w) : W P N (.cond c x y) Q σ w:=fun a ha=>
 wp_cond_true (by rw [ha.ev]; exact hc) (h1 a ha)
theorem qj {c : Operand} {x y : Code} (hc : ev σ c = .bool false) (h1 : W P N y Q σ w) : W P N (.cond c x y) Q σ w:=fun a ha=>
 wp_cond_false (by rw [ha.ev]; exact hc) (h1 a ha)
theorem Xt {c : Code} (I : Nat→Fr→World→Prop) (k : Nat) (h0 : I k σ w)
  (round : ∀ k σ w,I k σ w→W P N c (thn (fun σ' w'=>∃ k',k' < k∧I k' σ' w') Q) σ w) : W P N (.loop c) Q σ w:=by
 intro a ha b kk cs
 have key : ∀ k σ w a,I k σ w→Rep N a σ→
   ∃ e a' w',Qn N Q e a' w'∧Arrives P (lone (b.at a (.code c :: .inLoop c :: kk)) cs w) b kk cs e a' w':=by
  intro k
  induction k using Nat.strongRecOn with
  | _ k ih=>
   intro σ w a hI ha
   obtain ⟨e,a₁,w₁,⟨σ',hr,hq⟩,harr⟩:=round k σ w hI a ha b (.inLoop c :: kk) cs
   cases e with
   | normal=>
    obtain ⟨k',hlt,hI'⟩:=hq
    obtain ⟨e₂,a₂,w₂,hq₂,harr₂⟩:=ih k' hlt σ' w₁ a₁ hI' hr
    exact ⟨e₂,a₂,w₂,hq₂,.of_steps (Steps.trans harr (.one step_inLoop)) harr₂⟩
   | exit id=>exact ⟨_,a₁,w₁,⟨σ',hr,hq⟩,.pass (x:=.inLoop c) rfl (fun _ _=>.inl (by simp)) harr⟩
   | goto l=>exact ⟨_,a₁,w₁,⟨σ',hr,hq⟩,.pass (x:=.inLoop c) rfl (fun _ _=>.inl (by simp)) harr⟩
   | ret=>exact ⟨_,a₁,w₁,⟨σ',hr,hq⟩,.pass (x:=.inLoop c) rfl (fun _ _=>.inl (by simp)) harr⟩
   | panic ch=>exact ⟨_,a₁,w₁,⟨σ',hr,hq⟩,.pass (x:=.inLoop c) rfl (fun _ _=>.inl (by simp)) harr⟩
   | outgrown=>exact ⟨_,a₁,w₁,⟨σ',hr,hq⟩,.pass (x:=.inLoop c) rfl (fun _ _=>.inl (by simp)) harr⟩
 obtain ⟨e,a',w',hq,harr⟩:=key k σ w a h0 ha
 exact ⟨e,a',w',hq,.of_steps (.one step_loop) harr⟩
def QC : List ResultVar→Fr→Value
 | [.tmp t],σ=>σ t
 | [.tmp t,.tmp u],σ=>.tuple #[σ t,σ u]
 | [.tmp t,.tmp u,.tmp v],σ=>.tuple #[σ t,σ u,σ v]
 | [],_=>.tuple #[]
 | _,_=>undef
def Qk : List ResultVar→Bool
 | [.tmp _] | [.tmp _,.tmp _] | [.tmp _,.tmp _,.tmp _] | []=>true
 | _=>false
def fin (rs : List ResultVar) (R : Ending→World→Prop) : yb
 | .normal,σ,w | .ret,σ,w=>R (.returned (QC rs σ)) w
 | _,_,_=>False
theorem qu {rs : List ResultVar} {R : Ending→World→Prop} (h : R (.returned (QC rs σ)) w) : fin rs R .ret σ w:=h
theorem fin_n {rs : List ResultVar} {R : Ending→World→Prop} (h : R (.returned (QC rs σ)) w) : fin rs R .normal σ w:=h
theorem jJ {fn : Func} {a : Act} {N : Nat} (hr : Rep N a σ) (hp : Qk fn.results.toList = true) : (results fn a.tmps).run P w = .ok (QC fn.results.toList σ) w:=by
 generalize hl : fn.results.toList = rs at hp
 have hres : fn.results = rs.toArray:=by rw [← hl]
 unfold Qk at hp
 split at hp
 ·rw [results_tmp hres]; simp only [QC,hr.get]
 ·rw [results_tmp2 hres]; simp only [QC,hr.get]
 ·simp [results,hres,QC,← hr.get]
 ·rw [results_none hres]; rfl
 ·cases hp
theorem qk {f : FuncId} {fn : Func} {c : Code} {args : Array Value} {R : Ending→World→Prop} (hf : P.funcs[f]? = some fn) (hb : fn.body = some c)
  (hN : args.size≤N) (hn : fn.ntmps = N) (hp : Qk fn.results.toList = true)
  (h : W P N c (fin fn.results.toList R) (fun t=>args.getD t undef) w) : Calls P f args w R:=by
 refine calls_of_wp hf hb (Code.wp_mono (fun e a' w' hq=>?_) (h _ ⟨?_,rfl,fun t=>?_⟩))
 ·obtain ⟨σ',hr,hq⟩:=hq
  cases e with
  | normal=>exact ⟨hr.defers,_,jJ hr hp,hq⟩
  | ret=>exact ⟨hr.defers,_,jJ hr hp,hq⟩
  | _=>exact hq.elim
 ·simp [hn]; omega
 ·simp only [Array.getD_eq_getD_getElem?,Array.getElem?_append]
  split
  ·rfl
  ·rename_i hlt
   rw [Array.getElem?_eq_none (by omega : args.size≤t),Array.getElem?_replicate]
   split <;> rfl
def WL (P : Program) (N : Nat) (ops : Array Oper) (Q : yb) (l : List Oper) (σ : Fr) (w : World) : Prop:=∀ a,Rep N a σ→wpList P ops (Qn N Q) l a w
theorem qK {id : Nat} {l : List Oper} (h : WL P N l.toArray Q l σ w) : W P N (.region id l.toArray false) Q σ w:=fun a ha=>wp_region_lit (h a ha)
theorem qZ {ops : Array Oper} (h : Q .normal σ w) : WL P N ops Q [] σ w:=fun a ha=>⟨σ,ha,h⟩
variable {ops : Array Oper} {rest : List Oper} {o : Oper}
theorem Xm {g d : Nat} {b b' : Bool} {j : Nat} (hg : o.guard = some (j,b)) (hj : (ops[j]?).bind (·.dst) = some g) (hgN : g < N) (hv : σ g = .bool b') (hb : (b' == b) = false)
  (hd : o.dst = some d) (hN : d < N) (h : WL P N ops Q rest (upd σ d undef) w) : WL P N ops Q (o :: rest) σ w:=fun a ha=>
 wpList_step fun K hK=>by
  have hw : Region.wanted o (yielded ops a.tmps) = false:=by
   have : a.tmps[g]? = some (.bool b'):=by
    have h2:=ha.get g
    rw [hv,Array.getD_eq_getD_getElem?,Array.getElem?_eq_getElem (by rw [ha.size]; exact hgN)] at h2
    rw [Array.getElem?_eq_getElem (by rw [ha.size]; exact hgN)]
    simpa using h2
   have hb' : b' ≠ b:=by simpa using hb
   simp [Region.wanted,hg,yielded,hj,this,hb']
  rw [if_neg (by simp [hw]),hd]
  exact hK _ _ (h _ (ha.put d hN undef))
def Ex (P : Program) (σ : Fr) (w : World) (op : Op) (v : Value) (w1 : World) : Prop:=
 ∀ o : Oper,o.op = op→(execOp (ev σ) o).run P w = .ok (.value v) w1
theorem qd {x : Operand} {v : Value} (hx : ev σ x = v) : Ex P σ w (.move x) v w:=by
 intro o ho; unfold execOp; simp only [ho]; rw [hx]; rfl
theorem qz {x : Operand} {v : Value} (hx : ev σ x = v) : Ex P σ w (.assign x) v w:=by
 intro o ho; unfold execOp; simp only [ho]; rw [hx]; rfl
theorem qF {c x y : Operand} {b : Bool} {v : Value} (hc : ev σ c = .bool b) (hv : (bif b then ev σ x else ev σ y) = v) : Ex P σ w (.pick c x y) v w:=by
 intro o ho; unfold execOp; simp only [ho]; rw [hc]; subst hv; cases b <;> simp [asBool]
theorem yG {t : TypeId} {x : Operand} {b : Bool} (hx : ev σ x = .bool b) : Ex P σ w (.unOp .not t x) (.bool (!b)) w:=by
 intro o ho; unfold execOp; simp only [ho]; rw [hx]; simp [Op.unary]
section
variable {t u : TypeId} {x y : Operand} {k : IntKind} {m n : Int}
theorem vp (hx : ev σ x = .int k m) (hy : ev σ y = .int k n) : Ex P σ w (.binOp .add t x y u) (.int k (k.wrap (m + n))) w:=by
 intro o ho; unfold execOp; simp only [ho]; rw [hx,hy]; simp [eqGuard,binOp,Op.intArith]
theorem Yb (hx : ev σ x = .int k m) (hy : ev σ y = .int k n) : Ex P σ w (.binOp .sub t x y u) (.int k (k.wrap (m - n))) w:=by
 intro o ho; unfold execOp; simp only [ho]; rw [hx,hy]; simp [eqGuard,binOp,Op.intArith]
theorem vw (hx : ev σ x = .int k m) (hy : ev σ y = .int k n) : Ex P σ w (.binOp .lss t x y u) (.bool (decide (m < n))) w:=by
 intro o ho; unfold execOp; simp only [ho]; rw [hx,hy]; simp [eqGuard,binOp,Op.intCmp]
theorem GP (hx : ev σ x = .int k m) (hy : ev σ y = .int k n) : Ex P σ w (.binOp .leq t x y u) (.bool (decide (m≤n))) w:=by
 intro o ho; unfold execOp; simp only [ho]; rw [hx,hy]; simp [eqGuard,binOp,Op.intCmp]
theorem j1 (hx : ev σ x = .int k m) (hy : ev σ y = .int k n) : Ex P σ w (.binOp .gtr t x y u) (.bool (decide (n < m))) w:=by
 intro o ho; unfold execOp; simp only [ho]; rw [hx,hy]; simp [eqGuard,binOp,Op.intCmp]
theorem Q2 (hx : ev σ x = .int k m) (hy : ev σ y = .int k n) : Ex P σ w (.binOp .geq t x y u) (.bool (decide (n≤m))) w:=by
 intro o ho; unfold execOp; simp only [ho]; rw [hx,hy]; simp [eqGuard,binOp,Op.intCmp]
theorem jo (hx : ev σ x = .int k m) (hy : ev σ y = .int k n) : Ex P σ w (.binOp .eql t x y u) (.bool (decide (m = n))) w:=by
 intro o ho; unfold execOp; simp only [ho]; rw [hx,hy]; simp [eqGuard,binOp,Op.intCmp]; exact Bool.eq_iff_iff.mpr (by simp)
theorem jf (hx : ev σ x = .int k m) (hy : ev σ y = .int k n) : Ex P σ w (.binOp .neq t x y u) (.bool (!decide (m = n))) w:=by
 intro o ho; unfold execOp; simp only [ho]; rw [hx,hy]; simp [eqGuard,binOp,Op.intCmp]; exact Bool.eq_iff_iff.mpr (by simp)
theorem X_rem (hx : ev σ x = .int k m) (hy : ev σ y = .int k n) (h0 : n ≠ 0) : Ex P σ w (.binOp .rem t x y u) (.int k (m.tmod n)) w:=by
 intro o ho; unfold execOp; simp only [ho]; rw [hx,hy]; simp [eqGuard,binOp,Op.intDiv,h0]
theorem X_quo (hx : ev σ x = .int k m) (hy : ev σ y = .int k n) (h0 : n ≠ 0) : Ex P σ w (.binOp .quo t x y u) (.int k (k.wrap (m.tdiv n))) w:=by
 intro o ho; unfold execOp; simp only [ho]; rw [hx,hy]; simp [eqGuard,binOp,Op.intDiv,h0]
end
abbrev S (l : List UInt8) : Value:=.string ⟨⟨l⟩⟩
theorem jq (l : List UInt8) : (ByteArray.mk ⟨l⟩).toList = l:=by simp [ByteArray.toList_eq]
theorem mk_append (a b : List UInt8) : ByteArray.mk ⟨a⟩ ++ ByteArray.mk ⟨b⟩ = ByteArray.mk ⟨a ++ b⟩:=by
 apply ByteArray.ext
 simp
abbrev lt8:=Op.bytesLess
section
variable {t u : TypeId} {x y : Operand} {a b : List UInt8}
theorem X_cat (hx : ev σ x = S a) (hy : ev σ y = S b) (hl : a.length + b.length≤9223372036854775807) : Ex P σ w (.binOp .add t x y u) (S (a ++ b)) w:=by
 intro o ho; unfold execOp; simp only [ho]; rw [hx,hy]
 have h1 : ¬ (((ByteArray.mk ⟨a⟩).size + (ByteArray.mk ⟨b⟩).size : Nat) : Int) > IntKind.i64.max:=by
  have e1 : (ByteArray.mk ⟨a⟩).size = a.length:=rfl
  have e2 : (ByteArray.mk ⟨b⟩).size = b.length:=rfl
  have e3 : IntKind.i64.max = 9223372036854775807:=by decide
  rw [e1,e2,e3]; omega
 simp only [eqGuard,binOp,Op.stringOp,if_neg h1,mk_append]
 simp
theorem VB (hx : ev σ x = S a) (hy : ev σ y = S b) : Ex P σ w (.binOp .eql t x y u) (.bool (decide (a = b))) w:=by
 intro o ho; unfold execOp; simp only [ho]; rw [hx,hy]
 simp [eqGuard,binOp,Op.stringOp,jq]; exact Bool.eq_iff_iff.mpr (by simp)
theorem j3 (hx : ev σ x = S a) (hy : ev σ y = S b) : Ex P σ w (.binOp .neq t x y u) (.bool (!decide (a = b))) w:=by
 intro o ho; unfold execOp; simp only [ho]; rw [hx,hy]
 simp [eqGuard,binOp,Op.stringOp,jq]; exact Bool.eq_iff_iff.mpr (by simp)
theorem XC (hx : ev σ x = S a) (hy : ev σ y = S b) : Ex P σ w (.binOp .lss t x y u) (.bool (lt8 a b)) w:=by
 intro o ho; unfold execOp; simp only [ho]; rw [hx,hy]
 simp [eqGuard,binOp,Op.stringOp,jq]
theorem X_sgt (hx : ev σ x = S a) (hy : ev σ y = S b) : Ex P σ w (.binOp .gtr t x y u) (.bool (!(lt8 a b || decide (a = b)))) w:=by
 intro o ho; unfold execOp; simp only [ho]; rw [hx,hy]
 simp [eqGuard,binOp,Op.stringOp,jq]; exact Bool.eq_iff_iff.mpr (by simp)
end
theorem X_bne {t u : TypeId} {x y : Operand} {a b : Bool} (hu : P.underlying t = some .bool) (hx : ev σ x = .bool a) (hy : ev σ y = .bool b) : Ex P σ w (.binOp .neq t x y u) (.bool (!decide (a = b))) w:=by
 intro o ho; unfold execOp; simp only [ho]; rw [hx,hy]
 have h:=run_equalIn_bool' (P:=P) w 9999 t a b hu
 have e : (a == b) = decide (a = b):=by cases a <;> cases b <;> rfl
 have hb : (binOp .neq t (.bool a) (.bool b)).run P w = .ok (.bool (!decide (a = b))) w:=by
  show ((do pure (.bool (!(← Op.equal t (.bool a) (.bool b)))) : Sem Value)).run P w = _
  unfold Op.equal Op.maxDepth
  rw [Sem.run_bind,h,e]; rfl
 simp [eqGuard,hb]
theorem j5 {x : Operand} {a : List UInt8} {t : TypeId} (hu : P.underlying t = some .string) (hx : ev σ x = S a) : Ex P σ w (.call { callee:=.builtin .len,args:=#[x],argTypes:=#[t] }) (.int .i64 a.length) w:=by
 intro o ho; unfold execOp; simp only [ho]
 simp [resolve,invoke,builtin,hx,Builtin.len_,run_underlying hu,goInt]; rfl
theorem XD {x : Operand} {A : Option Addr} {n c : Nat} {t e : TypeId} (hu : P.underlying t = some (.slice e)) (hx : ev σ x = .slice A n c) : Ex P σ w (.call { callee:=.builtin .len,args:=#[x],argTypes:=#[t] }) (.int .i64 n) w:=by
 intro o ho; unfold execOp; simp only [ho]
 simp [resolve,invoke,builtin,hx,Builtin.len_,run_underlying hu,goInt]
theorem Qi {t : TypeId} {x y : Operand} {k : IntKind} {a : List UInt8} {i : Int} (hu : P.underlying t = some .string) (hx : ev σ x = S a) (hy : ev σ y = .int k i) (h0 : 0≤i) (h1 : i < a.length) :
  Ex P σ w (.index t x y) (.int .u8 ((a.getD i.toNat 0).toNat : Int)) w:=by
 intro o ho; unfold execOp; simp only [ho]; rw [hx,hy]
 have hlt : i.toNat < a.length:=by omega
 have e : (⟨⟨a⟩⟩ : ByteArray)[i.toNat]? = some (a.getD i.toNat 0):=by
  have hs : i.toNat < (⟨⟨a⟩⟩ : ByteArray).size:=hlt
  rw [getElem?_pos (⟨⟨a⟩⟩ : ByteArray) i.toNat hs]
  simp [List.getD_eq_getElem?_getD,List.getElem?_eq_getElem hlt]; rfl
 simp [Instr.index,asIntOf,run_underlying hu,h0,e]
def bnd (σ : Fr) (x : Option Operand) (dflt : Nat) (v : Int) : Prop:=match x with
 | none=>v = dflt
 | some x=>∃ k,ev σ x = .int k v
theorem Yd {t : TypeId} {x : Operand} {lo hi : Option Operand} {a : List UInt8} {l h : Int} (hu : P.underlying t = some .string) (hx : ev σ x = S a) (hl : bnd σ lo 0 l) (hh : bnd σ hi a.length h)
  (h0 : 0≤l) (h1 : l≤h) (h2 : h≤a.length) : Ex P σ w (.slice t x lo hi none) (S ((a.take h.toNat).drop l.toNat)) w:=by
 intro o ho; unfold execOp; simp only [ho]; rw [hx]
 have hs : (ByteArray.mk ⟨a⟩).size = a.length:=rfl
 have key : (ByteArray.mk ⟨a⟩).extract l.toNat h.toNat = ByteArray.mk ⟨(a.take h.toNat).drop l.toNat⟩:=by
  apply ByteArray.ext; simp [List.extract_eq_take_drop,List.drop_take]
 cases lo with
 | none=>
  simp only [bnd] at hl; subst hl
  cases hi with
  | none=>
   simp only [bnd] at hh; subst hh
   simp [Instr.sliceAt,Instr.slice,Instr.sliceBounds,run_underlying hu,hs]
  | some y=>
   obtain ⟨k,hy⟩:=hh
   simp [Instr.sliceAt,Instr.slice,Instr.sliceBounds,Instr.sliceBound,asIntOf,run_underlying hu,hs,hy,h2,show 0≤h by omega]
   simpa using key
 | some z=>
  obtain ⟨k',hz⟩:=hl
  cases hi with
  | none=>
   simp only [bnd] at hh; subst hh
   simp [Instr.sliceAt,Instr.slice,Instr.sliceBounds,Instr.sliceBound,asIntOf,run_underlying hu,hs,hz,h0,h1]
   simpa using key
  | some y=>
   obtain ⟨k,hy⟩:=hh
   simp [Instr.sliceAt,Instr.slice,Instr.sliceBounds,Instr.sliceBound,asIntOf,run_underlying hu,hs,hy,hz,h0,h1,h2,show 0≤h by omega,show max h 0 = h by omega]
   simpa using key
theorem ym {t : TypeId} {x : Operand} {v : Value} {D : TypeDesc} (hu : P.underlying t = some D) (hD : (match D with | .interface _=>false | _=>true) = true) (hx : ev σ x = v) : Ex P σ w (.makeInterface t x) (.iface t v) w:=by
  intro o ho; unfold execOp; simp only [ho]; rw [hx]
  simp only [Instr.makeInterface,Sem.run_bind,run_underlying hu,Result.andThen_ok]
  cases D <;> simp_all
theorem GB {x : Operand} {t u : TypeId} {v : Value} {D : TypeDesc} (hu : P.underlying u = some D) (hD : (match D with | .interface _=>false | _=>true) = true) (hx : ev σ x = .iface u v) : Ex P σ w (.typeAssert x t u true) (.tuple #[v,.bool true]) w:=by
  intro o ho; unfold execOp; simp only [ho]; rw [hx]
  simp only [Instr.typeAssert,Sem.run_bind,run_underlying hu,Result.andThen_ok]
  cases D <;> simp_all
theorem Y7 {x : Operand} {t u t' : TypeId} {v z : Value} {D : TypeDesc} (hu : P.underlying u = some D) (hD : (match D with | .interface _=>false | _=>true) = true) (hz : ∀ w,(zeroValue u).run P w = .ok z w) (hne : t' ≠ u) (hx : ev σ x = .iface t' v) : Ex P σ w (.typeAssert x t u true) (.tuple #[z,.bool false]) w:=by
  intro o ho; unfold execOp; simp only [ho]; rw [hx]
  simp only [Instr.typeAssert,Sem.run_bind,run_underlying hu,Result.andThen_ok]
  cases D <;> simp_all
theorem yA {x : Operand} {vs : Array Value} {i : Nat} {v : Value} (hx : ev σ x = .tuple vs) (hv : vs[i]? = some v) : Ex P σ w (.extract x i) v w:=by
 intro o ho; unfold execOp; simp only [ho]; rw [hx]
 simp [Instr.extract,hv]
theorem QZ {fn : Fn} {fs cs : Array Operand} {vs us : Array Value} (hf' : fs.toList.map (ev σ) = vs.toList) (hc' : cs.toList.map (ev σ) = us.toList) : Ex P σ w (.makeFunc fn fs cs) (.func fn vs us) w:=by
 have hf : fs.map (ev σ) = vs:=by rw [← Array.toList_inj]; simpa using hf'
 have hc : cs.map (ev σ) = us:=by rw [← Array.toList_inj]; simpa using hc'
 intro o ho; unfold execOp; simp only [ho]; rw [hf,hc]
 simp [Instr.makeFunc]
theorem JT {t u : TypeId} {x : Operand} {k j : IntKind} {n : Int} {D : TypeDesc} (hs : P.underlying t = some D) (hu : P.underlying u = some (.int k)) (hx : ev σ x = .int j n) : Ex P σ w (.convert t u x) (.int k (k.wrap n)) w:=by
 intro o ho; unfold execOp; simp only [ho]; rw [hx]
 simp [convert,run_underlying hs,run_underlying hu,Conv.intToInt]
theorem X_max {x y : Operand} {k : IntKind} {m n : Int} {t : Array TypeId} (hx : ev σ x = .int k m) (hy : ev σ y = .int k n) : Ex P σ w (.call { callee:=.builtin .max,args:=#[x,y],argTypes:=t }) (.int k (if m < n then n else m)) w:=by
 intro o ho; unfold execOp; simp only [ho]
 simp [resolve,invoke,builtin,hx,hy,Builtin.max_,Builtin.max2]
abbrev Ext (w w' : World) : Prop:=Below w.heap.size w w'
theorem Ext.refl (w : World) : Ext w w:=Below.refl _ _
theorem Ext.trans {a b c : World} (h : Ext a b) (k : Ext b c) : Ext a c:=Below.trans h (k.mono h.size)
theorem Ext.alloc (w : World) (o : Obj) : Ext w (w.alloc o):=(Below.refl _ _).alloc (Nat.le_refl _) _
theorem Ext.drew (w : World) : Ext w w.drew:=(Below.refl _ _).drew
def Blk (w : World) (b : Nat) (cs : Array Value) (T : TypeId) : Prop:=w.heap[b]? = some (.cells cs T (0,0))
theorem Blk.lt {w : World} {b : Nat} {cs : Array Value} {T : TypeId} (h : Blk w b cs T) : b < w.heap.size:=by
 unfold Blk at h
 exact (Array.getElem?_eq_some_iff.1 h).1
theorem Blk.ext {w w' : World} {b : Nat} {cs : Array Value} {T : TypeId} (h : Blk w b cs T) (e : Ext w w') : Blk w' b cs T:=by
 unfold Blk at *
 rw [e.block b (Blk.lt h),h]
theorem Blk.cell {w : World} {b i : Nat} {cs : Array Value} {T : TypeId} (h : Blk w b cs T) : w.cell? ⟨b,i,none⟩ = cs[i]?:=by
 unfold Blk at h
 simp [World.cell?,h]
theorem jB (w : World) (cs : Array Value) (T : TypeId) : Blk (w.alloc (.cells cs T)) w.heap.size cs T:=by
 unfold Blk
 show (w.heap.push _)[w.heap.size]? = _
 simp
theorem GA {w : World} {b i : Nat} {cs : Array Value} {T : TypeId} (h : Blk w b cs T) (v : Value) : Blk (w.setCell ⟨b,i,none⟩ v) b (cs.setIfInBounds i v) T:=by
 unfold Blk at *
 simp only [World.setCell,Array.getElem?_modify]
 rw [if_true,h]
 rfl
structure Wr (b : Nat) (w w' : World) : Prop where
 os : w'.os = w.os
 tape : w'.tape = w.tape
 output : w'.output = w.output
 size : w'.heap.size = w.heap.size
 block : ∀ k,k ≠ b→w'.heap[k]? = w.heap[k]?
theorem Wr.below {b B : Nat} {w w' : World} (h : Wr b w w') (hB : B≤b) : Below B w w':=⟨h.os,h.tape,h.output,Nat.le_of_eq h.size.symm,fun k hk=>h.block k (by omega)⟩
theorem Wr.of_setCell (w : World) (a : Addr) (v : Value) : Wr a.block w (w.setCell a v):=
 ⟨rfl,rfl,rfl,by simp [World.setCell],fun k hk=>Below.heap_setCell _ _ _ _ hk⟩
theorem Wr.trans {b : Nat} {a c d : World} (h : Wr b a c) (k : Wr b c d) : Wr b a d:=
 ⟨k.os.trans h.os,k.tape.trans h.tape,k.output.trans h.output,k.size.trans h.size,fun i hi=>(k.block i hi).trans (h.block i hi)⟩
theorem Wr.grown {b : Nat} {w w' : World} (h : Wr b w w') : w.grownBy w' (some b):=⟨h.os,h.tape,h.output,Nat.le_of_eq h.size.symm,fun k _ hk=>h.block k (fun e=>hk (by rw [e]))⟩
theorem Ext.grown {w w' : World} (h : Ext w w') (r : Option Nat) : w.grownBy w' r:=⟨h.os,h.tape,h.output,h.size,fun k hk _=>h.block k hk⟩
theorem J9 {w w' : World} {base : Nat} {e : TypeId} {sz : Nat} {v : Value} {n : Nat} {xs : List Value} (h : w.ownsRow base e sz v n xs) (k : Ext w w') : w'.ownsRow base e sz v n xs:=
 h.kept (k.grown none) (by cases v.ownBlock <;> simp)
theorem own_wr {w w' : World} {b base : Nat} {e : TypeId} {sz : Nat} {v : Value} {n : Nat} {xs : List Value} (h : w.ownsRow base e sz v n xs) (k : Wr b w w') (hne : ∀ c,v.ownBlock = some c→c ≠ b) : w'.ownsRow base e sz v n xs:=
 h.kept k.grown (by cases hv : v.ownBlock with
  | none=>exact .inl rfl
  | some c=>exact .inr (fun e=>hne c hv (by injection e)))
def Rd {α : Type} (sz : Nat) (enc : α→List Value) (w : World) (v : Value) (xs : List α) : Prop:=
 ∃ A c,v = .slice A xs.length c∧(xs.length≤c∧(A = none→c = 0)∧xs.length≤9223372036854775807)∧(∀ x ∈ xs,(enc x).length = sz)∧
  (0 < xs.length→∃ ad,A = some ad∧∀ j (h : j < xs.length) (f : Nat) (u : Value),(enc xs[j])[f]? = some u→w.cell? (ad.add (j * sz + f)) = some u)
theorem Rd.ext {α : Type} {sz : Nat} {enc : α→List Value} {w w' : World} {v : Value} {xs : List α} (h : Rd sz enc w v xs) (k : Ext w w') : Rd sz enc w' v xs:=by
 obtain ⟨A,c,hv,hm,hl,hc⟩:=h
 refine ⟨A,c,hv,hm,hl,fun h0=>?_⟩
 obtain ⟨ad,hA,hcell⟩:=hc h0
 refine ⟨ad,hA,fun j hj f u hu=>?_⟩
 have h1:=hcell j hj f u hu
 rw [k.cell (World.block_lt_of_cell? w _ h1)]; exact h1
theorem Rd.below {α : Type} {sz B : Nat} {enc : α→List Value} {w w' : World} {v : Value} {xs : List α} (h : Rd sz enc w v xs) (hB : w.heap.size≤B) (k : Below B w w') : Rd sz enc w' v xs:=
 h.ext (k.mono hB)
theorem Rd.nil {α : Type} (sz : Nat) (enc : α→List Value) (w : World) : Rd sz enc w (.slice none 0 0) ([] : List α):=
 ⟨none,0,rfl,by simp,by simp,by simp⟩
theorem Rd.shape {α : Type} {sz : Nat} {enc : α→List Value} {w : World} {v : Value} {xs : List α} (h : Rd sz enc w v xs) : ∃ A c,v = .slice A xs.length c:=by
 obtain ⟨A,c,hv,_⟩:=h; exact ⟨A,c,hv⟩
theorem QM {α : Type} (enc : α→List Value) (sz : Nat) : ∀ (xs : List α),(∀ x ∈ xs,(enc x).length = sz)→∀ (j : Nat) (hj : j < xs.length) (f : Nat) (u : Value),(enc xs[j])[f]? = some u→(xs.flatMap enc)[j * sz + f]? = some u:=by
 intro xs
 induction xs with
 | nil=>intro _ j hj; simp at hj
 | cons x xs ih=>
  intro hl j hj f u hu
  have hx : (enc x).length = sz:=hl x (by simp)
  cases j with
  | zero=>
   have hf : f < (enc x).length:=by
    have:=List.getElem?_eq_some_iff.1 hu
    simpa using this.1
   simp only [Nat.zero_mul,Nat.zero_add,List.flatMap_cons]
   rw [List.getElem?_append_left hf]
   simpa using hu
  | succ j=>
   have:=ih (fun y hy=>hl y (by simp [hy])) j (by simpa using hj) f u (by simpa using hu)
   simp only [List.flatMap_cons]
   rw [List.getElem?_append_right (by rw [hx,Nat.succ_mul]; omega)]
   rw [← this]
   congr 1
   rw [hx,Nat.succ_mul]; omega
theorem ja {α : Type} (enc : α→List Value) (sz : Nat) : ∀ (xs : List α),(∀ x ∈ xs,(enc x).length = sz)→(xs.flatMap enc).length = xs.length * sz:=by
 intro xs
 induction xs with
 | nil=>simp
 | cons x xs ih=>
  intro hl
  simp only [List.flatMap_cons,List.length_append,List.length_cons,Nat.succ_mul]
  rw [ih (fun y hy=>hl y (by simp [hy])),hl x (by simp)]
  omega
def Ow {α : Type} (e : TypeId) (sz : Nat) (enc : α→List Value) (base : Nat) (w : World) (v : Value) (xs : List α) : Prop:=
 (w.ownsRow base e sz v xs.length (xs.flatMap enc)∨((∃ A,v = .slice A 0 0)∧xs = []))∧(∀ x ∈ xs,(enc x).length = sz)∧xs.length≤9223372036854775807
theorem Ow.rd {α : Type} {e : TypeId} {sz base : Nat} {enc : α→List Value} {w : World} {v : Value} {xs : List α} (h : Ow e sz enc base w v xs) : Rd sz enc w v xs:=by
 obtain ⟨ho | ⟨⟨A,rfl⟩,rfl⟩,hl,hm⟩:=h
 ·rcases ho.2 with ⟨hv,hn⟩ | ⟨g,cap,cur,hv,hb,hh,hnc,hcm,hsz,htk⟩
  ·have : xs = []:=List.eq_nil_of_length_eq_zero hn
   subst this
   exact ⟨none,0,by simpa using hv,by simp,by simp,by simp⟩
  ·refine ⟨_,cap,hv,⟨hnc,by simp,hm⟩,hl,fun _=>⟨_,rfl,fun j hj f u hu=>?_⟩⟩
   have h1:=QM enc sz xs hl j hj f u hu
   rw [← htk] at h1
   have h2 : cur.toList[j * sz + f]? = some u:=by
    rw [List.getElem?_take] at h1
    split at h1
    ·exact h1
    ·cases h1
   have ha : (⟨g,0,none⟩ : Addr).add (j * sz + f) = ⟨g,j * sz + f,none⟩:=by unfold Addr.add; split <;> simp_all
   rw [ha]
   have : w.cell? ⟨g,j * sz + f,none⟩ = cur[j * sz + f]?:=Blk.cell hh
   rw [this,← Array.getElem?_toList]; exact h2
 ·exact ⟨A,0,rfl,by simp,by simp,by simp⟩
theorem Ow.ext {α : Type} {e : TypeId} {sz base : Nat} {enc : α→List Value} {w w' : World} {v : Value} {xs : List α} (h : Ow e sz enc base w v xs) (k : Ext w w') : Ow e sz enc base w' v xs:=⟨h.1.imp (J9 · k) id,h.2⟩
theorem Ow.zero {α : Type} {e : TypeId} {sz base : Nat} {enc : α→List Value} {w : World} {A : Option Addr} : Ow e sz enc base w (.slice A 0 0) ([] : List α):=⟨.inr ⟨⟨A,rfl⟩,rfl⟩,by simp,by simp⟩
theorem Ow.base {α : Type} {e : TypeId} {sz base base' : Nat} {enc : α→List Value} {w : World} {v : Value} {xs : List α} (h : Ow e sz enc base w v xs) (hb : base'≤base) : Ow e sz enc base' w v xs:=by
 refine ⟨h.1.imp (fun h1=>⟨h1.1,?_⟩) id,h.2⟩
 rcases h1.2 with h2 | ⟨g,cap,cur,hv,hg,r⟩
 ·exact .inl h2
 ·exact .inr ⟨g,cap,cur,hv,Nat.le_trans hb hg,r⟩
theorem Ow.wr {α : Type} {e : TypeId} {sz base b : Nat} {enc : α→List Value} {w w' : World} {v : Value} {xs : List α} (h : Ow e sz enc base w v xs) (k : Wr b w w') (hb : b < base) : Ow e sz enc base w' v xs:=
 ⟨h.1.imp (fun h1=>own_wr h1 k (fun c hc=>by have:=h1.lt c hc; omega)) id,h.2⟩
theorem Ow.new {α : Type} {e : TypeId} {sz base b : Nat} {enc : α→List Value} {w : World} {xs : List α} {cs : Array Value} (h : Blk w b cs e) (hb : base≤b) (hcs : cs.toList = xs.flatMap enc) (hl : ∀ x ∈ xs,(enc x).length = sz) (hm : xs.length≤9223372036854775807) :
  Ow e sz enc base w (.slice (some ⟨b,0,none⟩) xs.length xs.length) xs:=by
 have hlen:=ja enc sz xs hl
 have hcsz : cs.size = xs.length * sz:=by rw [← Array.length_toList,hcs,hlen]
 refine ⟨.inl ⟨hlen,.inr ⟨b,xs.length,cs,rfl,hb,h,Nat.le_refl _,by unfold maxLen; omega,hcsz,?_⟩⟩,hl,hm⟩
 rw [hcs,← hlen,List.take_length]
theorem Q7 (b i n : Nat) : (⟨b,i,none⟩ : Addr).add n = ⟨b,i + n,none⟩:=by unfold Addr.add; split <;> simp_all
theorem Vn {t : TypeId} {x : Operand} {a : Addr} {v : Value} (ha : ∀ w,(isAgg t).run P w = .ok false w) (hx : ev σ x = .pointer (some a)) (hc : w.cell? a = some v) : Ex P σ w (.load t x) v w:=by
 intro o ho; unfold execOp; simp only [ho]; rw [hx]
 simp [Instr.loadAt,Instr.sureAddr,loadVar,ha,hc,run_load]
theorem X_loadA {t : TypeId} {x : Operand} {a : Addr} {n : Nat} {cs : List Value} (ha : ∀ w,(isAgg t).run P w = .ok true w) (hs : ∀ w,(sizeOf t).run P w = .ok n w) (hx : ev σ x = .pointer (some a)) (hn : cs.length = n)
  (hc : ∀ j u,cs[j]? = some u→w.cell? (a.add j) = some u) : Ex P σ w (.load t x) (.agg cs.toArray) w:=by
 intro o ho; unfold execOp; simp only [ho]; rw [hx]
 subst hn
 simp [Instr.loadAt,Instr.sureAddr,loadVar,ha,hs,run_loadCells_list w a cs hc]
theorem qc {s : TypeId} {x : Operand} {a : Addr} {i : Nat} {fs : Array Field} {f : Field} {n : Nat} (hu : P.underlying s = some (.struct fs)) (hf : fs[i]? = some f) (hs : ∀ w,(sizeOf f.type).run P w = .ok n w) (hn : (n == 0) = false) (hx : ev σ x = .pointer (some a)) :
  Ex P σ w (.fieldAddr s x i) (.pointer (some (a.add f.offset))) w:=by
 intro o ho; unfold execOp; simp only [ho]; rw [hx]
 have hn' : n ≠ 0:=by simpa using hn
 simp [Instr.fieldAt,Instr.sureAddr,run_underlying hu,hf,fieldPlace,hs,hn']
theorem Qt {t e : TypeId} {x y : Operand} {ad : Addr} {n c sz : Nat} {k : IntKind} {i : Int} (hu : P.underlying t = some (.slice e)) (hs : ∀ w,(sizeOf e).run P w = .ok sz w) (hx : ev σ x = .slice (some ad) n c) (hy : ev σ y = .int k i) (h0 : 0≤i) (h1 : i < n) :
  Ex P σ w (.indexAddr t x y) (.pointer (some (ad.add (i.toNat * sz)))) w:=by
 intro o ho; unfold execOp; simp only [ho]; rw [hx,hy]
 simp [Instr.indexAt,asIntOf,run_underlying hu,hs,h0,h1]
theorem X_sliceSl {t e : TypeId} {x : Operand} {lo hi : Option Operand} {A : Option Addr} {n c sz : Nat} {l h : Int} (hu : P.underlying t = some (.slice e)) (hs : ∀ w,(sizeOf e).run P w = .ok sz w) (hx : ev σ x = .slice A n c) (hl : bnd σ lo 0 l) (hh : bnd σ hi n h)
  (h0 : 0≤l) (h1 : l≤h) (h2 : h≤c) : Ex P σ w (.slice t x lo hi none) (.slice (if c = l.toNat then A else A.map (·.add (l.toNat * sz))) (h.toNat - l.toNat) (c - l.toNat)) w:=by
 intro o ho; unfold execOp; simp only [ho]; rw [hx]
 cases lo with
 | none=>
  simp only [bnd] at hl; subst hl
  cases hi with
  | none=>
   simp only [bnd] at hh; subst hh
   simp [Instr.sliceAt,Instr.slice,Instr.sliceBounds,run_underlying hu,hs]
  | some y=>
   obtain ⟨k,hy⟩:=hh
   simp [Instr.sliceAt,Instr.slice,Instr.sliceBounds,Instr.sliceBound,asIntOf,run_underlying hu,hs,hy,h2,show 0≤h by omega]
 | some z=>
  obtain ⟨k',hz⟩:=hl
  cases hi with
  | none=>
   simp only [bnd] at hh; subst hh
   simp [Instr.sliceAt,Instr.slice,Instr.sliceBounds,Instr.sliceBound,asIntOf,run_underlying hu,hs,hz,h0,h1]
  | some y=>
   obtain ⟨k,hy⟩:=hh
   simp [Instr.sliceAt,Instr.slice,Instr.sliceBounds,Instr.sliceBound,asIntOf,run_underlying hu,hs,hy,hz,h0,h1,h2,show 0≤h by omega,show max h 0 = h by omega]
theorem X_box {t : TypeId} {x : Operand} {v : Value} (hx : ev σ x = v) : Ex P σ w (.box t x) (.pointer (some ⟨w.heap.size,0,none⟩)) (w.alloc (.cells v.cells t)):=by
 intro o ho; unfold execOp; simp only [ho]; rw [hx]
 simp [Instr.box,newVar,newRow]
theorem X_alloc {t : TypeId} {z : Value} (hz : ∀ w,(zeroValue t).run P w = .ok z w) : Ex P σ w (.alloc t) (.pointer (some ⟨w.heap.size,0,none⟩)) (w.alloc (.cells z.cells t)):=by
 intro o ho; unfold execOp; simp only [ho]
 simp [Instr.alloc,newVar,newRow,hz]
theorem X_store1 {t : TypeId} {x y : Operand} {b i : Nat} {cs : Array Value} {T : TypeId} {v : Value} (hs : ∀ w,(sizeOf t).run P w = .ok 1 w) (hx : ev σ x = .pointer (some ⟨b,i,none⟩)) (hy : ev σ y = v) (h1 : v.oneCell' = true) (hb : Blk w b cs T) (hi : i < cs.size) :
  ∀ o : Oper,o.op = .store t x y→(execOp (ev σ) o).run P w = .ok .skip (w.setCell ⟨b,i,none⟩ v):=by
 intro o ho; unfold execOp; simp only [ho]; rw [hx,hy]
 have hc : w.cell? ⟨b,i,none⟩ = some cs[i]:=by rw [Blk.cell hb]; exact Array.getElem?_eq_getElem hi
 have hf : w.frozen? ⟨b,i,none⟩ = false:=by unfold Blk at hb; simp [World.frozen?,hb]
 have h1' : v.cells = #[v]:=by cases v <;> simp_all [Value.oneCell',Value.cells]
 have ha : (⟨b,i,none⟩ : Addr).add 0 = ⟨b,i,none⟩:=by simp [Addr.add]
 simp [Instr.storeAt,Instr.sureAddr,storeVar,hs,h1',storeCells,ha,run_store P w _ v .plain h1,hc,hf]
inductive Tk (N : Nat) (ops : Array Oper) (σ : Fr) (o : Oper) : Prop
 | plain (h : o.guard = none)
 | guard (j : Nat) (b : Bool) (g : Nat) (h : o.guard = some (j,b)) (hj : (ops[j]?).bind (·.dst) = some g) (hgN : g < N) (hv : σ g = .bool b)
theorem JL {d : Nat} (ht : Tk N ops σ o) (hd : o.dst = some d) (hN : d < N)
  (he : ∀ K : Act→World→Prop,∀ a,Rep N a σ→(∀ v w1 a',Rep N a' (upd σ d v)→a' = a.put (some d) v→WL P N ops Q rest (upd σ d v) w1→K a' w1)→o.upon P a K (Qn N Q) ((execOp (ev σ) o).run P w)) : WL P N ops Q (o :: rest) σ w:=fun a ha=>
 wpList_step fun K hK=>by
  have hw : Region.wanted o (yielded ops a.tmps) = true:=by
   rcases ht with h | ⟨j,b,g,h,hj,hgN,hv⟩
   ·simp [Region.wanted,h]
   ·have : a.tmps[g]? = some (.bool b):=by
     have h2:=ha.get g
     rw [hv,Array.getD_eq_getD_getElem?,Array.getElem?_eq_getElem (by rw [ha.size]; exact hgN)] at h2
     rw [Array.getElem?_eq_getElem (by rw [ha.size]; exact hgN)]
     simpa using h2
    simp [Region.wanted,h,yielded,hj,this]
  rw [if_pos hw]
  unfold Oper.wp
  rw [ha.ev]
  exact he K a ha fun v w1 a' hr ha' h=>hK _ _ (h _ hr)
theorem vm {d : Nat} {v : Value} {w1 : World} (ht : Tk N ops σ o) (hd : o.dst = some d) (hN : d < N) (hx : Ex P σ w o.op v w1) (h : WL P N ops Q rest (upd σ d v) w1) : WL P N ops Q (o :: rest) σ w:=
 JL ht hd hN fun K a ha hK=>by
  rw [hx o rfl,Oper.upon_value,hd]
  exact hK _ _ _ (ha.put d hN v) rfl h
theorem jm {d : Nat} {t : TypeId} {x : Operand} {v : Value} (ht : Tk N ops σ o) (hd : o.dst = some d) (hN : d < N) (ho : o.op = .box t x) (hx : ev σ x = v)
  (h : ∀ b w1,w.heap.size = b→w1.heap.size = b + 1→Ext w w1→Blk w1 b v.cells t→WL P N ops Q rest (upd σ d (.pointer (some ⟨b,0,none⟩))) w1) : WL P N ops Q (o :: rest) σ w:=
 vm ht hd hN (by rw [ho]; exact X_box hx) (h _ _ rfl (by simp) (Ext.alloc _ _) (jB _ _ _))
theorem jK {d : Nat} {t : TypeId} {z : Value} (ht : Tk N ops σ o) (hd : o.dst = some d) (hN : d < N) (ho : o.op = .alloc t) (hz : ∀ w,(zeroValue t).run P w = .ok z w)
  (h : ∀ b w1,w.heap.size = b→w1.heap.size = b + 1→Ext w w1→Blk w1 b z.cells t→WL P N ops Q rest (upd σ d (.pointer (some ⟨b,0,none⟩))) w1) : WL P N ops Q (o :: rest) σ w:=
 vm ht hd hN (by rw [ho]; exact X_alloc hz) (h _ _ rfl (by simp) (Ext.alloc _ _) (jB _ _ _))
def Rt (A : Value→World→Prop) : Ending→World→Prop:=fun e w'=>∃ v,e = .returned v∧A v w'
theorem Xy {d f : Nat} {xs : Array Operand} {ts : Array TypeId} {vs : Array Value} {A : Value→World→Prop} (ht : Tk N ops σ o) (hd : o.dst = some d) (hN : d < N)
  (ho : o.op = .call { callee:=.value (.func f),args:=xs,argTypes:=ts }) (hvs : xs.map (ev σ) = vs) (hf : ∀ args w,(callFunc f args).run P w = .ok (.enter f args) w)
  (hC : Calls P f vs w (Rt A)) (h : ∀ v w1,A v w1→WL P N ops Q rest (upd σ d v) w1) : WL P N ops Q (o :: rest) σ w:=
 JL ht hd hN fun K a ha hK=>by
  have e : (execOp (ev σ) o).run P w = .ok (.enter f vs) w:=by
   unfold execOp; simp only [ho]
   simp [resolve,ev,Deferred.ofValue,invoke,hvs,hf]
  rw [e,Oper.upon_enter]
  refine hC.mono fun en w1 hr=>?_
  obtain ⟨v,rfl,hA⟩:=hr
  rw [hd]
  exact hK _ _ _ (ha.put d hN v) rfl (h v w1 hA)
theorem L_callv {d f : Nat} {x : Operand} {xs : Array Operand} {ts : Array TypeId} {vs fs cs : Array Value} {A : Value→World→Prop} (ht : Tk N ops σ o) (hd : o.dst = some d) (hN : d < N)
  (ho : o.op = .call { callee:=.value x,args:=xs,argTypes:=ts }) (hx : ev σ x = .func (.func f) fs cs) (hvs : xs.map (ev σ) = vs) (hf : ∀ args w,(callFunc f args).run P w = .ok (.enter f args) w)
  (hC : Calls P f (fs ++ vs ++ cs) w (Rt A)) (h : ∀ v w1,A v w1→WL P N ops Q rest (upd σ d v) w1) : WL P N ops Q (o :: rest) σ w:=
 JL ht hd hN fun K a ha hK=>by
  have e : (execOp (ev σ) o).run P w = .ok (.enter f (fs ++ vs ++ cs)) w:=by
   unfold execOp; simp only [ho]
   have hvs' : Array.map (ev σ) xs = vs:=hvs
   simp [resolve,hx,Deferred.ofValue,invoke,hf,hvs']
  rw [e,Oper.upon_enter]
  refine hC.mono fun en w1 hr=>?_
  obtain ⟨v,rfl,hA⟩:=hr
  rw [hd]
  exact hK _ _ _ (ha.put d hN v) rfl (h v w1 hA)
theorem L_gen0 (ht : Tk N ops σ o) (he : ∀ K : Act→World→Prop,∀ a,Rep N a σ→(∀ w1,WL P N ops Q rest σ w1→K a w1)→o.upon P a K (Qn N Q) ((execOp (ev σ) o).run P w)) : WL P N ops Q (o :: rest) σ w:=fun a ha=>
 wpList_step fun K hK=>by
  have hw : Region.wanted o (yielded ops a.tmps) = true:=by
   rcases ht with h | ⟨j,b,g,h,hj,hgN,hv⟩
   ·simp [Region.wanted,h]
   ·have : a.tmps[g]? = some (.bool b):=by
     have h2:=ha.get g
     rw [hv,Array.getD_eq_getD_getElem?,Array.getElem?_eq_getElem (by rw [ha.size]; exact hgN)] at h2
     rw [Array.getElem?_eq_getElem (by rw [ha.size]; exact hgN)]
     simpa using h2
    simp [Region.wanted,h,yielded,hj,this]
  rw [if_pos hw]
  unfold Oper.wp
  rw [ha.ev]
  exact he K a ha fun w1 h=>hK _ _ (h _ ha)
theorem QN {t : TypeId} {x y : Operand} {b i : Nat} {cs : Array Value} {T : TypeId} {v : Value} (ht : Tk N ops σ o) (hd : o.dst = none) (ho : o.op = .store t x y)
  (hs : ∀ w,(sizeOf t).run P w = .ok 1 w) (hx : ev σ x = .pointer (some ⟨b,i,none⟩)) (hy : ev σ y = v) (h1 : v.oneCell' = true) (hb : Blk w b cs T) (hi : i < cs.size)
  (h : ∀ w1,Wr b w w1→Blk w1 b (cs.setIfInBounds i v) T→WL P N ops Q rest σ w1) : WL P N ops Q (o :: rest) σ w:=
 L_gen0 ht fun K a ha hK=>by
  rw [X_store1 hs hx hy h1 hb hi o ho,Oper.upon_skip,hd]
  exact hK _ (h _ (Wr.of_setCell w ⟨b,i,none⟩ v) (GA hb v))
theorem cells_one {v : Value} (h : v.oneCell' = true) : v.cells = #[v]:=by cases v <;> simp_all [Value.oneCell',Value.cells]
theorem fill_one (pl : Array (Nat × Nat)) : ∀ (vs : List (Nat × Value)) (cs : List Value), (vs.all fun p => (match pl[p.1]? with | some q => Nat.beq q.1 p.1 && Nat.beq q.2 1 | none => false) && p.2.oneCell' && Nat.blt p.1 cs.length) = true →
    Instr.fill (pl[·]?) ⟨cs⟩ vs = some ⟨vs.foldl (fun c p=>c.set p.1 p.2) cs⟩:=by
  intro vs
  induction vs with
  | nil=>intro cs _; rfl
  | cons p vs ih=>
    intro cs h
    simp only [List.all_cons,Bool.and_eq_true] at h
    obtain ⟨⟨⟨h1,h2⟩,h3⟩,h4⟩:=h
    obtain ⟨i,v⟩:=p
    simp only [Instr.fill]
    cases hq : pl[i]? with
    | none=>rw [hq] at h1; cases h1
    | some q=>
      rw [hq] at h1
      simp only [Bool.and_eq_true] at h1
      have e1:=Nat.eq_of_beq_eq_true h1.1
      have e2:=Nat.eq_of_beq_eq_true h1.2
      have e4 : i < cs.length:=by rwa [Nat.blt_eq] at h3
      obtain ⟨q1,q2⟩:=q
      simp only at e1 e2
      subst e1; subst e2
      have hc : v.cells = #[v]:=cells_one h2
      have hsz : (⟨cs⟩ : Array Value).size = cs.length:=rfl
      simp only [hc,List.size_toArray,List.length_cons,List.length_nil]
      rw [if_neg (by simp; omega)]
      have hz : (Array.foldl (fun cs (x : Value × Nat)=>cs.setIfInBounds (q1 + x.2) x.1) (⟨cs⟩ : Array Value) (#[v].zipIdx)) = ⟨cs.set q1 v⟩:=by
        apply Array.ext'
        simp
      have ih':=ih (cs.set q1 v) (by simpa using h4)
      simp only [List.foldl_cons]
      rw [← ih',← hz]
theorem Vk {t : TypeId} {ps : Array (Nat × Operand)} {vs : List (Nat × Value)} {fs : Array Field} {z : Value} {pl : Array (Nat × Nat)} {zs : List Value} (hu : P.underlying t = some (.struct fs)) (hz : ∀ w, (zeroValue t).run P w = .ok z w) (hzs : z.cells.toList = zs)
    (hpl : ∀ w,(fs.mapM fun f=>(do pure (f.offset,← sizeOf f.type) : Sem (Nat × Nat))).run P w = .ok pl w) (hps : ps.toList.map (·.1) = vs.map (·.1)) (hvs : ps.toList.map (fun p=>ev σ p.2) = vs.map (·.2)) (hok : (vs.all fun p=>(match pl[p.1]? with | some q=>Nat.beq q.1 p.1 && Nat.beq q.2 1 | none=>false) && p.2.oneCell' && Nat.blt p.1 zs.length) = true) :
    Ex P σ w (.build t ps) (.agg ⟨vs.foldl (fun c p=>c.set p.1 p.2) zs⟩) w:=by
  intro o ho; unfold execOp; simp only [ho]
  have h1 : (Array.map (fun x=>(x.fst,ev σ x.snd)) ps).toList = vs:=by
    rw [Array.toList_map]
    generalize ps.toList = l at hps hvs
    clear hok
    induction l generalizing vs with
    | nil=>cases vs with
      | nil=>rfl
      | cons v vs=>simp at hps
    | cons x l ih=>
      cases vs with
      | nil=>simp at hps
      | cons v vs=>
        simp only [List.map_cons,List.cons.injEq] at hps hvs ⊢
        exact ⟨by rw [hps.1,hvs.1],ih hps.2 hvs.2⟩
  have h2 : z.cells = ⟨zs⟩:=by apply Array.ext'; simpa using hzs
  have h3:=fill_one pl vs zs hok
  simp only [Instr.build,Sem.run_bind,hz,Result.andThen_ok,run_underlying hu,hpl,h1,h2,h3,Sem.run_pure]
theorem Jq {α : Type} (enc : α→List Value) (z : α) : ∀ n,(List.replicate n z).flatMap enc = (List.replicate n (enc z)).flatten:=by
 intro n; induction n with
 | zero=>rfl
 | succ n ih=>simp [List.replicate_succ,ih]
theorem JQ (zs : Array Value) (hpos : 0 < zs.size) : ∀ n,(madeCells zs (n * zs.size)).toList = (List.replicate n zs.toList).flatten:=by
 intro n
 induction n with
 | zero=>simp [madeCells]
 | succ n ih=>
  rw [List.replicate_succ',List.flatten_append,← ih]
  simp only [madeCells,Array.toList_map,Array.toList_range,Nat.succ_mul,List.range_add,List.map_append,List.map_map,List.flatten_cons,List.flatten_nil,List.append_nil]
  congr 1
  apply List.ext_getElem
  ·simp
  ·intro j h1 h2
   have hj : j < zs.size:=by simpa using h1
   simp [Nat.mul_add_mod',Nat.mod_eq_of_lt hj,hj]
theorem zip_put : ∀ (vs : List Value) (done rest : List Value) (off : Nat),off = done.length→vs.length≤rest.length→
  (vs.zipIdx off).foldl (fun (cs : Array Value) (p : Value × Nat)=>cs.setIfInBounds p.2 p.1) ⟨done ++ rest⟩ = ⟨done ++ vs ++ rest.drop vs.length⟩:=by
 intro vs
 induction vs with
 | nil=>intro done rest off _ _; simp
 | cons v vs ih=>
  intro done rest off hoff hl
  cases rest with
  | nil=>simp at hl
  | cons r rest=>
   simp only [List.zipIdx_cons,List.foldl_cons]
   have : (⟨done ++ r :: rest⟩ : Array Value).setIfInBounds off v = ⟨(done ++ [v]) ++ rest⟩:=by
    subst hoff
    apply Array.ext'
    simp
   rw [this,ih (done ++ [v]) rest (off + 1) (by simp [hoff]) (by simpa using hl)]
   simp
theorem fill_lit (sz : Nat) : ∀ (vs : List Value) (n : Nat) (done rest : List Value),(∀ v ∈ vs,v.cells.size = sz)→done.length = n * sz→rest.length = vs.length * sz→
  Instr.fill (fun i=>some (i * sz,sz)) ⟨done ++ rest⟩ ((vs.zipIdx n).map fun p=>(p.2,p.1)) = some ⟨done ++ (vs.map fun v=>v.cells.toList).flatten⟩:=by
 intro vs
 induction vs with
 | nil=>intro n done rest _ _ hr; have : rest = []:=List.eq_nil_of_length_eq_zero (by simpa using hr); subst this; simp [Instr.fill]
 | cons v vs ih=>
  intro n done rest hv hd hr
  have hv1:=hv v (by simp)
  simp only [List.zipIdx_cons,List.map_cons,Instr.fill]
  have hsz : (⟨done ++ rest⟩ : Array Value).size = done.length + rest.length:=by simp
  have hr' : rest.length = vs.length * sz + sz:=by simpa [Nat.succ_mul] using hr
  rw [if_neg (by simp [hv1]; omega)]
  have hz:=zip_put v.cells.toList done rest done.length rfl (by simp; omega)
  have hf : (v.cells.zipIdx.foldl (fun cs (x : Value × Nat)=>cs.setIfInBounds (n * sz + x.2) x.1) (⟨done ++ rest⟩ : Array Value)) = ⟨done ++ v.cells.toList ++ rest.drop v.cells.toList.length⟩:=by
   rw [← hz,← Array.foldl_toList,Array.toList_zipIdx,hd]
   have : ∀ (l : List Value) (a b : Nat) (c : Array Value),(l.zipIdx a).foldl (fun cs (x : Value × Nat)=>cs.setIfInBounds (b + x.2) x.1) c = (l.zipIdx (b + a)).foldl (fun cs (x : Value × Nat)=>cs.setIfInBounds x.2 x.1) c:=by
    intro l
    induction l with
    | nil=>intro a b c; rfl
    | cons x l ihl=>intro a b c; simp only [List.zipIdx_cons,List.foldl_cons]; rw [ihl]; rfl
   exact this _ 0 (n * sz) _
  rw [hf,ih (n + 1) (done ++ v.cells.toList) _ (fun u hu=>hv u (by simp [hu])) (by simp [hd,hv1,Nat.succ_mul]) (by simp [hv1]; omega)]
  simp
theorem vH {vs : List Value} {sz : Nat} (h : (vs.all fun v=>Nat.beq v.cells.size sz) = true) : ∀ v ∈ vs,v.cells.size = sz:=fun v hv=>Nat.eq_of_beq_eq_true (List.all_eq_true.1 h v hv)
theorem parts_zip {ps : List (Nat × Operand)} {σ : Fr} : ∀ (vs : List Value) (k : Nat),ps.map (·.1) = List.range' k vs.length→ps.map (fun p=>ev σ p.2) = vs→ps.map (fun p=>(p.1,ev σ p.2)) = (vs.zipIdx k).map fun p=>(p.2,p.1):=by
 induction ps with
 | nil=>intro vs k h1 h2; cases vs with
  | nil=>rfl
  | cons v vs=>simp at h2
 | cons p ps ih=>
  intro vs k h1 h2
  cases vs with
  | nil=>simp at h2
  | cons v vs=>
   simp only [List.map_cons,List.cons.injEq,List.length_cons,List.range'_succ] at h1 h2
   simp only [List.map_cons,List.zipIdx_cons]
   rw [ih vs (k + 1) h1.2 h2.2,h1.1,h2.1]
theorem yz {d : Nat} {t e : TypeId} {n sz : Nat} {ps : Array (Nat × Operand)} {vs : List Value} {z : Value} (ht : Tk N ops σ o) (hd : o.dst = some d) (hN : d < N) (ho : o.op = .buildSlice t n ps)
  (hu : P.underlying t = some (.slice e)) (hs : ∀ w,(sizeOf e).run P w = .ok sz w) (hz : ∀ w,(zeroValue e).run P w = .ok z w) (hzs : Nat.beq z.cells.size sz = true) (hn : Nat.ble (n * sz) 16777216 = true && Nat.blt 0 sz)
  (hps : ps.toList.map (·.1) = List.range' 0 n) (hvs : ps.toList.map (fun p=>ev σ p.2) = vs) (hall : ∀ v ∈ vs,v.cells.size = sz)
  (h : ∀ b w1,w.heap.size = b→w1.heap.size = b + 1→Ext w w1→Blk w1 b ⟨(vs.map fun v=>v.cells.toList).flatten⟩ e→WL P N ops Q rest (upd σ d (.slice (some ⟨b,0,none⟩) n n)) w1) : WL P N ops Q (o :: rest) σ w:=by
 have hzs':=Nat.eq_of_beq_eq_true hzs
 have hlen : vs.length = n:=by rw [← hvs,List.length_map]; have:=congrArg List.length hps; simpa using this
 simp only [Bool.and_eq_true,decide_eq_true_eq] at hn
 have hle0:=Nat.le_of_ble_eq_true hn.1
 have hpos : 0 < sz:=by have:=hn.2; rwa [Nat.blt_eq] at this
 have hfill : Instr.fill (fun i=>some (i * sz,sz)) ((Array.range (n * sz)).map (z.cells[· % z.cells.size]!)) (ps.map fun (i,x)=>(i,ev σ x)).toList = some ⟨(vs.map fun v=>v.cells.toList).flatten⟩:=by
  have h1 : (ps.map fun (i,x)=>(i,ev σ x)).toList = (vs.zipIdx 0).map fun p=>(p.2,p.1):=by
   rw [Array.toList_map]
   exact parts_zip vs 0 (by rw [hlen]; exact hps) hvs
  have h2 : ((Array.range (n * sz)).map (z.cells[· % z.cells.size]!)) = ⟨[] ++ (List.replicate n z.cells.toList).flatten⟩:=by
   apply Array.ext'
   have:=JQ z.cells (by omega) n
   rw [hzs'] at this
   simpa [madeCells] using this
  rw [h1,h2]
  have:=fill_lit sz vs 0 [] (List.replicate n z.cells.toList).flatten hall (by simp) (by simp [hlen,hzs'])
  simpa using this
 have hx : Ex P σ w o.op (.slice (some ⟨w.heap.size,0,none⟩) n n) (w.alloc (.cells ⟨(vs.map fun v=>v.cells.toList).flatten⟩ e)):=by
  rw [ho]
  intro o ho; unfold execOp; simp only [ho]
  have hle : ¬ n * sz > 2 ^ 24:=by omega
  simp only [Instr.buildSlice,Sem.run_bind,run_underlying hu,Result.andThen_ok,hs,if_neg hle]
  by_cases h0 : n * sz = 0
  ·have hn0 : n = 0:=by
    rcases Nat.mul_eq_zero.1 h0 with h | h
    ·exact h
    ·omega
   subst hn0
   have hv0 : vs = []:=List.eq_nil_of_length_eq_zero hlen
   subst hv0
   have hp0 : ps.toList = []:=by simpa using hvs
   have hp0' : ps = #[]:=by apply Array.ext'; simpa using hp0
   subst hp0'
   have he : Array.map (fun (_ : Nat)=>(default : Value)) (Array.range 0) = (⟨[]⟩ : Array Value):=by apply Array.ext'; simp
   simp [Instr.fill,newRow]
   rw [he]
  ·have hfill' : Instr.fill (fun i=>some (i * sz,sz)) (Array.map (fun x=>z.cells[x % z.cells.size]!) (Array.range (n * sz))) (Array.map (fun x=>(x.fst,ev σ x.snd)) ps).toList = some ⟨(vs.map fun v=>v.cells.toList).flatten⟩:=hfill
   simp only [if_neg h0,Sem.run_bind,hz,Sem.run_pure,Result.andThen_ok,hfill',newRow,run_newObj]
   rfl
 exact vm ht hd hN hx (h _ _ rfl (by simp) (Ext.alloc _ _) (jB _ _ _))
theorem YB {P : Program} {w : World} {t e ty : TypeId} {i : TypeInfo} {a : Addr} {B : Option Addr} {m c : Nat} (hu : P.underlying t = some (.slice e)) (hi : P.info? e = some i) (hm : 0 < m) (hb : m * i.bytes≤140737488355328) :
  (Builtin.append_ #[t,t] ty #[.slice (some a) 0 0,.slice B m c]).run P w = (Builtin.append_ #[t,t] ty #[.slice none 0 0,.slice B m c]).run P w:=by
 have h1 : ¬ m = 0:=by omega
 have h3 : Builtin.nextslicecap m 0 = m:=by simp [Builtin.nextslicecap,hm]
 have h4 : ¬ 281474976710656 < m * i.bytes:=by omega
 simp [Builtin.append_,run_underlying hu,sizeOf,typeInfo,hi,Builtin.lenOf,h1,h3,h4,Builtin.firstCells,loadCells,loadCellsFrom]
theorem YW {P : Program} {α : Type} {enc : α→List Value} {w : World} {t e ty : TypeId} {i : TypeInfo} {z : Value} {sz by' base : Nat} {v u : Value} {xs ys : List α}
  (hu : P.underlying t = some (.slice e)) (hi : P.info? e = some i) (hz : i.zero = some z) (hsz : i.size = sz) (hby : i.bytes = by') (hzs : z.cells.size = sz) (hpos : 0 < sz) (hb0 : 0 < by')
  (hO : Ow e sz enc base w v xs) (hR : Rd sz enc w u ys) (h1 : ∀ y ∈ ys,∀ c ∈ enc y,c.oneCell' = true) (hbound : (xs.length + ys.length) * by'≤140737488355328) (hbase : base≤w.heap.size) :
  ∃ v1 w1,(Builtin.append_ #[t,t] ty #[v,u]).run P w = .ok v1 w1∧Ow e sz enc base w1 v1 (xs ++ ys)∧w.heap.size≤w1.heap.size∧(∀ W,Below base W w→Below base W w1):=by
 obtain ⟨A,c,hu',⟨hnc,hnone,hm⟩,hl,hc⟩:=hR
 have hlen:=ja enc sz ys hl
 have hml : xs.length + ys.length≤140737488355328:=Nat.le_trans (Nat.le_mul_of_pos_right _ hb0) hbound
 have hlen2 : ∀ y ∈ xs ++ ys,(enc y).length = sz:=by
  intro y hy
  rcases List.mem_append.1 hy with hy | hy
  ·exact hO.2.1 y hy
  ·exact hl y hy
 have row : ∀ v',w.ownsRow base e sz v' xs.length (xs.flatMap enc)→∃ v1 w1,(Builtin.append_ #[t,t] ty #[v',u]).run P w = .ok v1 w1∧Ow e sz enc base w1 v1 (xs ++ ys)∧w.heap.size≤w1.heap.size∧(∀ W,Below base W w→Below base W w1):=by
  intro v' hown
  cases A with
  | none=>
   have hc0:=hnone rfl
   have hy0 : ys = []:=List.eq_nil_of_length_eq_zero (by omega)
   subst hy0; subst hu'; subst hc0
   exact ⟨v',w,run_append_owned_none (P:=P) (w:=w) base t ty e i sz hu hi v' xs.length _ hown,⟨.inl (by simpa using hown),by simpa using hlen2,by simpa using hO.2.2⟩,Nat.le_refl _,fun _ h=>h⟩
  | some ad=>
   have hnews : ∀ j q,(ys.flatMap enc)[j]? = some q→w.cell? (ad.add j) = some q:=by
    intro j q hq
    have hj : j < ys.length * sz:=by rw [← hlen]; exact (List.getElem?_eq_some_iff.1 hq).1
    have hy0 : 0 < ys.length:=by
     rcases Nat.eq_zero_or_pos ys.length with h0 | h0
     ·rw [h0] at hj; omega
     ·exact h0
    obtain ⟨ad',hA,hcell⟩:=hc hy0
    injection hA with hA; subst hA
    have hj1 : j / sz < ys.length:=(Nat.div_lt_iff_lt_mul hpos).2 hj
    have hf : j % sz < (enc ys[j / sz]).length:=by rw [hl _ (List.getElem_mem hj1)]; exact Nat.mod_lt _ hpos
    have hq':=QM enc sz ys hl (j / sz) hj1 (j % sz) _ (List.getElem?_eq_getElem hf)
    have hdm : j / sz * sz + j % sz = j:=Nat.div_add_mod' j sz
    rw [hdm,hq] at hq'
    injection hq' with hq'
    have:=hcell (j / sz) hj1 (j % sz) q (by rw [hq']; exact List.getElem?_eq_getElem hf)
    rwa [hdm] at this
   subst hu'
   obtain ⟨v1,w1,hr,h2,h3,h4,h5⟩:=run_append_own_at (P:=P) w base t ty e i z sz by' hu hi hz hsz hby hzs hpos v' xs.length _ hown ad ys.length c (ys.flatMap enc) hlen hnews
    (by intro q hq; obtain ⟨y,hy,hq⟩:=List.mem_flatMap.1 hq; exact h1 y hy q hq) (by unfold maxLen; omega) hbound hbase
   exact ⟨v1,w1,hr,⟨.inl (by simpa using h2),hlen2,by simp; omega⟩,h3.size,fun W hW=>hW.grown h3 hbase (fun k hk=>(hown.lt k hk).1)⟩
 obtain ⟨ho | ⟨⟨A0,rfl⟩,rfl⟩,hOl,hOm⟩:=hO
 ·exact row v ho
 ·have hnil : w.ownsRow base e sz (.slice none 0 0) ([] : List α).length (([] : List α).flatMap enc):=by simpa using World.ownsRow_nil w base e sz
  obtain ⟨v1,w1,hr,h2,h3,h4⟩:=row _ hnil
  cases A0 with
  | none=>exact ⟨v1,w1,hr,h2,h3,h4⟩
  | some a0=>
   rcases Nat.eq_zero_or_pos ys.length with h0 | h0
   ·have hy0 : ys = []:=List.eq_nil_of_length_eq_zero h0
    subst hy0; subst hu'
    refine ⟨.slice (some a0) 0 0,w,?_,by simpa using Ow.zero,Nat.le_refl _,fun _ h=>h⟩
    cases A <;> simp [Builtin.append_,run_underlying hu,sizeOf,typeInfo,hi,Builtin.lenOf,Builtin.firstCells,loadCells,loadCellsFrom,storeCells]
   ·subst hu'
    refine ⟨v1,w1,?_,h2,h3,h4⟩
    rw [YB hu hi h0 (by rw [hby]; simpa using hbound)]
    exact hr
structure ElemI (P : Program) (t e sz by' : Nat) (z : Value) : Prop where
 under : P.underlying t = some (.slice e)
 info : ∃ i,P.info? e = some i∧i.zero = some z∧i.size = sz∧i.bytes = by'
 zsize : z.cells.size = sz
 pos : 0 < sz
 bpos : 0 < by'
theorem ElemI.mk' {t e sz by' : Nat} {z : Value} (h1 : P.underlying t = some (.slice e)) (h2 : (P.info? e).map (fun i=>(i.zero,i.size,i.bytes)) = some (some z,sz,by')) (h3 : z.cells.size = sz) (h4 : Nat.blt 0 sz = true) (h5 : Nat.blt 0 by' = true) : ElemI P t e sz by' z:=by
 obtain ⟨i,hi,hz⟩:=Option.map_eq_some_iff.1 h2
 simp only [Prod.mk.injEq] at hz
 exact ⟨h1,⟨i,hi,hz.1,hz.2.1,hz.2.2⟩,h3,ltb h4,ltb h5⟩
theorem yH {α : Type} {enc : α→List Value} {d : Nat} {s x : Operand} {t e : TypeId} {z : Value} {sz by' base : Nat} {v u : Value} {xs ys : List α} (ht : Tk N ops σ o) (hd : o.dst = some d) (hN : d < N)
  (ho : o.op = .call { callee:=.builtin .append,args:=#[s,x],argTypes:=#[t,t] }) (he : ElemI P t e sz by' z)
  (hs : ev σ s = v) (hx : ev σ x = u) (hO : Ow e sz enc base w v xs) (hR : Rd sz enc w u ys) (h1 : ∀ y ∈ ys,∀ c ∈ enc y,c.oneCell' = true) (hbound : (xs.length + ys.length) * by'≤140737488355328) (hbase : base≤w.heap.size)
  (h : ∀ v1 w1,Ow e sz enc base w1 v1 (xs ++ ys)→w.heap.size≤w1.heap.size→(∀ W,Below base W w→Below base W w1)→WL P N ops Q rest (upd σ d v1) w1) : WL P N ops Q (o :: rest) σ w:=by
 obtain ⟨hu,⟨i,hi,hz,hsz,hby⟩,hzs,hpos,hb0⟩:=he
 obtain ⟨v1,w1,hr,h2,h3,h4⟩:=YW (P:=P) (ty:=o.type) hu hi hz hsz hby hzs hpos hb0 hO hR h1 hbound hbase
 refine vm ht hd hN ?_ (h v1 w1 h2 h3 h4)
 intro o' ho'
 have hty : Builtin.append_ #[t,t] o'.type #[v,u] = Builtin.append_ #[t,t] o.type #[v,u]:=rfl
 unfold execOp
 simp only [ho',ho,resolve,invoke,builtin,Sem.run_bind,Sem.run_pure,Result.andThen_ok,List.map_toArray,List.map_cons,List.map_nil,hs,hx,hty,hr]
theorem L_make {α : Type} {enc : α→List Value} {d : Nat} {x y : Operand} {t e : TypeId} {z : Value} {sz by' base : Nat} {zr : α} {n : Nat} (ht : Tk N ops σ o) (hd : o.dst = some d) (hN : d < N) (ho : o.op = .makeSlice t x y)
  (he : ElemI P t e sz by' z) (hzr : z.cells.toList = enc zr)
  (hx : ev σ x = .int .i64 n) (hy : ev σ y = .int .i64 n) (hbound : n * by'≤281474976710656) (hbase : base≤w.heap.size)
  (h : ∀ b w1,w.heap.size = b→w1.heap.size = b + 1→Ext w w1→Ow e sz enc base w1 (.slice (some ⟨b,0,none⟩) n n) (List.replicate n zr)→WL P N ops Q rest (upd σ d (.slice (some ⟨b,0,none⟩) n n)) w1) : WL P N ops Q (o :: rest) σ w:=by
 obtain ⟨hu,⟨i,hi,hz,hsz,hby⟩,hzs,hpos,hb0⟩:=he
 have hnb : n≤281474976710656:=Nat.le_trans (Nat.le_mul_of_pos_right _ hb0) hbound
 have hr:=run_make (P:=P) w t e i z hu hi hz .i64 .i64 (n : Int) (n : Int) (by omega) (by omega) (by rw [hby,← Int.natCast_mul,Nat.mul_comm]; omega) (by omega)
 simp only [Int.toNat_natCast,hsz] at hr
 refine vm ht hd hN ?_ (h w.heap.size (w.alloc (.cells (madeCells z.cells (n * sz)) e)) rfl (by simp) (Ext.alloc _ _) ?_)
 rotate_left 2
 ·intro o' ho'
  unfold execOp
  simp only [ho',ho,Sem.run_bind,hx,hy,hr,Result.andThen_ok,Sem.run_pure]
 ·have hcs : (madeCells z.cells (n * sz)).toList = (List.replicate n zr).flatMap enc:=by
   rw [Jq,← hzr,← hzs]
   exact JQ z.cells (by omega) n
  have:=Ow.new (sz:=sz) (base:=base) (jB w (madeCells z.cells (n * sz)) e) hbase hcs (by intro q hq; rw [List.eq_of_mem_replicate hq,← hzr]; simpa using hzs) (by simp; omega)
  simpa using this
end
def vn (l : List Oper) (i : Nat) : Nat:=match l[i]? with
 | some o=>o.dst.getD 0
 | none=>0
def isD : List Oper→Nat→Bool
  | [],_=>false
  | o :: r,t=>(match o.dst with | some d=>Nat.beq d t | none=>false) || isD r t
def dep (o : Oper) (j : Nat) : Bool:=o.after.toList.any fun e=>Region.binds .any e && Nat.beq e.on j
def yg (l : List Oper) (j i : Nat) : Bool:=match l[j]? with
 | some o=>dep o i
 | none=>false
def jP (N : Nat) : List Oper→Nat→Bool
  | [],_=>true
  | o :: r,n=>(match o.dst with | some d=>!isD r d && Nat.blt d N | none=>false) && (o.after.toList.all fun e=>!Region.binds .any e || Nat.blt e.on n) && jP N r (n + 1)
def Q4 (f : Nat→Oper→Prop) : List Oper→Nat→Prop
 | [],_=>True
 | o :: r,n=>f n o∧Q4 f r (n + 1)
theorem Jw {f : Nat→Oper→Prop} : ∀ (l : List Oper) (n : Nat),Q4 f l n→∀ i o,l[i]? = some o→f (n + i) o:=by
 intro l
 induction l with
 | nil=>intro n _ i o h; simp at h
 | cons x r ih=>
  intro n ⟨h1,h2⟩ i o h
  cases i with
  | zero=>simp at h; subst h; exact h1
  | succ i=>
   have:=ih (n + 1) h2 i o (by simpa using h)
   rwa [show n + 1 + i = n + (i + 1) by omega] at this
theorem Vp : ∀ (l : List Oper) (i : Nat) (o : Oper) (d : Nat),l[i]? = some o→o.dst = some d→isD l d = true:=by
 intro l
 induction l with
 | nil=>intro i o d h; simp at h
 | cons x r ih=>
  intro i o d h hd
  cases i with
  | zero=>simp at h; subst h; simp [isD,hd]
  | succ i=>simp only [isD]; rw [ih i o d (by simpa using h) hd]; simp
theorem jA {N : Nat} : ∀ (l : List Oper) (n : Nat),jP N l n = true→∀ i o,l[i]? = some o→∃ d,o.dst = some d∧d < N∧(∀ e ∈ o.after.toList,Region.binds .any e = true→e.on < n + i):=by
 intro l
 induction l with
 | nil=>intro n _ i o h; simp at h
 | cons x r ih=>
  intro n hk i o h
  simp only [jP,Bool.and_eq_true] at hk
  obtain ⟨⟨h1,h2⟩,h3⟩:=hk
  cases i with
  | zero=>
   simp at h; subst h
   cases hd : x.dst with
   | none=>rw [hd] at h1; simp at h1
   | some d=>
    rw [hd] at h1; simp at h1
    refine ⟨d,rfl,by simpa [Nat.blt_eq] using h1.2,fun e he hb=>?_⟩
    have:=List.all_eq_true.1 h2 e he
    simp [hb] at this
    simpa using this
  | succ i=>
   obtain ⟨d,h4,h5,h6⟩:=ih (n + 1) h3 i o (by simpa using h)
   exact ⟨d,h4,h5,fun e he hb=>by have:=h6 e he hb; omega⟩
theorem X4 {N : Nat} : ∀ (l : List Oper) (n : Nat),jP N l n = true→∀ (i j : Nat) (oi oj : Oper) (d : Nat),l[i]? = some oi→l[j]? = some oj→oi.dst = some d→oj.dst = some d→i = j:=by
 intro l
 induction l with
 | nil=>intro n _ i j oi oj d h; simp at h
 | cons x r ih=>
  intro n hk i j oi oj d hi hj hdi hdj
  simp only [jP,Bool.and_eq_true] at hk
  obtain ⟨⟨h1,h2⟩,h3⟩:=hk
  cases i with
  | zero=>
   cases j with
   | zero=>rfl
   | succ j=>
    simp at hi; subst hi
    rw [hdi] at h1; simp at h1
    have:=Vp r j oj d (by simpa using hj) hdj
    rw [this] at h1; simp at h1
  | succ i=>
   cases j with
   | zero=>
    simp at hj; subst hj
    rw [hdj] at h1; simp at h1
    have:=Vp r i oi d (by simpa using hi) hdi
    rw [this] at h1; simp at h1
   | succ j=>rw [ih (n + 1) h3 i j oi oj d (by simpa using hi) (by simpa using hj) hdi hdj]
theorem Xn (p q : Nat→Bool) : ∀ (n i : Nat),i < n→p i = true→q i = false→(∀ j,j < n→j ≠ i→q j = p j)→(List.range n).countP q < (List.range n).countP p:=by
 intro n
 induction n with
 | zero=>intro i hi; omega
 | succ n ih=>
  intro i hi hp hq h
  rw [List.range_succ,List.countP_append,List.countP_append]
  by_cases e : i = n
  ·subst e
   have : (List.range i).countP q = (List.range i).countP p:=by
    refine List.countP_congr fun j hj=>?_
    rw [h j (by have:=List.mem_range.1 hj; omega) (by have:=List.mem_range.1 hj; omega)]
   simp [this,hp,hq]
  ·have:=ih i (by omega) hp hq (fun j hj hji=>h j (by omega) hji)
   have hn:=h n (by omega) (fun e'=>e e'.symm)
   simp only [List.countP_cons,List.countP_nil,hn]
   omega
theorem Q8 {P : Program} {o : Oper} {a : Act} {K : Act→World→Prop} {Q Q' : Exit→Act→World→Prop} {r : Result Next} (h1 : ∀ ch a w,Q (.panic ch) a w→Q' (.panic ch) a w) (h2 : LetsOut Q→LetsOut Q')
  (h : o.upon P a K Q r) : o.upon P a K Q' r:=by
 cases r with
 | ok n w'=>
  cases n <;> simp only [Oper.upon] at h ⊢ <;> first
   | exact h
   | exact Calls.mono h (fun e w'' he=>by cases e <;> first | exact he | exact h1 _ _ _ he | exact h2 he)
 | halt x w'=>cases x <;> simp only [Oper.upon] at h ⊢ <;> first | exact h | exact h1 _ _ _ h
def StepAt (P : Program) (N : Nat) (l : List Oper) (L : List (Value→World→Prop)) (σ : Fr) (w : World) (i : Nat) (o : Oper) : Prop:=
  ∀ σ' w',Ext w w'→(∀ t,isD l t = false→σ' t = σ t)→(∀ j,dep o j = true→L.getD j (fun _ _=>True) (σ' (vn l j)) w')→(∀ j,yg l j i = true→σ' (vn l j) = σ (vn l j))→
    WL P N l.toArray (fun e σ'' w''=>match e with | .normal=>∃ v,σ'' = upd σ' (vn l i) v∧Ext w' w''∧L.getD i (fun _ _=>True) v w'' | _=>False) [o] σ' w'
def inR (i : Int) (n : Nat) : Bool:=decide (0≤i) && decide (i < n)
theorem jt {i : Int} {n : Nat} (h : inR i n = true) : 0≤i:=by simp [inR] at h; exact h.1
theorem js {i : Int} {n : Nat} (h : inR i n = true) : i < n:=by simp [inR] at h; exact h.2
theorem Ym {i : Int} {n : Nat} (h0 : 0≤i) (h1 : i < n) : inR i n = true:=by simp [inR,h0,h1]
def inS (l h : Int) (n : Int) : Bool:=decide (0≤l) && decide (l≤h) && decide (h≤n)
theorem JJ {l h n : Int} (k : inS l h n = true) : 0≤l:=by simp [inS] at k; exact k.1.1
theorem Jz {l h n : Int} (k : inS l h n = true) : l≤h:=by simp [inS] at k; exact k.1.2
theorem Jy {l h n : Int} (k : inS l h n = true) : h≤n:=by simp [inS] at k; exact k.2
theorem Vc {l h n : Int} (h1 : 0≤l) (h2 : l≤h) (h3 : h≤n) : inS l h n = true:=by simp [inS,h1,h2,h3]
def gt {α : Type} [Inhabited α] (xs : List α) (i : Int) : α:=xs.getD i.toNat default
def sub {α : Type} (xs : List α) (l h : Int) : List α:=(xs.take h.toNat).drop l.toNat
theorem VP {α : Type} [Inhabited α] {xs : List α} {i : Int} (h : inR i xs.length = true) : ∃ hj : i.toNat < xs.length,xs[i.toNat] = gt xs i:=by
 have h0:=jt h
 have h1:=js h
 have hj : i.toNat < xs.length:=by omega
 exact ⟨hj,by simp [gt,List.getD_eq_getElem?_getD,List.getElem?_eq_getElem hj]⟩
def At (w : World) (p : Addr) (cs : List Value) : Prop:=∀ (j : Nat) (u : Value),cs[j]? = some u→w.cell? (p.add j) = some u
theorem At.ext {w w' : World} {p : Addr} {cs : List Value} (h : At w p cs) (k : Ext w w') : At w' p cs:=fun j u hu=>by
 have h1:=h j u hu
 rw [k.cell (World.block_lt_of_cell? w _ h1)]; exact h1
theorem At.zero {w : World} {p : Addr} {cs : List Value} (h : At w p cs) {u : Value} (hu : cs[0]? = some u) : w.cell? p = some u:=by
 have:=h 0 u hu
 simpa [Addr.add] using this
theorem Rd.at {α : Type} [Inhabited α] {sz : Nat} {enc : α→List Value} {w : World} {v : Value} {xs : List α} {i : Int} (hR : Rd sz enc w v xs) (hi : inR i xs.length = true) :
  ∃ ad c,v = .slice (some ad) xs.length c∧At w (ad.add (i.toNat * sz)) (enc (gt xs i)):=by
 obtain ⟨hj,he⟩:=VP hi
 obtain ⟨A,c,hv,_,hl,hc⟩:=hR
 obtain ⟨ad,rfl,hcell⟩:=hc (by omega)
 refine ⟨ad,c,hv,fun f u hu=>?_⟩
 have:=hcell i.toNat hj f u (by rw [he]; exact hu)
 have ha : (ad.add (i.toNat * sz)).add f = ad.add (i.toNat * sz + f):=by
  unfold Addr.add
  by_cases h1 : i.toNat * sz = 0 <;> by_cases h2 : f = 0 <;> simp_all [Nat.add_assoc]
 rw [ha]; exact this
section
variable {P : Program} {N : Nat} {Q : yb} {σ : Fr} {w : World} {ops : Array Oper} {rest : List Oper} {o : Oper}
theorem vc {α : Type} {sz : Nat} {enc : α→List Value} {x : Operand} {v : Value} {xs : List α} {t e : TypeId} (hu : P.underlying t = some (.slice e)) (hx : ev σ x = v) (hR : Rd sz enc w v xs) : Ex P σ w (.call { callee:=.builtin .len,args:=#[x],argTypes:=#[t] }) (.int .i64 xs.length) w:=by
 obtain ⟨A,c,rfl⟩:=hR.shape
 exact XD hu hx
theorem vo {α : Type} [Inhabited α] {sz : Nat} {enc : α→List Value} {d : Nat} {t e : TypeId} {x y : Operand} {v : Value} {xs : List α} {k : IntKind} {i : Int} {w0 : World} (ht : Tk N ops σ o) (hd : o.dst = some d) (hN : d < N) (ho : o.op = .indexAddr t x y)
  (hu : P.underlying t = some (.slice e)) (hs : ∀ w,(sizeOf e).run P w = .ok sz w) (hx : ev σ x = v) (hR : Rd sz enc w0 v xs) (hy : ev σ y = .int k i) (hi : inR i xs.length = true)
  (h : ∀ p,At w0 p (enc (gt xs i))→WL P N ops Q rest (upd σ d (.pointer (some p))) w) : WL P N ops Q (o :: rest) σ w:=by
 obtain ⟨ad,c,hv,hA⟩:=hR.at hi
 exact vm ht hd hN (by rw [ho]; exact Qt hu hs (hx.trans hv) hy (jt hi) (js hi)) (h _ hA)
theorem yj {t : TypeId} {x : Operand} {p : Addr} {cs : List Value} {v : Value} (ha : ∀ w,(isAgg t).run P w = .ok false w) (hx : ev σ x = .pointer (some p)) (hA : At w p cs) (hv : cs[0]? = some v) : Ex P σ w (.load t x) v w:=
 Vn ha hx (hA.zero hv)
theorem vX {t : TypeId} {x : Operand} {p : Addr} {j : Nat} {cs : List Value} {v : Value} (ha : ∀ w,(isAgg t).run P w = .ok false w) (hA : At w p cs) (hx : ev σ x = .pointer (some (p.add j))) (hv : cs[j]? = some v) : Ex P σ w (.load t x) v w:=
 Vn ha hx (hA j v hv)
theorem vK {t : TypeId} {x : Operand} {p : Addr} {n : Nat} {cs : List Value} (ha : ∀ w,(isAgg t).run P w = .ok true w) (hs : ∀ w,(sizeOf t).run P w = .ok n w) (hn : cs.length = n) (hx : ev σ x = .pointer (some p)) (hA : At w p cs) : Ex P σ w (.load t x) (.agg cs.toArray) w:=
 X_loadA ha hs hx hn hA
theorem qy {t : TypeId} {x : Operand} {b j : Nat} {cs : Array Value} {T : TypeId} {v : Value} (ha : ∀ w,(isAgg t).run P w = .ok false w) (hB : Blk w b cs T) (hx : ev σ x = .pointer (some ⟨b,j,none⟩)) (hv : cs[j]? = some v) : Ex P σ w (.load t x) v w:=
 Vn ha hx (by rw [hB.cell]; exact hv)
theorem Blk.at0 {b : Nat} {cs : Array Value} {T : TypeId} (hB : Blk w b cs T) : At w ⟨b,0,none⟩ cs.toList:=fun j u hu=>by
 rw [Q7,hB.cell]; simpa using hu
theorem Gb {g d : Nat} {b : Bool} {j : Nat} (hg : o.guard = some (j,b)) (hj : (ops[j]?).bind (·.dst) = some g) (hgN : g < N) (hv : σ g = undef)
  (hd : o.dst = some d) (hN : d < N) (h : WL P N ops Q rest (upd σ d undef) w) : WL P N ops Q (o :: rest) σ w:=fun a ha=>
 wpList_step fun K hK=>by
  have hw : Region.wanted o (yielded ops a.tmps) = false:=by
   have : a.tmps[g]? = some undef:=by
    have h2:=ha.get g
    rw [hv,Array.getD_eq_getD_getElem?,Array.getElem?_eq_getElem (by rw [ha.size]; exact hgN)] at h2
    rw [Array.getElem?_eq_getElem (by rw [ha.size]; exact hgN)]
    simpa using h2
   simp [Region.wanted,hg,yielded,hj,this,undef]
  rw [if_neg (by simp [hw]),hd]
  exact hK _ _ (h _ (ha.put d hN undef))
abbrev RP (w : World) (u : Value) : Value→World→Prop:=fun v w'=>Ext w w'∧v = u
abbrev RO {α : Type} (e : TypeId) (sz : Nat) (enc : α→List Value) (w : World) (xs : List α) : Value→World→Prop:=fun v w'=>Ext w w'∧Ow e sz enc w.heap.size w' v xs
abbrev RT {α : Type} (e : TypeId) (sz : Nat) (enc : α→List Value) (w : World) (xs : List α) (u : Value) : Value→World→Prop:=fun v w'=>Ext w w'∧∃ v1,v = .tuple #[v1,u]∧Ow e sz enc w.heap.size w' v1 xs
theorem jX {d f : Nat} {xs : Array Operand} {ts : Array TypeId} {vs : Array Value} {A : Value→World→Prop} (ht : Tk N ops σ o) (hd : o.dst = some d) (hN : d < N)
  (ho : o.op = .call { callee:=.value (.func f),args:=xs,argTypes:=ts }) (hf : ∀ args w,(callFunc f args).run P w = .ok (.enter f args) w)
  (hC : Calls P f vs w (Rt A)) (hvs : xs.toList.map (ev σ) = vs.toList) (h : ∀ v w1,A v w1→WL P N ops Q rest (upd σ d v) w1) : WL P N ops Q (o :: rest) σ w:=
 Xy ht hd hN ho (by rw [← Array.toList_inj]; simpa using hvs) hf hC h
theorem vY {d f : Nat} {xs : Array Operand} {ts : Array TypeId} {vs : Array Value} {u : Value} (ht : Tk N ops σ o) (hd : o.dst = some d) (hN : d < N)
  (ho : o.op = .call { callee:=.value (.func f),args:=xs,argTypes:=ts }) (hf : ∀ args w,(callFunc f args).run P w = .ok (.enter f args) w)
  (hC : Calls P f vs w (Rt (RP w u))) (hvs : xs.toList.map (ev σ) = vs.toList) (h : ∀ w1,Ext w w1→WL P N ops Q rest (upd σ d u) w1) : WL P N ops Q (o :: rest) σ w:=
 jX ht hd hN ho hf hC hvs fun v w1 hA=>by obtain ⟨h1,rfl⟩:=hA; exact h w1 h1
theorem vJ {α : Type} {enc : α→List Value} {e : TypeId} {sz : Nat} {l : List α} {d f : Nat} {xs : Array Operand} {ts : Array TypeId} {vs : Array Value} (ht : Tk N ops σ o) (hd : o.dst = some d) (hN : d < N)
  (ho : o.op = .call { callee:=.value (.func f),args:=xs,argTypes:=ts }) (hf : ∀ args w,(callFunc f args).run P w = .ok (.enter f args) w)
  (hC : Calls P f vs w (Rt (RO e sz enc w l))) (hvs : xs.toList.map (ev σ) = vs.toList) (h : ∀ v w1,Ext w w1→Ow e sz enc w.heap.size w1 v l→WL P N ops Q rest (upd σ d v) w1) : WL P N ops Q (o :: rest) σ w:=
 jX ht hd hN ho hf hC hvs fun v w1 hA=>h v w1 hA.1 hA.2
theorem YP {α : Type} {enc : α→List Value} {e : TypeId} {sz : Nat} {l : List α} {u : Value} {d f : Nat} {xs : Array Operand} {ts : Array TypeId} {vs : Array Value} (ht : Tk N ops σ o) (hd : o.dst = some d) (hN : d < N)
  (ho : o.op = .call { callee:=.value (.func f),args:=xs,argTypes:=ts }) (hf : ∀ args w,(callFunc f args).run P w = .ok (.enter f args) w)
  (hC : Calls P f vs w (Rt (RT e sz enc w l u))) (hvs : xs.toList.map (ev σ) = vs.toList) (h : ∀ v w1,Ext w w1→Ow e sz enc w.heap.size w1 v l→WL P N ops Q rest (upd σ d (.tuple #[v,u])) w1) : WL P N ops Q (o :: rest) σ w:=
 jX ht hd hN ho hf hC hvs fun v w1 hA=>by obtain ⟨h1,v1,rfl,h2⟩:=hA; exact h v1 w1 h1 h2
theorem VS {d f : Nat} {x : Operand} {xs : Array Operand} {ts : Array TypeId} {vs fs cs : Array Value} {A : Value→World→Prop} (ht : Tk N ops σ o) (hd : o.dst = some d) (hN : d < N)
  (ho : o.op = .call { callee:=.value x,args:=xs,argTypes:=ts }) (hx : ev σ x = .func (.func f) fs cs) (hf : ∀ args w,(callFunc f args).run P w = .ok (.enter f args) w)
  (hC : Calls P f (fs ++ vs ++ cs) w (Rt A)) (hvs : xs.toList.map (ev σ) = vs.toList) (h : ∀ v w1,A v w1→WL P N ops Q rest (upd σ d v) w1) : WL P N ops Q (o :: rest) σ w:=
 L_callv ht hd hN ho hx (by rw [← Array.toList_inj]; simpa using hvs) hf hC h
def nin : List (Nat × Nat)→Nat→Bool
 | [],_=>true
 | r :: l,t=>!(Nat.ble r.1 t && Nat.blt t r.2) && nin l t
def Xs (l1 l2 : List (Nat × Nat)) : Bool:=l1.all fun r=>l2.any fun q=>Nat.ble q.1 r.1 && Nat.ble r.2 q.2
def Kp (l : List (Nat × Nat)) (σ σ' : Fr) : Prop:=∀ t,nin l t = true→σ' t = σ t
theorem Kp.refl (l : List (Nat × Nat)) (σ : Fr) : Kp l σ σ:=fun _ _=>rfl
theorem Kp.upd {l : List (Nat × Nat)} {σ σ' : Fr} {d : Nat} {v : Value} (h : Kp l σ σ') (hd : nin l d = false) : Kp l σ (upd σ' d v):=fun t ht=>by
 have : t ≠ d:=fun e=>by rw [e,hd] at ht; cases ht
 rw [Ve _ _ _ _ this]; exact h t ht
theorem JY {l2 : List (Nat × Nat)} {t : Nat} : ∀ l1,Xs l1 l2 = true→nin l2 t = true→nin l1 t = true:=by
 intro l1
 induction l1 with
 | nil=>intro _ _; rfl
 | cons r l1 ih=>
  intro hs ht
  simp only [Xs,List.all_cons,Bool.and_eq_true,List.any_eq_true] at hs
  obtain ⟨⟨q,hq,hq1,hq2⟩,hs2⟩:=hs
  simp only [nin,ih hs2 ht,Bool.and_true]
  have key : ∀ l,q ∈ l→nin l t = true→¬ (q.1≤t∧t < q.2):=by
   intro l
   induction l with
   | nil=>intro h; simp at h
   | cons x l ihl=>
    intro h hn
    simp only [nin,Bool.and_eq_true,Bool.not_eq_true',Bool.and_eq_false_iff] at hn
    rcases List.mem_cons.1 h with rfl | h
    ·rintro ⟨h1,h2⟩
     rcases hn.1 with h3 | h3
     ·rw [Nat.ble_eq_true_of_le h1] at h3; cases h3
     ·have : Nat.blt t q.2 = true:=by rw [Nat.blt_eq]; exact h2
      rw [this] at h3; cases h3
    ·exact ihl h hn.2
  have h3:=key l2 hq ht
  have h4:=Nat.le_of_ble_eq_true hq1
  have h5:=Nat.le_of_ble_eq_true hq2
  cases hb : (Nat.ble r.1 t && Nat.blt t r.2) with
  | false=>rfl
  | true=>
   simp only [Bool.and_eq_true] at hb
   have h6:=Nat.le_of_ble_eq_true hb.1
   have h7 : t < r.2:=by have:=hb.2; rwa [Nat.blt_eq] at this
   omega
theorem Kp.cut {l l1 : List (Nat × Nat)} {σ σ1 σ2 : Fr} (h : Kp l σ σ1) (h1 : Kp l1 σ1 σ2) (hs : Xs l1 l = true) : Kp l σ σ2:=fun t ht=>by
 rw [h1 t (JY l1 hs ht),h t ht]
theorem qH (b : Bool) : b = true∨b = false:=by cases b <;> simp
theorem Vg {b e : Bool} (h : b = true) : Value.bool e = Value.bool (b && e):=by rw [h]; rfl
theorem Vb {b e : Bool} (h : b = false) : Value.bool false = Value.bool (b && e):=by rw [h]; rfl
theorem Ye {b e : Bool} (h : b = true) : Value.bool true = Value.bool (b || e):=by rw [h]; rfl
theorem VX {b e : Bool} (h : b = false) : Value.bool e = Value.bool (b || e):=by rw [h]; rfl
theorem qa {α : Type} {b : Bool} {x : Option α} {r : α} (h : (bif b then x else none) = some r) : b = true∧x = some r:=by cases b <;> simp_all
theorem qg {α : Type} {b : Bool} {x y : Option α} {r : α} (h : (bif b then x else y) = some r) : (b = true∧x = some r)∨(b = false∧y = some r):=by cases b <;> simp_all
theorem bind_some {α β : Type} {x : Option α} {f : α→Option β} {r : β} (h : (x.bind f) = some r) : ∃ z,x = some z∧f z = some r:=Option.bind_eq_some_iff.1 h
theorem WL_app {l1 l2 : List Oper} {R : Fr→World→Prop} (h1 : WL P N ops (thn R (fun _ _ _=>False)) l1 σ w) (h2 : ∀ σ' w',R σ' w'→WL P N ops Q l2 σ' w') : WL P N ops Q (l1 ++ l2) σ w:=by
 have aux : ∀ (l : List Oper) (a : Act) (w : World),wpList P ops (Qn N (thn R fun _ _ _=>False)) l a w→wpList P ops (Qn N Q) (l ++ l2) a w:=by
  intro l
  induction l with
  | nil=>
   intro a w h1
   obtain ⟨σ',hr,hR⟩:=h1
   exact h2 σ' w hR a hr
  | cons x r ih=>
   intro a w h1
   unfold wpList at h1
   simp only [List.cons_append]
   unfold wpList
   split
   ·rename_i hw
    rw [if_pos hw] at h1
    rcases h1 with h1 | ⟨_,hlo⟩
    ·left
     have h5 : x.wp P a w (wpList P ops (Qn N Q) (r ++ l2)) (Qn N (thn R fun _ _ _=>False)):=Oper.wp_mono (fun a'' w'' h=>ih a'' w'' h) h1
     unfold Oper.wp at h5 ⊢
     refine Q8 (fun ch a w h=>?_) (fun h=>?_) h5
     ·obtain ⟨_,_,h⟩:=h; exact h.elim
     ·obtain ⟨_,_,_,_,h⟩:=h; exact h.elim
    ·obtain ⟨_,_,_,_,h⟩:=hlo; exact h.elim
   ·rename_i hw
    rw [if_neg hw] at h1
    exact ih _ _ h1
 exact fun a ha=>aux l1 a w (h1 a ha)
theorem jb (n : Nat) (kp : List (Nat × Nat)) (d : Nat) (V : Value) {l : List Oper} (h1 : WL P N ops (thn (fun σ' w'=>Kp kp σ σ'∧σ' d = V∧Ext w w') (fun _ _ _=>False)) (l.take n) σ w)
  (h2 : ∀ σ' w',Kp kp σ σ'→σ' d = V→Ext w w'→WL P N ops Q (l.drop n) σ' w') : WL P N ops Q l σ w:=by
 have:=WL_app (l2:=l.drop n) h1 (fun σ' w' h=>h2 σ' w' h.1 h.2.1 h.2.2)
 rwa [List.take_append_drop] at this
theorem jz (n : Nat) (kp : List (Nat × Nat)) (d : Nat) (D : Bool→Prop) {l : List Oper} (h1 : WL P N ops (thn (fun σ' w'=>Kp kp σ σ'∧(∃ z,D z∧σ' d = .bool z)∧Ext w w') (fun _ _ _=>False)) (l.take n) σ w)
  (h2 : ∀ σ' w' z,Kp kp σ σ'→D z→σ' d = .bool z→Ext w w'→WL P N ops Q (l.drop n) σ' w') : WL P N ops Q l σ w:=by
 have:=WL_app (l2:=l.drop n) h1 (fun σ' w' h=>by obtain ⟨hk,⟨z,hD,hz⟩,hE⟩:=h; exact h2 σ' w' z hk hD hz hE)
 rwa [List.take_append_drop] at this
theorem vv (I : Fr→Fr→World→Prop) {x : Code} (h1 : W P N x (thn (I σ) Q) σ w) (h2 : ∀ σ' w',I σ σ' w'→Q .normal σ' w') : W P N x Q σ w:=
 fun a ha=>Code.wp_mono (fun e a' w' hq=>by
  obtain ⟨σ',hr,hq⟩:=hq
  cases e with
  | normal=>exact ⟨σ',hr,h2 σ' w' hq⟩
  | _=>exact ⟨σ',hr,hq⟩) (h1 a ha)
theorem vh {c : Code} (I : Fr→Nat→Fr→World→Prop) (k : Nat) (h0 : I σ k σ w)
  (round : ∀ k σ' w',I σ k σ' w'→W P N c (thn (fun σ'' w''=>∃ k',k' < k∧I σ k' σ'' w'') Q) σ' w') : W P N (.loop c) Q σ w:=Xt (I σ) k h0 round
end
inductive Step (T V E : Type) : Type
 | nxt (v : V)
 | brk (e : E)
 | ret (t : T)
def ql {T V E : Type} (b : V→Option (Step T V E)) : Nat→V→Option (T ⊕ E)
 | 0,_=>none
 | k + 1,v=>(b v).bind fun s=>match s with
  | .nxt v'=>ql b k v'
  | .brk e=>some (.inr e)
  | .ret t=>some (.inl t)
theorem qL {T V E : Type} {b : V → Option (Step T V E)} {k : Nat} {v : V} {z : T ⊕ E} (h : ql b (k + 1) v = some z) :
    ∃ s,b v = some s∧(match s with | .nxt v'=>ql b k v' | .brk e=>some (.inr e) | .ret t=>some (.inl t)) = some z:=by
  simp only [ql] at h
  obtain ⟨s,h1,h2⟩:=Option.bind_eq_some_iff.1 h
  exact ⟨s,h1,h2⟩
theorem JC {T V E : Type} {b : V → Option (Step T V E)} (Inv : V → Prop) (μ : V → Nat) (yb : T ⊕ E → Prop)
    (hs : ∀ v,Inv v→∃ s,b v = some s∧match s with | .nxt v'=>Inv v'∧μ v' < μ v | .brk e=>yb (.inr e) | .ret t=>yb (.inl t)) :
    ∀ k v,Inv v→μ v < k→∃ z,ql b k v = some z∧yb z:=by
  intro k
  induction k with
  | zero=>intro v _ h; omega
  | succ k ih=>
    intro v hI hk
    obtain ⟨s,hb,hm⟩:=hs v hI
    cases s with
    | nxt v'=>
      obtain ⟨z,hz,hp⟩:=ih v' hm.1 (by omega)
      exact ⟨z,by simp only [ql,hb,Option.bind_some]; exact hz,hp⟩
    | brk e=>exact ⟨_,by simp only [ql,hb,Option.bind_some],hm⟩
    | ret t=>exact ⟨_,by simp only [ql,hb,Option.bind_some],hm⟩
structure Rec where
 kind : Int
 path : List UInt8
 body : List UInt8
 mode : Int
 opq : Bool
 deriving DecidableEq,Inhabited
structure Nd where
 kind : Int
 path : List UInt8
 body : List UInt8
 mode : Int
 deriving DecidableEq,Inhabited
structure Pick where
 path : List UInt8
 layer : Int
 deriving DecidableEq,Inhabited
def okRec (x : Rec) : Prop:=x.path.length≤9223372036854775807∧x.body.length≤9223372036854775807
def YG (x : Nd) : Prop:=x.path.length≤9223372036854775807∧x.body.length≤9223372036854775807
instance (x : Rec) : Decidable (okRec x):=inferInstanceAs (Decidable (_∧_))
instance (x : Nd) : Decidable (YG x):=inferInstanceAs (Decidable (_∧_))
abbrev vI (l : List UInt8) : List Value:=[S l]
abbrev encI (k : IntKind) (n : Int) : List Value:=[.int k n]
abbrev encB (b : Bool) : List Value:=[.bool b]
abbrev QV (v : Value) : List Value:=[v]
abbrev qv (r : Rec) : List Value:=[.int .i64 r.kind,S r.path,S r.body,.int .i64 r.mode,.bool r.opq]
abbrev qJ (r : Nd) : List Value:=[.int .i64 r.kind,S r.path,S r.body,.int .i64 r.mode]
abbrev encPick (r : Pick) : List Value:=[S r.path,.int .i64 r.layer]
def anyV (tb ti : Nat) : Bool ⊕ Int→Value
 | .inl b=>.iface tb (.bool b)
 | .inr n=>.iface ti (.int .i64 n)
abbrev VL (tb ti : Nat) (x : Bool ⊕ Int) : List Value:=[anyV tb ti x]
instance : Inhabited (Bool ⊕ Int):=⟨.inl false⟩
theorem Jh (tb ti : Nat) (x : Bool ⊕ Int) : (VL tb ti x).length = 1:=rfl
def Ju : Bool ⊕ Int→Bool
 | .inl b=>b
 | .inr _=>false
def J7 : Bool ⊕ Int→Int
 | .inl _=>0
 | .inr n=>n
def isB : Bool ⊕ Int→Bool
 | .inl _=>true
 | .inr _=>false
abbrev byt (s : List UInt8) (i : Int) : Int:=((s.getD i.toNat 0).toNat : Int)
theorem Vi (ys : List (List UInt8)) : ∀ y ∈ ys,∀ c ∈ vI y,c.oneCell' = true:=by intro y _ c hc; simp at hc; subst hc; rfl
theorem jH (ys : List Rec) : ∀ y ∈ ys,∀ c ∈ qv y,c.oneCell' = true:=by intro y _ c hc; simp at hc; rcases hc with rfl | rfl | rfl | rfl | rfl <;> rfl
section
variable {σ : Fr} {w0 w : World}
theorem qS {t : Nat} {u : Value} (h : σ t = u) (he : Ext w0 w) : Rt (RP w0 u) (.returned (QC [.tmp t] σ)) w:=⟨_,rfl,he,h⟩
theorem Q3 {α : Type} {e sz B : Nat} {enc : α→List Value} {xs : List α} {t : Nat} {v : Value} (h : σ t = v) (he : Ext w0 w) (ho : Ow e sz enc B w v xs) (hB : w0.heap.size≤B) : Rt (RO e sz enc w0 xs) (.returned (QC [.tmp t] σ)) w:=
 ⟨_,rfl,he,by show Ow e sz enc w0.heap.size w (σ t) xs; rw [h]; exact ho.base hB⟩
theorem YA {α : Type} {e sz B : Nat} {enc : α→List Value} {xs : List α} {t t' : Nat} {v u : Value} (h : σ t = v) (h' : σ t' = u) (he : Ext w0 w) (ho : Ow e sz enc B w v xs) (hB : w0.heap.size≤B) : Rt (RT e sz enc w0 xs u) (.returned (QC [.tmp t,.tmp t'] σ)) w:=
 ⟨_,rfl,he,v,by simp only [QC,h,h'],ho.base hB⟩
end
def j7 (l : List Int) : List UInt8:=l.map fun n=>UInt8.ofNat n.toNat
section
variable {P : Program} {N : Nat} {Q : yb} {σ : Fr} {w : World} {ops : Array Oper} {rest : List Oper} {o : Oper}
theorem X_convBS {t e u : TypeId} {x : Operand} {v : Value} {l : List Int} (hs : P.underlying t = some (.slice e)) (he : P.underlying e = some (.int .u8)) (hu : P.underlying u = some .string) (hx : ev σ x = v) (hR : Rd 1 (encI .u8) w v l) : Ex P σ w (.convert t u x) (S (j7 l)) w:=by
 intro o ho; unfold execOp; simp only [ho]; rw [hx]
 have key : (convert t u v).run P w = .ok (S (j7 l)) w:=by
  obtain ⟨A,c,rfl,⟨_,hn,_⟩,_,hc⟩:=hR
  cases A with
  | none=>
   have hl0 : l = []:=List.eq_nil_of_length_eq_zero (by have:=hn rfl; omega)
   subst hl0
   rw [run_convert_bytes_nil w t e hs he _ _ u hu]
   rfl
  | some ad=>
   have hl : (loadCells ad l.length).run P w = .ok (l.map (Value.int .u8)).toArray w:=by
    have:=run_loadCells_list (P:=P) w ad (l.map (Value.int .u8)) (fun j q hj=>by
     have hjl : j < l.length:=by
      have:=(List.getElem?_eq_some_iff.1 hj).1
      simpa using this
     obtain ⟨ad',hA,hcell⟩:=hc (by omega)
     injection hA with hA
     subst hA
     have:=hcell j hjl 0 q (by simpa [List.getElem?_eq_getElem hjl] using hj)
     simpa using this)
    simpa using this
   rw [run_convert_bytes_string w t u e _ _ _ hs he hu,run_bytesToString w _ _ _ l hl,foldl_push_bytes]
   simp only [S,j7,ByteArray.empty,ByteArray.emptyWithCapacity]
   congr 2
   simp; rfl
 simp [key]
end
def jr (P : Program) (w : World) (v : Value) (args : List Value) (u : Value) : Prop:=
 ∃ f fs cs,v = .func (.func f) fs cs∧(∀ args w,(callFunc f args).run P w = .ok (.enter f args) w)∧∀ w',Ext w w'→Calls P f (fs ++ args.toArray ++ cs) w' (Rt (RP w' u))
theorem jr.ext {P : Program} {w w' : World} {v u : Value} {args : List Value} (h : jr P w v args u) (k : Ext w w') : jr P w' v args u:=by
 obtain ⟨f,fs,cs,hv,hf,hc⟩:=h
 exact ⟨f,fs,cs,hv,hf,fun w1 k1=>hc w1 (k.trans k1)⟩
theorem jr.mk {P : Program} {w : World} {u : Value} {args : List Value} {f : Nat} {fs cs : Array Value} (hf : ∀ args w,(callFunc f args).run P w = .ok (.enter f args) w) {vs : Array Value} (hvs : fs.toList ++ args ++ cs.toList = vs.toList) (h : ∀ w',Ext w w'→Calls P f vs w' (Rt (RP w' u))) :
  jr P w (.func (.func f) fs cs) args u:=⟨f,fs,cs,rfl,hf,by
 have e : fs ++ args.toArray ++ cs = vs:=by rw [← Array.toList_inj]; simpa using hvs
 rw [e]; exact h⟩
def GV (g : Nat) (w : World) : Prop:=∃ m,w.cell? ⟨g,0,none⟩ = some (.int .i64 m)
theorem GV.ext {g : Nat} {w w' : World} (h : GV g w) (k : Ext w w') : GV g w':=by
 obtain ⟨m,h⟩:=h
 exact ⟨m,by rw [k.cell (World.block_lt_of_cell? w _ h)]; exact h⟩
def jv (L : Value→World→Prop) : Prop:=∀ v w w',Ext w w'→L v w→L v w'
def j8 : List (Value→World→Prop)→Prop
 | []=>True
 | l :: r=>jv l∧j8 r
theorem j8.get {l : List (Value→World→Prop)} (h : j8 l) : ∀ i v w w',Ext w w'→l.getD i (fun _ _=>True) v w→l.getD i (fun _ _=>True) v w':=by
 induction l with
 | nil=>intro i v w w' _ _; simp
 | cons a r ih=>
  intro i v w w' k hh
  cases i with
  | zero=>exact h.1 v w w' k hh
  | succ i=>exact ih h.2 i v w w' k hh
abbrev LEq (u : Value) : Value→World→Prop:=fun v _=>v = u
abbrev LAt (off : Nat) (cs : List Value) : Value→World→Prop:=fun v w=>∃ p : Addr,v = .pointer (some (p.add off))∧At w p cs
abbrev yW (cs : List Value) : Value→World→Prop:=fun v w=>∃ p : Addr,v = .pointer (some p)∧At w p cs
abbrev LRd {α : Type} (sz : Nat) (enc : α→List Value) (xs : List α) : Value→World→Prop:=fun v w=>Rd sz enc w v xs
abbrev LIf (c : Bool) (L : Value→World→Prop) : Value→World→Prop:=fun v w=>(c = true→L v w)∧(c = false→v = undef)
theorem LEq.mono {u : Value} : jv (LEq u):=fun _ _ _ _ h=>h
theorem LAt.mono {off : Nat} {cs : List Value} : jv (LAt off cs):=fun _ _ _ k ⟨p,h,hA⟩=>⟨p,h,hA.ext k⟩
theorem yW.mono {cs : List Value} : jv (yW cs):=fun _ _ _ k ⟨p,h,hA⟩=>⟨p,h,hA.ext k⟩
theorem LRd.mono {α : Type} {sz : Nat} {enc : α→List Value} {xs : List α} : jv (LRd sz enc xs):=fun _ _ _ k h=>Rd.ext h k
theorem LIf.mono {c : Bool} {L : Value→World→Prop} (h : jv L) : jv (LIf c L):=fun v w w' k hh=>⟨fun e=>h v w w' k (hh.1 e),hh.2⟩
theorem Blk.cs {w : World} {b : Nat} {cs cs' : Array Value} {T : TypeId} (h : Blk w b cs T) (e : cs = cs') : Blk w b cs' T:=e ▸ h
theorem isD_nin {kp : List (Nat × Nat)} {t : Nat} : ∀ (l : List Oper),(l.all fun o=>match o.dst with | some d=>!nin kp d | none=>true) = true→nin kp t = true→isD l t = false:=by
  intro l
  induction l with
  | nil=>intro _ _; rfl
  | cons o r ih=>
    intro h ht
    simp only [List.all_cons,Bool.and_eq_true] at h
    simp only [isD,ih h.2 ht,Bool.or_false]
    cases hd : o.dst with
    | none=>rfl
    | some d=>
      have h1:=h.1
      rw [hd] at h1
      simp only [Bool.not_eq_true'] at h1
      cases hb : Nat.beq d t with
      | false=>exact hb
      | true=>have:=Nat.eq_of_beq_eq_true hb; subst this; rw [ht] at h1; cases h1
theorem Kp.ofD {kp : List (Nat × Nat)} {l : List Oper} {σ σ' : Fr} (h : (l.all fun o=>match o.dst with | some d=>!nin kp d | none=>true) = true) (hf : ∀ t,isD l t = false→σ' t = σ t) : Kp kp σ σ':=fun t ht=>hf t (isD_nin l h ht)
theorem yI {g c : Bool} (hg : g = true) (h : (!g || c) = true) : c = true:=by rw [hg] at h; simpa using h
section
variable {P : Program} {N : Nat} {Q : yb} {σ : Fr} {w : World} {ops : Array Oper} {rest : List Oper} {o : Oper}
theorem YN {d : Nat} {x : Operand} {xs : Array Operand} {ts : Array TypeId} {vs : List Value} {v u : Value} (ht : Tk N ops σ o) (hd : o.dst = some d) (hN : d < N)
  (ho : o.op = .call { callee:=.value x,args:=xs,argTypes:=ts }) (hx : ev σ x = v) (hF : jr P w v vs u) (hvs : xs.toList.map (ev σ) = vs) (h : ∀ w1,Ext w w1→WL P N ops Q rest (upd σ d u) w1) : WL P N ops Q (o :: rest) σ w:=by
 obtain ⟨f,fs,cs,rfl,hf,hc⟩:=hF
 exact VS ht hd hN ho hx hf (hc w (Ext.refl w)) (by simpa using hvs) fun v w1 hA=>by obtain ⟨h1,rfl⟩:=hA; exact h w1 h1
theorem X_taB {x : Operand} {t tb ti : TypeId} {y : Bool ⊕ Int} (hu : P.underlying tb = some .bool) (hz : ∀ w,(zeroValue tb).run P w = .ok (.bool false) w) (hne : ti ≠ tb) (hx : ev σ x = anyV tb ti y) :
  Ex P σ w (.typeAssert x t tb true) (.tuple #[.bool (Ju y),.bool (isB y)]) w:=by
 cases y with
 | inl b=>exact GB hu rfl hx
 | inr n=>exact Y7 hu rfl hz hne hx
theorem X_taI {x : Operand} {t tb ti : TypeId} {y : Bool ⊕ Int} (hu : P.underlying ti = some (.int .i64)) (hz : ∀ w,(zeroValue ti).run P w = .ok (.int .i64 0) w) (hne : tb ≠ ti) (hx : ev σ x = anyV tb ti y) :
  Ex P σ w (.typeAssert x t ti true) (.tuple #[.int .i64 (J7 y),.bool (!isB y)]) w:=by
 cases y with
 | inl b=>exact Y7 hu rfl hz hne hx
 | inr n=>exact GB hu rfl hx
end
def Rd2 {α : Type} (sz : Nat) (enc : α→List Value) (w : World) (v : Value) (xss : List (List α)) : Prop:=
 ∃ vs : List Value,vs.length = xss.length∧Rd 1 QV w v vs∧∀ (i : Nat) (u : Value) (xs : List α),vs[i]? = some u→xss[i]? = some xs→Rd sz enc w u xs
theorem Rd2.ext {α : Type} {sz : Nat} {enc : α→List Value} {w w' : World} {v : Value} {xs : List (List α)} (h : Rd2 sz enc w v xs) (k : Ext w w') : Rd2 sz enc w' v xs:=by
 obtain ⟨vs,hl,hR,hi⟩:=h
 exact ⟨vs,hl,hR.ext k,fun i u x h1 h2=>(hi i u x h1 h2).ext k⟩
theorem Rd2.nil {α : Type} (sz : Nat) (enc : α→List Value) (w : World) : Rd2 sz enc w (.slice none 0 0) ([] : List (List α)):=⟨[],rfl,Rd.nil _ _ _,by simp⟩
section
variable {P : Program} {N : Nat} {Q : yb} {σ : Fr} {w : World} {ops : Array Oper} {rest : List Oper} {o : Oper}
theorem Rd2.shape {α : Type} {sz : Nat} {enc : α→List Value} {v : Value} {xs : List (List α)} (h : Rd2 sz enc w v xs) : ∃ A c,v = .slice A xs.length c:=by
 obtain ⟨vs,hl,hR,_⟩:=h
 obtain ⟨A,c,hv⟩:=hR.shape
 exact ⟨A,c,by rw [hv,hl]⟩
theorem X_lenR2 {α : Type} {sz : Nat} {enc : α→List Value} {x : Operand} {v : Value} {xs : List (List α)} {t e : TypeId} (hu : P.underlying t = some (.slice e)) (hx : ev σ x = v) (hR : Rd2 sz enc w v xs) : Ex P σ w (.call { callee:=.builtin .len,args:=#[x],argTypes:=#[t] }) (.int .i64 xs.length) w:=by
 obtain ⟨A,c,rfl⟩:=hR.shape
 exact XD hu hx
end
theorem yS {a b : Bool} (h : (a && b) = true) : a = true:=by cases a <;> simp_all
theorem yP {a b : Bool} (h : (a && b) = true) : b = true:=by cases a <;> simp_all
theorem ya {α : Type} {a b : α} {l m : List α} (h : a = b) (k : l = m) : a :: l = b :: m:=by rw [h,k]
theorem qQ {a b : Bool} (h : a = true) (k : b = true) : (a && b) = true:=by rw [h,k]; rfl
theorem qE {a : Bool} (h : a = false) : (!a) = true:=by rw [h]; rfl
theorem q3 {a : Bool} (h : (!a) = true) : a = false:=by cases a <;> simp_all
theorem Wr.of_setRow (w : World) (g : Nat) (cs : Array Value) : Wr g w (w.setRow g cs):=
 ⟨rfl,rfl,rfl,by simp [World.setRow],fun k hk=>by unfold World.setRow; simp only [Array.getElem?_modify]; rw [if_neg (fun e=>hk e.symm)]⟩
structure Gr (lo hi : Nat) (w w' : World) : Prop where
 os : w'.os = w.os
 tape : w'.tape = w.tape
 output : w'.output = w.output
 size : w.heap.size≤w'.heap.size
 block : ∀ k,k < w.heap.size→¬ (lo≤k∧k < hi)→w'.heap[k]? = w.heap[k]?
theorem Gr.refl (lo hi : Nat) (w : World) : Gr lo hi w w:=⟨rfl,rfl,rfl,Nat.le_refl _,fun _ _ _=>rfl⟩
theorem Gr.ext {lo hi : Nat} {w w' : World} (h : Ext w w') : Gr lo hi w w':=⟨h.os,h.tape,h.output,h.size,fun k hk _=>h.block k hk⟩
theorem Gr.trans {lo hi : Nat} {a b c : World} (h : Gr lo hi a b) (k : Gr lo hi b c) : Gr lo hi a c:=
 ⟨k.os.trans h.os,k.tape.trans h.tape,k.output.trans h.output,Nat.le_trans h.size k.size,fun i hi hn=>(k.block i (Nat.lt_of_lt_of_le hi h.size) hn).trans (h.block i hi hn)⟩
theorem Gr.wr {lo hi b : Nat} {w w' : World} (h : Wr b w w') (h1 : lo≤b) (h2 : b < hi) : Gr lo hi w w':=
 ⟨h.os,h.tape,h.output,Nat.le_of_eq h.size.symm,fun k _ hn=>h.block k (fun e=>hn (by rw [e]; exact ⟨h1,h2⟩))⟩
theorem Gr.below {lo hi B : Nat} {w w' : World} (h : Gr lo hi w w') (hB : B≤lo) (hw : B≤w.heap.size) : Below B w w':=⟨h.os,h.tape,h.output,h.size,fun k hk=>h.block k (by omega) (by omega)⟩
def HB (v : Value) (hi : Nat) : Prop:=(∃ A,v = .slice A 0 0)∨∀ b,v.ownBlock = some b→b < hi
theorem Ow.hb {α : Type} {e : TypeId} {sz base : Nat} {enc : α→List Value} {w : World} {v : Value} {xs : List α} (h : Ow e sz enc base w v xs) : HB v w.heap.size:=by
 obtain ⟨h | ⟨h,_⟩,_⟩:=h
 ·exact .inr fun b hb=>(h.lt b hb).2
 ·exact .inl h
theorem HB.mono {v : Value} {a b : Nat} (h : HB v a) (k : a≤b) : HB v b:=h.imp id fun h c hc=>Nat.lt_of_lt_of_le (h c hc) k
theorem Ow.gr0 {α : Type} {e : TypeId} {sz base lo hi : Nat} {enc : α→List Value} {w w' : World} {v : Value} {xs : List α} (h : Ow e sz enc base w v xs) (k : Gr lo hi w w')
  (hd : (∃ A,v = .slice A 0 0)∨∀ b,v.ownBlock = some b→¬ (lo≤b∧b < hi)) : Ow e sz enc base w' v xs:=by
 obtain ⟨h1 | h1,h2⟩:=h
 ·rcases hd with ⟨A,hA⟩ | hd
  ·rcases h1.2 with ⟨hv,hn⟩ | ⟨g,cap,cur,hv,hb,hh,hnc,hcm,hsz,htk⟩
   ·exact ⟨.inr ⟨⟨A,hA⟩,List.eq_nil_of_length_eq_zero hn⟩,h2⟩
   ·rw [hv] at hA; injection hA with _ hl _
    exact ⟨.inr ⟨⟨some ⟨g,0,none⟩,by rw [hv]; rename_i h7; rw [hl,h7]⟩,List.eq_nil_of_length_eq_zero hl⟩,h2⟩
  ·rcases h1.2 with ⟨hv,hn⟩ | ⟨g,cap,cur,hv,hb,hh,r⟩
   ·exact ⟨.inl ⟨h1.1,.inl ⟨hv,hn⟩⟩,h2⟩
   ·refine ⟨.inl ⟨h1.1,.inr ⟨g,cap,cur,hv,hb,?_,r⟩⟩,h2⟩
    rw [k.block g (Array.getElem?_eq_some_iff.1 hh).1 (hd g (by rw [hv]; rfl)),hh]
 ·exact ⟨.inr h1,h2⟩
theorem Ow.later {α : Type} {e : TypeId} {sz base lo hi : Nat} {enc : α→List Value} {w w' : World} {v : Value} {xs : List α} (h : Ow e sz enc base w v xs) (k : Gr lo hi w w') (hb : hi≤base) : Ow e sz enc base w' v xs:=by
 refine h.gr0 k ?_
 obtain ⟨h1 | h1,_⟩:=h
 ·exact .inr fun b hb'=>by have:=(h1.lt b hb').1; omega
 ·exact .inl h1.1
def j4 {α : Type} (xs : List α) (i : Int) (u : α) : List α:=xs.set i.toNat u
theorem Gq {α : Type} (xs : List α) (i : Int) (u : α) : (j4 xs i u).length = xs.length:=by simp [j4]
def OP {α : Type} [Inhabited α] (e : TypeId) (sz : Nat) (enc : α→List Value) (base : Nat) (w : World) (v : Value) (xs : List α) (i : Int) (p : Addr) : Prop:=
 Ow e sz enc base w v xs∧inR i xs.length = true∧∃ g,v.ownBlock = some g∧p = ⟨g,i.toNat * sz,none⟩
theorem OP.ext {α : Type} [Inhabited α] {e : TypeId} {sz base : Nat} {enc : α→List Value} {w w' : World} {v : Value} {xs : List α} {i : Int} {p : Addr} (h : OP e sz enc base w v xs i p) (k : Ext w w') : OP e sz enc base w' v xs i p:=⟨h.1.ext k,h.2⟩
theorem Ow.row {α : Type} {e : TypeId} {sz base : Nat} {enc : α→List Value} {w : World} {v : Value} {xs : List α} (h : Ow e sz enc base w v xs) (h0 : 0 < xs.length) :
  ∃ g cap cur,v = .slice (some ⟨g,0,none⟩) xs.length cap∧base≤g∧w.heap[g]? = some (.cells cur e (0,0))∧xs.length≤cap∧cap≤maxLen∧cur.size = cap * sz∧cur.toList.take (xs.length * sz) = xs.flatMap enc:=by
 obtain ⟨h1 | h1,_⟩:=h
 ·rcases h1.2 with ⟨_,hn⟩ | h2
  ·omega
  ·exact h2
 ·rw [h1.2] at h0; simp at h0
section
variable {P : Program} {N : Nat} {Q : yb} {σ : Fr} {w : World} {ops : Array Oper} {rest : List Oper} {o : Oper}
theorem QB {α : Type} [Inhabited α] {enc : α→List Value} {e' : TypeId} {sz base : Nat} {d : Nat} {t e : TypeId} {x y : Operand} {v : Value} {xs : List α} {k : IntKind} {i : Int} (ht : Tk N ops σ o) (hd : o.dst = some d) (hN : d < N) (ho : o.op = .indexAddr t x y)
  (hu : P.underlying t = some (.slice e)) (hs : ∀ w,(sizeOf e).run P w = .ok sz w) (hx : ev σ x = v) (hR : Ow e' sz enc base w v xs) (hy : ev σ y = .int k i) (hi : inR i xs.length = true)
  (h : ∀ p,OP e' sz enc base w v xs i p→WL P N ops Q rest (upd σ d (.pointer (some p))) w) : WL P N ops Q (o :: rest) σ w:=by
 obtain ⟨g,cap,cur,hv,_⟩:=hR.row (by have:=js hi; have:=jt hi; omega)
 refine vm ht hd hN (by rw [ho]; exact Qt hu hs (hx.trans hv) hy (jt hi) (js hi)) (h _ ⟨hR,hi,g,by rw [hv]; rfl,?_⟩)
 rw [Q7]; simp
theorem JV {t : TypeId} {b off : Nat} {cs : Array Value} {T : TypeId} {v : Value} {vs : List Value} (hs : ∀ w,(sizeOf t).run P w = .ok vs.length w) (hv : v.cells.toList = vs) (h1 : ∀ c ∈ vs,c.oneCell' = true) (hb : Blk w b cs T) (hi : off + vs.length≤cs.size) :
  (storeVar t ⟨b,off,none⟩ v).run P w = .ok () (w.setRow b (cs.toList.take off ++ vs ++ cs.toList.drop (off + vs.length)).toArray):=by
 have hsz : v.cells.size = vs.length:=by rw [← hv]; simp
 have:=run_storeCells_at P b off T vs 0 cs w hb (by simpa using hi) h1
 simp [storeVar,hs,hsz,hv,this]
theorem YY {t : TypeId} {x y : Operand} {b off : Nat} {cs : Array Value} {T : TypeId} {v : Value} {vs : List Value} (ht : Tk N ops σ o) (hd : o.dst = none) (ho : o.op = .store t x y) (hs : ∀ w,(sizeOf t).run P w = .ok vs.length w)
  (hx : ev σ x = .pointer (some ⟨b,off,none⟩)) (hy : ev σ y = v) (hv : v.cells.toList = vs) (h1 : ∀ c ∈ vs,c.oneCell' = true) (hb : Blk w b cs T) (hi : off + vs.length≤cs.size)
  (h : ∀ w1,Wr b w w1→Blk w1 b (cs.toList.take off ++ vs ++ cs.toList.drop (off + vs.length)).toArray T→WL P N ops Q rest σ w1) : WL P N ops Q (o :: rest) σ w:=
 L_gen0 ht fun K a ha hK=>by
  have hr:=JV hs hv h1 hb hi
  have e : (execOp (ev σ) o).run P w = .ok .skip (w.setRow b (cs.toList.take off ++ vs ++ cs.toList.drop (off + vs.length)).toArray):=by
   unfold execOp; simp only [ho]; rw [hx,hy]
   simp [Instr.storeAt,Instr.sureAddr,hr]
  rw [e,Oper.upon_skip,hd]
  exact hK _ (h _ (Wr.of_setRow _ _ _) (setRow_heap w b cs _ T _ hb))
theorem ji {t : TypeId} {x y : Operand} {b : Nat} {cs : Array Value} {T : TypeId} {vs : List Value} {n : Nat} (ht : Tk N ops σ o) (hd : o.dst = none) (ho : o.op = .store t x y) (hs : ∀ w,(sizeOf t).run P w = .ok n w)
  (hx : ev σ x = .pointer (some ⟨b,0,none⟩)) (hy : ev σ y = .agg vs.toArray) (hn : vs.length = n) (hc : cs.size = n) (h1 : (vs.all fun c=>c.oneCell') = true) (hb : Blk w b cs T)
  (h : ∀ w1,Wr b w w1→Blk w1 b vs.toArray T→WL P N ops Q rest σ w1) : WL P N ops Q (o :: rest) σ w:=by
 subst hn
 refine YY (vs:=vs) ht hd ho hs hx hy (by simp [Value.cells]) (fun c hc=>List.all_eq_true.1 h1 c hc) hb (by omega) fun w1 h2 h3=>h w1 h2 ?_
 have : cs.toList.drop (0 + vs.length) = []:=by simp; omega
 rw [this] at h3
 simpa using h3
theorem flat_set {α : Type} [Inhabited α] (enc : α→List Value) (sz : Nat) (u : α) : ∀ (xs : List α),(∀ x ∈ xs,(enc x).length = sz)→∀ (j : Nat) (hj : j < xs.length) (off : Nat) (vs : List Value),off + vs.length≤sz→enc u = (enc xs[j]).take off ++ vs ++ (enc xs[j]).drop (off + vs.length)→
  ∀ R : List Value,(xs.flatMap enc ++ R).take (j * sz + off) ++ vs ++ (xs.flatMap enc ++ R).drop (j * sz + off + vs.length) = (xs.set j u).flatMap enc ++ R:=by
 intro xs
 induction xs with
 | nil=>intro _ j hj; simp at hj
 | cons x xs ih=>
  intro hl j hj off vs hfit hu R
  have hx : (enc x).length = sz:=hl x (by simp)
  cases j with
  | zero=>
   simp only [List.getElem_cons_zero] at hu
   simp only [Nat.zero_mul,Nat.zero_add,List.set_cons_zero,List.flatMap_cons,List.append_assoc]
   rw [List.take_append_of_le_length (by omega),List.drop_append_of_le_length (by omega),hu]
   simp
  | succ j=>
   have:=ih (fun y hy=>hl y (by simp [hy])) j (by simpa using hj) off vs hfit (by simpa using hu) R
   simp only [List.set_cons_succ,List.flatMap_cons,List.append_assoc]
   have e1 : (j + 1) * sz + off = (enc x).length + (j * sz + off):=by rw [hx,Nat.succ_mul]; omega
   have e2 : (j + 1) * sz + off + vs.length = (enc x).length + (j * sz + off + vs.length):=by rw [hx,Nat.succ_mul]; omega
   rw [e1,show (enc x).length + (j * sz + off) + vs.length = (enc x).length + (j * sz + off + vs.length) by omega,List.take_length_add_append,List.drop_length_add_append]
   simp only [List.append_assoc] at this ⊢
   rw [this]
theorem V3 {α : Type} [Inhabited α] {enc : α→List Value} {e : TypeId} {sz base off : Nat} {t : TypeId} {x y : Operand} {v u : Value} {xs : List α} {i : Int} {p : Addr} {vs : List Value} {a : α} (ht : Tk N ops σ o) (hd : o.dst = none) (ho : o.op = .store t x y)
  (hs : ∀ w,(sizeOf t).run P w = .ok vs.length w) (hx : ev σ x = .pointer (some (p.add off))) (hP : OP e sz enc base w v xs i p) (hy : ev σ y = u) (hv : u.cells.toList = vs) (h1 : (vs.all fun c=>c.oneCell') = true) (hfit : Nat.ble (off + vs.length) sz = true)
  (hu : enc a = (enc (gt xs i)).take off ++ vs ++ (enc (gt xs i)).drop (off + vs.length)) (hl : (enc a).length = sz)
  (h : ∀ b w1,v.ownBlock = some b→base≤b→Wr b w w1→Ow e sz enc base w1 v (j4 xs i a)→WL P N ops Q rest σ w1) : WL P N ops Q (o :: rest) σ w:=by
 obtain ⟨hO,hi,g,hg,rfl⟩:=hP
 obtain ⟨g',cap,cur,hv',hb,hh,hnc,hcm,hsz,htk⟩:=hO.row (by have:=js hi; have:=jt hi; omega)
 have hgg : g' = g:=by rw [hv'] at hg; injection hg
 subst hgg
 have hlen:=hO.2.1
 obtain ⟨hj,hje⟩:=VP hi
 have hfit':=Nat.le_of_ble_eq_true hfit
 have hle : i.toNat * sz + off + vs.length≤cur.size:=by
  have h2 : (i.toNat + 1) * sz≤cap * sz:=Nat.mul_le_mul_right _ (by omega)
  rw [Nat.succ_mul] at h2
  rw [hsz]; omega
 rw [Q7] at hx
 refine YY (vs:=vs) ht hd ho hs hx hy hv (fun c hc=>List.all_eq_true.1 h1 c hc) hh hle fun w1 h2 h3=>h g' w1 hg hb h2 ?_
 have hcur : cur.toList = xs.flatMap enc ++ cur.toList.drop (xs.length * sz):=by rw [← htk,List.take_append_drop]
 have hset:=flat_set enc sz a xs hlen i.toNat hj off vs hfit' (by rw [hje]; exact hu) (cur.toList.drop (xs.length * sz))
 rw [← hcur] at hset
 have hl2 : ∀ y ∈ j4 xs i a,(enc y).length = sz:=fun y hy=>by
  rcases List.mem_or_eq_of_mem_set hy with h | h
  ·exact hlen y h
  ·rw [h,hl]
 have hfl:=ja enc sz (j4 xs i a) hl2
 have hsl:=Gq xs i a
 refine ⟨.inl ⟨by rw [hfl],.inr ⟨g',cap,_,by rw [hsl]; exact hv',hb,h3,by rw [hsl]; exact hnc,hcm,?_,?_⟩⟩,hl2,by rw [hsl]; exact hO.2.2⟩
 ·have:=congrArg List.length hcur
  simp only [List.size_toArray,hset]
  have h5 : cur.toList.length = cap * sz:=by simpa using hsz
  have h6:=ja enc sz xs hlen
  have h7 : (List.flatMap enc (xs.set i.toNat a)).length = xs.length * sz:=by have:=hfl; unfold j4 at this; rw [this]; simp
  simp only [List.length_append,h7,List.length_drop,h5]
  have : xs.length * sz≤cap * sz:=Nat.mul_le_mul_right _ hnc
  omega
 ·simp only [hset]
  rw [← hfl]
  exact List.take_left
def finG (P : Program) (fn : Func) (R : Ending→World→Prop) : yb
 | .normal,σ,w | .ret,σ,w=>∃ v,(∀ tmps : Array Value,(∀ t,tmps.getD t undef = σ t)→(results fn tmps).run P w = .ok v w)∧R (.returned v) w
 | _,_,_=>False
theorem Jk {fn : Func} {R : Ending→World→Prop} (h : ∃ v,(∀ tmps : Array Value,(∀ t,tmps.getD t undef = σ t)→(results fn tmps).run P w = .ok v w)∧R (.returned v) w) : finG P fn R .ret σ w:=h
theorem Qz {f : FuncId} {fn : Func} {c : Code} {args : Array Value} {R : Ending→World→Prop} (hf : P.funcs[f]? = some fn) (hb : fn.body = some c)
  (hN : args.size≤N) (hn : fn.ntmps = N) (h : W P N c (finG P fn R) (fun t=>args.getD t undef) w) : Calls P f args w R:=by
 refine calls_of_wp hf hb (Code.wp_mono (fun e a' w' hq=>?_) (h _ ⟨?_,rfl,fun t=>?_⟩))
 ·obtain ⟨σ',hr,hq⟩:=hq
  cases e with
  | normal=>obtain ⟨v,h1,h2⟩:=hq; exact ⟨hr.defers,v,h1 _ hr.get,h2⟩
  | ret=>obtain ⟨v,h1,h2⟩:=hq; exact ⟨hr.defers,v,h1 _ hr.get,h2⟩
  | _=>exact hq.elim
 ·simp [hn]; omega
 ·simp only [Array.getD_eq_getD_getElem?,Array.getElem?_append]
  split
  ·rfl
  ·rename_i hlt
   rw [Array.getElem?_eq_none (by omega : args.size≤t),Array.getElem?_replicate]
   split <;> rfl
theorem Gy {w0 : World} {fn : Func} {t ty n b : Nat} {cs : List Value} {T : TypeId} (hres : fn.results = #[.cell t ty]) (h : σ t = .pointer (some ⟨b,0,none⟩)) (hB : Blk w b cs.toArray T) (ha : ∀ w,(isAgg ty).run P w = .ok true w) (hs : ∀ w,(sizeOf ty).run P w = .ok n w) (hn : cs.length = n) (he : Ext w0 w) :
  ∃ v,(∀ tmps : Array Value,(∀ t,tmps.getD t undef = σ t)→(results fn tmps).run P w = .ok v w)∧Rt (RP w0 (.agg cs.toArray)) (.returned v) w:=by
 refine ⟨.agg cs.toArray,fun tmps hg=>?_,⟨_,rfl,he,rfl⟩⟩
 have hp : tmps.getD t undef = .pointer (some ⟨b,0,none⟩):=by rw [hg t,h]
 have hp' : tmps[t]?.getD undef = .pointer (some ⟨b,0,none⟩):=by simpa using hp
 subst hn
 have hl:=run_loadCells_list (P:=P) w ⟨b,0,none⟩ cs (fun j u hu=>by rw [Q7,hB.cell]; simpa using hu)
 simp [results,hres,hp',asAddr,loadVar,ha,hs,hl]
end
abbrev RM {α : Type} (e : TypeId) (sz : Nat) (enc : α→List Value) (lo hi : Nat) (w : World) (u v0 : Value) (xs : List α) : Value→World→Prop:=fun v w'=>v = u∧Gr lo hi w w'∧Ow e sz enc lo w' v0 xs
theorem Ext.gr {a b c : World} {lo hi : Nat} (h : Ext a b) (k : Gr lo hi b c) (hl : a.heap.size≤lo) : Ext a c:=Below.trans h (k.below hl h.size)
theorem Ext.wr {a b c : World} {g lo : Nat} (h : Ext a b) (k : Wr g b c) (hl : lo≤g) (ha : a.heap.size≤lo) : Ext a c:=Below.trans h (k.below (Nat.le_trans ha hl))
theorem HB.lt {v : Value} {hi b n c : Nat} {A : Option Addr} (h : HB v hi) (hb : v.ownBlock = some b) (hv : v = .slice A (n + 1) c) : b < hi:=by
 rcases h with ⟨A',h⟩ | h
 ·rw [hv] at h; injection h with _ h _; cases h
 ·exact h b hb
theorem HB.own {α : Type} {e : TypeId} {sz base hi b : Nat} {enc : α→List Value} {w : World} {v : Value} {xs : List α} (h : HB v hi) (hb : v.ownBlock = some b) (ho : Ow e sz enc base w v xs) (h0 : 0 < xs.length) : b < hi:=by
 obtain ⟨g,cap,cur,hv,_⟩:=ho.row h0
 obtain ⟨n,hn⟩ : ∃ n,xs.length = n + 1:=⟨xs.length - 1,by omega⟩
 exact h.lt hb (by rw [hv,hn])
theorem j9 {i : Int} {n : Nat} (h : inR i n = true) : 0 < n:=by have:=js h; have:=jt h; omega
theorem yJ {α : Type} {xs : List α} {i j : Int} {u : α} (h : inR i xs.length = true) : inR i (j4 xs j u).length = true:=by rw [Gq]; exact h
theorem gt_setI {α : Type} [Inhabited α] {xs : List α} {i : Int} {u : α} (h : inR i xs.length = true) : gt (j4 xs i u) i = u:=by
 obtain ⟨hj,_⟩:=VP h
 simp [gt,j4,List.getD_eq_getElem?_getD,hj]
theorem setI_setI {α : Type} (xs : List α) (i : Int) (u u' : α) : j4 (j4 xs i u) i u' = j4 xs i u':=by simp [j4]
section
variable {P : Program} {N : Nat} {Q : yb} {σ : Fr} {w : World} {ops : Array Oper} {rest : List Oper} {o : Oper}
theorem Gd {α : Type} {enc : α→List Value} {e : TypeId} {sz lo hi : Nat} {l : List α} {u v0 : Value} {d f : Nat} {xs : Array Operand} {ts : Array TypeId} {vs : Array Value} (ht : Tk N ops σ o) (hd : o.dst = some d) (hN : d < N)
  (ho : o.op = .call { callee:=.value (.func f),args:=xs,argTypes:=ts }) (hf : ∀ args w,(callFunc f args).run P w = .ok (.enter f args) w)
  (hC : Calls P f vs w (Rt (RM e sz enc lo hi w u v0 l))) (hvs : xs.toList.map (ev σ) = vs.toList) (h : ∀ w1,Gr lo hi w w1→Ow e sz enc lo w1 v0 l→WL P N ops Q rest (upd σ d u) w1) : WL P N ops Q (o :: rest) σ w:=
 jX ht hd hN ho hf hC hvs fun v w1 hA=>by obtain ⟨rfl,h1,h2⟩:=hA; exact h w1 h1 h2
theorem fin1m {α : Type} {enc : α→List Value} {e : TypeId} {sz lo hi : Nat} {l : List α} {u v0 : Value} {w0 : World} {t : Nat} (h : σ t = u) (hg : Gr lo hi w0 w) (ho : Ow e sz enc lo w v0 l) : Rt (RM e sz enc lo hi w0 u v0 l) (.returned (QC [.tmp t] σ)) w:=⟨_,rfl,h,hg,ho⟩
theorem jL {α : Type} [Inhabited α] {enc : α→List Value} {e : TypeId} {sz base off : Nat} {t : TypeId} {x y : Operand} {v u : Value} {xs : List α} {i : Int} {p : Addr} {vs : List Value} {a a0 : α} (ht : Tk N ops σ o) (hd : o.dst = none) (ho : o.op = .store t x y)
  (hs : ∀ w,(sizeOf t).run P w = .ok vs.length w) (hx : ev σ x = .pointer (some (p.add off))) (hi : inR i xs.length = true) (hP : OP e sz enc base w v (j4 xs i a0) i p) (hy : ev σ y = u) (hv : u.cells.toList = vs) (h1 : (vs.all fun c=>c.oneCell') = true) (hfit : Nat.ble (off + vs.length) sz = true)
  (hu : enc a = (enc a0).take off ++ vs ++ (enc a0).drop (off + vs.length)) (hl : (enc a).length = sz)
  (h : ∀ b w1,v.ownBlock = some b→base≤b→Wr b w w1→Ow e sz enc base w1 v (j4 xs i a)→WL P N ops Q rest σ w1) : WL P N ops Q (o :: rest) σ w:=
 V3 ht hd ho hs hx hP hy hv h1 hfit (by rw [gt_setI hi]; exact hu) hl fun b w1 h2 h3 h4 h5=>h b w1 h2 h3 h4 (by rw [setI_setI] at h5; exact h5)
theorem OP.own0 {α : Type} [Inhabited α] {e : TypeId} {sz base : Nat} {enc : α→List Value} {v : Value} {xs : List α} {i : Int} {p : Addr} (h : OP e sz enc base w v xs i p) : Ow e sz enc base w v xs:=h.1
end
section
variable {P : Program} {σ : Fr} {w : World}
end
section
variable {P : Program} {σ : Fr} {w : World} {x y : Operand}
theorem jZ {t : TypeId} {xs : Array Value} {i : Nat} {v : Value} (ha : ∀ w,(isAgg t).run P w = .ok false w) (hv : xs[i]? = some v) : (part t xs i).run P w = .ok v w:=by
 simp [part,ha,hv]
theorem Vw {d : Nat} {xs ys : Array Value} {f : Field} {fs : List Field} {a b : Value} {r s : Bool} (hn : (f.name == "_") = false) (ha : (part f.type xs f.offset).run P w = .ok a w) (hb : (part f.type ys f.offset).run P w = .ok b w) (he : (Op.equalIn d f.type a b).run P w = .ok r w)
    (hr : (Op.eqFields d xs ys fs).run P w = .ok s w) : (Op.eqFields d xs ys (f :: fs)).run P w = .ok (r && s) w:=by
  have hn' : f.name ≠ "_" := by simpa using hn
  rw [Op.eqFields]
  simp only [if_pos hn',Sem.run_bind,ha,hb,he,Result.andThen_ok]
  cases r
  · simp
  · simpa using hr
theorem eq_i {d : Nat} {t : TypeId} {m n : Int} (h : P.underlying t = some (.int .i64)) : (Op.equalIn (d + 1) t (.int .i64 m) (.int .i64 n)).run P w = .ok (decide (m = n)) w:=by
 simp [Op.equalIn,run_underlying h]; exact Bool.eq_iff_iff.mpr (by simp)
theorem eq_s {d : Nat} {t : TypeId} {m n : List UInt8} (h : P.underlying t = some .string) : (Op.equalIn (d + 1) t (S m) (S n)).run P w = .ok (decide (m = n)) w:=by
 simp only [S,Op.equalIn,Sem.run_bind,run_underlying h,Result.andThen_ok,Sem.run_pure,beq_toListBytes,jq]
 congr 1; exact Bool.eq_iff_iff.mpr (by simp)
theorem run_eqNd {d : Nat} {t ti ts : TypeId} {fs : Array Field} {a b : Nd} (hu : P.underlying t = some (.struct fs)) (hf : fs.toList.map (fun f => (f.offset, f.type, f.name == "_")) = [(0, ti, false), (1, ts, false), (2, ts, false), (3, ti, false)])
    (hi : P.underlying ti = some (.int .i64)) (hs : P.underlying ts = some .string) (ai : ∀ w,(isAgg ti).run P w = .ok false w) (as' : ∀ w,(isAgg ts).run P w = .ok false w) (hp : P.stoodInHeld t = false) :
    (Op.equalIn (d + 2) t (.agg (qJ a).toArray) (.agg (qJ b).toArray)).run P w = .ok (decide (a = b)) w:=by
  have hff : P.fieldsOf t = fs:=by simp [Program.fieldsOf,hu]
  rw [run_equalIn_struct (P:=P) w (d + 1) t _ _ (by rw [hff]; exact hu) hp,hff]
  obtain ⟨l,hl⟩ : ∃ l,fs.toList = l:=⟨_,rfl⟩
  rw [hl] at hf ⊢
  rcases l with _ | ⟨f0,l⟩
  · simp at hf
  rcases l with _ | ⟨f1,l⟩
  · simp at hf
  rcases l with _ | ⟨f2,l⟩
  · simp at hf
  rcases l with _ | ⟨f3,l⟩
  · simp at hf
  rcases l with _ | ⟨f4,l⟩
  · simp only [List.map_cons,List.map_nil,List.cons.injEq,Prod.mk.injEq,and_true] at hf
    obtain ⟨⟨o0,t0,n0⟩,⟨o1,t1,n1⟩,⟨o2,t2,n2⟩,o3,t3,n3⟩:=hf
    rw [Vw n0 (a:=.int .i64 a.kind) (b:=.int .i64 b.kind) (r:=decide (a.kind = b.kind)) (s:=decide (a.path = b.path) && (decide (a.body = b.body) && (decide (a.mode = b.mode) && true)))
      (by rw [t0,o0]; exact jZ ai rfl) (by rw [t0,o0]; exact jZ ai rfl) (by rw [t0]; exact eq_i hi) (Vw n1 (by rw [t1,o1]; exact jZ as' rfl) (by rw [t1,o1]; exact jZ as' rfl) (by rw [t1]; exact eq_s hs)
      (Vw n2 (by rw [t2,o2]; exact jZ as' rfl) (by rw [t2,o2]; exact jZ as' rfl) (by rw [t2]; exact eq_s hs) (Vw n3 (by rw [t3,o3]; exact jZ ai rfl) (by rw [t3,o3]; exact jZ ai rfl) (by rw [t3]; exact eq_i hi)
      (by simp [Op.eqFields]))))]
    congr 1
    obtain ⟨a1,a2,a3,a4⟩:=a
    obtain ⟨b1,b2,b3,b4⟩:=b
    rw [Bool.eq_iff_iff]
    simp
  · simp at hf
theorem X_neA {t u : TypeId} {a b : Array Value} {r : Bool} (hg : P.eqGuardType P.depth t = false) (he : ∀ w,(Op.equal t (.agg a) (.agg b)).run P w = .ok r w) (hx : ev σ x = .agg a) (hy : ev σ y = .agg b) : Ex P σ w (.binOp .neq t x y u) (.bool (!r)) w:=by
 intro o ho; unfold execOp; simp only [ho]; rw [hx,hy]
 simp [eqGuard,binOp,hg,he]
end
theorem Rd.sub {α : Type} {sz : Nat} {enc : α→List Value} {w : World} {A : Option Addr} {c : Nat} {xs : List α} {l h : Int} (hR : Rd sz enc w (.slice A xs.length c) xs) (hc : inS l h (xs.length : Int) = true) :
  Rd sz enc w (.slice (if c = l.toNat then A else A.map (·.add (l.toNat * sz))) (h.toNat - l.toNat) (c - l.toNat)) (Go.UL.sub xs l h):=by
 have h1:=JJ hc
 have h2:=Jz hc
 have h3:=Jy hc
 obtain ⟨A',c',hv,⟨hn,hA,hm⟩,hl,hcell⟩:=hR
 injection hv with e1 e2 e3
 subst e1; subst e3
 have hlen : (Go.UL.sub xs l h).length = h.toNat - l.toNat:=by simp [Go.UL.sub]; omega
 refine ⟨_,_,by rw [hlen],⟨by omega,?_,by omega⟩,fun x hx=>hl x (List.mem_of_mem_take (List.mem_of_mem_drop hx)),?_⟩
 ·intro hnone
  split at hnone
  ·rename_i hcl; omega
  ·cases A with
   | none=>have:=hA rfl; omega
   | some a=>simp at hnone
 ·intro h0
  have hpos : 0 < xs.length:=by omega
  obtain ⟨ad,rfl,hcs⟩:=hcell hpos
  have hne : ¬ c = l.toNat:=by omega
  refine ⟨ad.add (l.toNat * sz),by simp [hne],fun j hj f u hu=>?_⟩
  have hj2 : l.toNat + j < xs.length:=by omega
  have hg : (Go.UL.sub xs l h)[j] = xs[l.toNat + j]:=by simp [Go.UL.sub]
  rw [hg] at hu
  have:=hcs (l.toNat + j) hj2 f u hu
  have ha : (ad.add (l.toNat * sz)).add (j * sz + f) = ad.add ((l.toNat + j) * sz + f):=by
   have e : (l.toNat + j) * sz + f = l.toNat * sz + (j * sz + f):=by rw [Nat.add_mul]; omega
   rw [e]
   unfold Addr.add
   by_cases h1 : l.toNat * sz = 0 <;> by_cases h2 : j * sz + f = 0 <;> simp_all [Nat.add_assoc]
  rw [ha]; exact this
section
variable {P : Program} {N : Nat} {Q : yb} {σ : Fr} {w : World} {ops : Array Oper} {rest : List Oper} {o : Oper}
theorem XI {α : Type} {sz : Nat} {enc : α→List Value} {d : Nat} {t e : TypeId} {x : Operand} {lo hi : Option Operand} {v : Value} {xs : List α} {l h : Int} {w0 : World} (ht : Tk N ops σ o) (hd : o.dst = some d) (hN : d < N) (ho : o.op = .slice t x lo hi none)
  (hu : P.underlying t = some (.slice e)) (hs : ∀ w,(sizeOf e).run P w = .ok sz w) (hx : ev σ x = v) (hR : Rd sz enc w0 v xs) (hl : bnd σ lo 0 l) (hh : bnd σ hi xs.length h) (hc : inS l h (xs.length : Int) = true)
  (hk : ∀ u,Rd sz enc w0 u (Go.UL.sub xs l h)→WL P N ops Q rest (upd σ d u) w) : WL P N ops Q (o :: rest) σ w:=by
 obtain ⟨A,c,rfl⟩:=hR.shape
 have hcap : xs.length≤c:=by obtain ⟨A',c',hv,⟨hn,_⟩,_⟩:=hR; injection hv with _ _ e; omega
 have h3:=Jy hc
 exact vm ht hd hN (by rw [ho]; exact X_sliceSl hu hs hx hl hh (JJ hc) (Jz hc) (by omega)) (hk _ (hR.sub hc))
end
theorem Rd.cs {α : Type} {sz : Nat} {enc : α→List Value} {w : World} {v : Value} {xs : List α} (h : Rd sz enc w v xs) : v.cells = #[v]:=by
 obtain ⟨A,c,rfl⟩:=h.shape; rfl
theorem Rd2.cs {α : Type} {sz : Nat} {enc : α→List Value} {w : World} {v : Value} {xs : List (List α)} (h : Rd2 sz enc w v xs) : v.cells = #[v]:=by
 obtain ⟨A,c,rfl⟩:=h.shape; rfl
def y7 (v u : Value) : Prop:=(∃ A,v = .slice A 0 0)∨(∃ A,u = .slice A 0 0)∨∀ b,v.ownBlock = some b→u.ownBlock ≠ some b
theorem y7.symm {v u : Value} (h : y7 v u) : y7 u v:=by
 rcases h with h | h | h
 ·exact .inr (.inl h)
 ·exact .inl h
 ·exact .inr (.inr fun b h1 h2=>h b h2 h1)
theorem y7.zero {u : Value} {A : Option Addr} : y7 (.slice A 0 0) u:=.inl ⟨A,rfl⟩
theorem y7.of {α : Type} {e : TypeId} {sz base : Nat} {enc : α→List Value} {w : World} {v u : Value} {xs : List α} (h : Ow e sz enc base w u xs) (hv : HB v base) : y7 v u:=by
 rcases hv with hv | hv
 ·exact .inl hv
 ·obtain ⟨h1 | h1,_⟩:=h
  ·exact .inr (.inr fun b h2 h3=>by have:=hv b h2; have:=(h1.lt b h3).1; omega)
  ·exact .inr (.inl h1.1)
def yT {α : Type} (e e2 : TypeId) (sz : Nat) (enc : α→List Value) (base : Nat) (w : World) (v : Value) (xss : List (List α)) : Prop:=
 ∃ vs : List Value,vs.length = xss.length∧Ow e 1 QV base w v vs∧(∀ (i : Nat) (u : Value) (xs : List α),vs[i]? = some u→xss[i]? = some xs→Ow e2 sz enc base w u xs)∧
  (∀ (i : Nat) (u : Value),vs[i]? = some u→y7 v u)∧∀ (i j : Nat) (u u' : Value),i ≠ j→vs[i]? = some u→vs[j]? = some u'→y7 u u'
theorem yT.rd {α : Type} {e e2 : TypeId} {sz base : Nat} {enc : α→List Value} {w : World} {v : Value} {xss : List (List α)} (h : yT e e2 sz enc base w v xss) : Rd2 sz enc w v xss:=by
 obtain ⟨vs,hl,hO,hi,_⟩:=h
 exact ⟨vs,hl,hO.rd,fun i u xs h1 h2=>(hi i u xs h1 h2).rd⟩
theorem yT.ext {α : Type} {e e2 : TypeId} {sz base : Nat} {enc : α→List Value} {w w' : World} {v : Value} {xss : List (List α)} (h : yT e e2 sz enc base w v xss) (k : Ext w w') : yT e e2 sz enc base w' v xss:=by
 obtain ⟨vs,hl,hO,hi,hd⟩:=h
 exact ⟨vs,hl,hO.ext k,fun i u xs h1 h2=>(hi i u xs h1 h2).ext k,hd⟩
theorem yT.zero {α : Type} {e e2 : TypeId} {sz base : Nat} {enc : α→List Value} {w : World} {A : Option Addr} : yT e e2 sz enc base w (.slice A 0 0) ([] : List (List α)):=
 ⟨[],rfl,Ow.zero,by simp,by simp,by simp⟩
theorem yT.base {α : Type} {e e2 : TypeId} {sz base base' : Nat} {enc : α→List Value} {w : World} {v : Value} {xss : List (List α)} (h : yT e e2 sz enc base w v xss) (hb : base'≤base) : yT e e2 sz enc base' w v xss:=by
 obtain ⟨vs,hl,hO,hi,hd⟩:=h
 exact ⟨vs,hl,hO.base hb,fun i u xs h1 h2=>(hi i u xs h1 h2).base hb,hd⟩
def HB2 (w : World) (v : Value) (hi : Nat) : Prop:=HB v hi∧∀ vs : List Value,Rd 1 QV w v vs→∀ (i : Nat) (u : Value),vs[i]? = some u→HB u hi
theorem Rd.uniq {w : World} {v : Value} {xs ys : List Value} (h : Rd 1 QV w v xs) (k : Rd 1 QV w v ys) : xs = ys:=by
 obtain ⟨A,c,hv,_,_,hc⟩:=h
 obtain ⟨A',c',hv',_,_,hc'⟩:=k
 rw [hv] at hv'; injection hv' with e1 e2 e3
 apply List.ext_getElem e2
 intro i h1 h2
 obtain ⟨a,ha,g⟩:=hc (by omega)
 obtain ⟨a',ha',g'⟩:=hc' (by omega)
 have : a = a':=by rw [e1,ha'] at ha; exact (Option.some.inj ha).symm
 subst this
 have q1:=g i h1 0 xs[i] rfl
 have q2:=g' i h2 0 ys[i] rfl
 rw [q1] at q2
 exact Option.some.inj q2
theorem yT.hb {α : Type} {e e2 : TypeId} {sz base : Nat} {enc : α→List Value} {w : World} {v : Value} {xss : List (List α)} (h : yT e e2 sz enc base w v xss) : HB2 w v w.heap.size:=by
 obtain ⟨vs,hl,hO,hi,_⟩:=h
 refine ⟨hO.hb,fun vs' hR i u hu=>?_⟩
 have:=Rd.uniq hO.rd hR
 subst this
 have hlt : i < xss.length:=by rw [← hl]; exact (List.getElem?_eq_some_iff.1 hu).1
 exact (hi i u _ hu (List.getElem?_eq_getElem hlt)).hb
def OP2 {α : Type} (e e2 : TypeId) (sz : Nat) (enc : α→List Value) (base : Nat) (w : World) (v : Value) (xss : List (List α)) (i : Int) (p : Addr) : Prop:=
 yT e e2 sz enc base w v xss∧inR i xss.length = true∧∃ g,v.ownBlock = some g∧p = ⟨g,i.toNat * 1,none⟩
theorem OP2.ext {α : Type} {e e2 : TypeId} {sz base : Nat} {enc : α→List Value} {w w' : World} {v : Value} {xss : List (List α)} {i : Int} {p : Addr} (h : OP2 e e2 sz enc base w v xss i p) (k : Ext w w') : OP2 e e2 sz enc base w' v xss i p:=⟨h.1.ext k,h.2⟩
theorem Rt.mono {A B : Value→World→Prop} (h : ∀ v w,A v w→B v w) : ∀ e w,Rt A e w→Rt B e w:=fun e w ⟨v,he,ha⟩=>⟨v,he,h v w ha⟩
abbrev ROS {α : Type} (e e2 : TypeId) (sz : Nat) (enc : α→List Value) (w : World) (xss : List (List α)) : Value→World→Prop:=fun v w'=>Ext w w'∧yT e e2 sz enc w.heap.size w' v xss
abbrev RTS {α : Type} (e e2 : TypeId) (sz : Nat) (enc : α→List Value) (w : World) (xss : List (List α)) (u : Value) : Value→World→Prop:=fun v w'=>Ext w w'∧∃ v1,v = .tuple #[v1,u]∧yT e e2 sz enc w.heap.size w' v1 xss
section
variable {P : Program} {N : Nat} {Q : yb} {σ : Fr} {w : World} {ops : Array Oper} {rest : List Oper} {o : Oper}
end
def LAt2 {α : Type} (sz : Nat) (enc : α→List Value) (xs : List α) (v : Value) (w : World) : Prop:=∃ p u,v = .pointer (some p)∧At w p [u]∧Rd sz enc w u xs
theorem LAt2.mono {α : Type} {sz : Nat} {enc : α→List Value} {xs : List α} : jv (LAt2 sz enc xs):=fun _ _ _ k ⟨p,u,h,hA,hR⟩=>⟨p,u,h,hA.ext k,hR.ext k⟩
def V9 {α : Type} (sz : Nat) (enc : α→List Value) (w : World) : List Value→List (List α)→Prop
 | [],[]=>True
 | u :: vs,xs :: xss=>Rd sz enc w u xs∧V9 sz enc w vs xss
 | _,_=>False
theorem Rd.cells_one {α : Type} {sz : Nat} {enc : α→List Value} {w : World} {v : Value} {xs : List α} (h : Rd sz enc w v xs) : v.cells = #[v]:=by
 obtain ⟨A,c,hv⟩:=h.shape
 rw [hv]; rfl
theorem Rd.one {α : Type} {sz : Nat} {enc : α→List Value} {w : World} {v : Value} {xs : List α} (h : Rd sz enc w v xs) : v.cells.size = 1:=by rw [h.cells_one]; rfl
theorem V9.spec {α : Type} {sz : Nat} {enc : α→List Value} {w : World} : ∀ {vs : List Value} {xss : List (List α)},V9 sz enc w vs xss→vs.length = xss.length∧(∀ (i : Nat) (u : Value) (xs : List α),vs[i]? = some u→xss[i]? = some xs→Rd sz enc w u xs)∧(vs.map fun v=>v.cells.toList).flatten = vs.flatMap QV:=by
 intro vs
 induction vs with
 | nil=>
  intro xss h
  cases xss with
  | nil=>exact ⟨rfl,fun i u xs h1 _=>by simp at h1,rfl⟩
  | cons xs xss=>exact h.elim
 | cons u vs ih=>
  intro xss h
  cases xss with
  | nil=>exact h.elim
  | cons xs xss=>
   obtain ⟨h1,h2⟩:=h
   obtain ⟨i1,i2,i3⟩:=ih h2
   refine ⟨by simp [i1],fun i v ys hv hy=>?_,?_⟩
   ·cases i with
    | zero=>
     simp only [List.getElem?_cons_zero,Option.some.injEq] at hv hy
     subst hv; subst hy; exact h1
    | succ i=>
     simp only [List.getElem?_cons_succ] at hv hy
     exact i2 i v ys hv hy
   ·rw [List.map_cons,List.flatten_cons,List.flatMap_cons,i3,h1.cells_one]
theorem Rd2.new {α : Type} {sz : Nat} {enc : α→List Value} {w : World} {b : Nat} {e : TypeId} {vs : List Value} {xss : List (List α)} (k : Blk w b ⟨(vs.map fun v=>v.cells.toList).flatten⟩ e) (h : V9 sz enc w vs xss) (hm : vs.length≤9223372036854775807) :
  Rd2 sz enc w (.slice (some ⟨b,0,none⟩) vs.length vs.length) xss:=by
 obtain ⟨h1,h2,h3⟩:=h.spec
 refine ⟨vs,h1,Ow.rd (Ow.new (base:=0) k (Nat.zero_le _) h3 (fun _ _=>rfl) hm),h2⟩
structure DF where
 soft : Bool
 rigid : Bool
 early : Bool
 fin : Bool
 use : List Nat
def df0 : DF:=⟨true,true,false,false,[]⟩
def DF.uses (f : DF) (j : Nat) : Bool:=f.use.any fun c=>Nat.beq c j
def Rig (L : Value→World→Prop) : Prop:=∀ v w w',L v w→L v w'
theorem Rig.mono {L : Value→World→Prop} (h : Rig L) : jv L:=fun v w w' _ k=>h v w w' k
theorem noR {L : Value→World→Prop} (h : false = true) : Rig L:=by cases h
def Gk : List DF→List (Value→World→Prop)→Prop
 | [],[]=>True
 | f :: F,l :: L=>(jv l∧(f.rigid = true→Rig l))∧Gk F L
 | _,_=>False
theorem Gk.get : ∀ {F : List DF} {L : List (Value→World→Prop)},Gk F L→∀ i,jv (L.getD i (fun _ _=>True))∧((F.getD i df0).rigid = true→Rig (L.getD i (fun _ _=>True))):=by
 intro F
 induction F with
 | nil=>
  intro L h i
  cases L with
  | nil=>exact ⟨fun _ _ _ _ _=>by simp,fun _ _ _ _ _=>by simp⟩
  | cons a r=>exact h.elim
 | cons f F ih=>
  intro L h i
  cases L with
  | nil=>exact h.elim
  | cons a r=>
   cases i with
   | zero=>exact h.1
   | succ i=>exact ih h.2 i
def YO (l : List Oper) (j : Nat) : Nat→List Nat→Bool
 | i,[]=>yg l i j
 | i,c :: r=>yg l i c && YO l j c r
def bef (cs : List (Nat × Nat × List Nat)) (i j : Nat) : Bool:=cs.any fun c=>Nat.beq c.1 i && Nat.beq c.2.1 j
def Yc (l : List Oper) (cs : List (Nat × Nat × List Nat)) : Bool:=cs.all fun c=>YO l c.2.1 c.1 c.2.2
def earlyOK (n : Nat) (F : List DF) (cs : List (Nat × Nat × List Nat)) : Bool:=(List.range n).all fun i=>!(F.getD i df0).early || (List.range n).all fun m=>(F.getD m df0).soft || Nat.beq m i || bef cs m i
def aliveOK (l : List Oper) (F : List DF) (cs : List (Nat × Nat × List Nat)) : Bool:=(List.range l.length).all fun i=>(F.getD i df0).soft || (List.range l.length).all fun j=>
 (F.getD j df0).rigid || Nat.beq j i || bef cs j i || (!(F.getD j df0).fin && (List.range l.length).all fun c=>!(F.getD c df0).uses j || Nat.beq c i || bef cs i c)
def usesOK (l : List Oper) (F : List DF) : Bool:=(List.range l.length).all fun i=>(F.getD i df0).use.all fun j=>yg l i j
def J2 (N : Nat) (l : List Oper) (F : List DF) (cs : List (Nat × Nat × List Nat)) : Bool:=jP N l 0 && Yc l cs && earlyOK l.length F cs && aliveOK l F cs && usesOK l F
def DRel (soft : Bool) (B : Nat) (w w' : World) : Prop:=match soft with | true=>Ext w w' | false=>Below B w w'
def StepR (P : Program) (N : Nat) (l : List Oper) (L : List (Value→World→Prop)) (F : List DF) (B : Nat) (σ : Fr) (w : World) (i : Nat) (o : Oper) : Prop:=
  ∀ σ' w',Below B w w'→((F.getD i df0).early = true→Ext w w')→(∀ t,isD l t = false→σ' t = σ t)→(∀ j,(F.getD i df0).uses j = true→L.getD j (fun _ _=>True) (σ' (vn l j)) w')→(∀ j,yg l j i = true→σ' (vn l j) = σ (vn l j))→
    WL P N l.toArray (fun e σ'' w''=>match e with | .normal=>∃ v,σ'' = upd σ' (vn l i) v∧DRel (F.getD i df0).soft B w' w''∧L.getD i (fun _ _=>True) v w'' | _=>False) [o] σ' w'
theorem Qy {l : List Oper} {L : List (Value→World→Prop)} {F : List DF} {B : Nat} {σ σ0 : Fr} {w w0 : World} {i d : Nat} {v : Value} (hd : vn l i = d) (hs : σ = upd σ0 d v) (hf : (F.getD i df0).soft = true) (he : Ext w0 w) (hL : L.getD i (fun _ _=>True) v w) :
  ∃ v,σ = upd σ0 (vn l i) v∧DRel (F.getD i df0).soft B w0 w∧L.getD i (fun _ _=>True) v w:=⟨v,by rw [hd]; exact hs,by rw [hf]; exact he,hL⟩
theorem stepH {l : List Oper} {L : List (Value→World→Prop)} {F : List DF} {B : Nat} {σ σ0 : Fr} {w w0 : World} {i d : Nat} {v : Value} (hd : vn l i = d) (hs : σ = upd σ0 d v) (hf : (F.getD i df0).soft = false) (he : Below B w0 w) (hL : L.getD i (fun _ _=>True) v w) :
  ∃ v,σ = upd σ0 (vn l i) v∧DRel (F.getD i df0).soft B w0 w∧L.getD i (fun _ _=>True) v w:=⟨v,by rw [hd]; exact hs,by rw [hf]; exact he,hL⟩
theorem LEq.rig {u : Value} : Rig (LEq u):=fun _ _ _ h=>h
abbrev LAtW (w0 : World) (off : Nat) (cs : List Value) : Value→World→Prop:=fun v _=>∃ p : Addr,v = .pointer (some (p.add off))∧At w0 p cs
abbrev JF (w0 : World) (cs : List Value) : Value→World→Prop:=fun v _=>∃ p : Addr,v = .pointer (some p)∧At w0 p cs
abbrev Gh {α : Type} (w0 : World) (sz : Nat) (enc : α→List Value) (xs : List α) : Value→World→Prop:=fun v _=>Rd sz enc w0 v xs
abbrev LOw {α : Type} (e : TypeId) (sz : Nat) (enc : α→List Value) (B : Nat) (xs : List α) : Value→World→Prop:=fun v w=>Ow e sz enc B w v xs
abbrev X0 : Value→World→Prop:=fun v _=>∃ b,v = .slice (some ⟨b,0,none⟩) 0 0
theorem JF.rig {w0 : World} {cs : List Value} : Rig (JF w0 cs):=fun _ _ _ h=>h
theorem Gh.rig {α : Type} {w0 : World} {sz : Nat} {enc : α→List Value} {xs : List α} : Rig (Gh w0 sz enc xs):=fun _ _ _ h=>h
theorem X0.rig : Rig X0:=fun _ _ _ h=>h
theorem LOw.mono {α : Type} {e : TypeId} {sz B : Nat} {enc : α→List Value} {xs : List α} : jv (LOw e sz enc B xs):=fun _ _ _ k h=>Ow.ext h k
abbrev LTup {α : Type} (e : TypeId) (sz : Nat) (enc : α→List Value) (B : Nat) (xs : List α) (r : Value) : Value→World→Prop:=fun v w=>∃ u,v = .tuple #[u,r]∧Ow e sz enc B w u xs
theorem LTup.mono {α : Type} {e : TypeId} {sz B : Nat} {enc : α→List Value} {xs : List α} {r : Value} : jv (LTup e sz enc B xs r):=fun _ _ _ k ⟨u,h,ho⟩=>⟨u,h,Ow.ext ho k⟩
theorem Gr.mono {lo hi lo' hi' : Nat} {w w' : World} (h : Gr lo hi w w') (hs : ∀ k,lo≤k→k < hi→lo'≤k∧k < hi') : Gr lo' hi' w w':=
 ⟨h.os,h.tape,h.output,h.size,fun k hk hn=>h.block k hk fun hh=>hn (hs k hh.1 hh.2)⟩
theorem yT.gr0 {α : Type} {e e2 : TypeId} {sz base lo hi : Nat} {enc : α→List Value} {w w' : World} {v : Value} {xss : List (List α)} (h : yT e e2 sz enc base w v xss) (k : Gr lo hi w w')
  (h0 : (∃ A,v = .slice A 0 0)∨∀ b,v.ownBlock = some b→¬ (lo≤b∧b < hi)) (h1 : ∀ vs : List Value,Rd 1 QV w v vs→∀ (i : Nat) (u : Value),vs[i]? = some u→(∃ A,u = .slice A 0 0)∨∀ b,u.ownBlock = some b→¬ (lo≤b∧b < hi)) : yT e e2 sz enc base w' v xss:=by
 obtain ⟨vs,hl,hO,hi',hd⟩:=h
 exact ⟨vs,hl,hO.gr0 k h0,fun i u xs a b=>(hi' i u xs a b).gr0 k (h1 vs hO.rd i u a),hd⟩
theorem yT.later {α : Type} {e e2 : TypeId} {sz base lo hi : Nat} {enc : α→List Value} {w w' : World} {v : Value} {xss : List (List α)} (h : yT e e2 sz enc base w v xss) (k : Gr lo hi w w') (hb : hi≤base) : yT e e2 sz enc base w' v xss:=by
 obtain ⟨vs,hl,hO,hi',hd⟩:=h
 exact ⟨vs,hl,hO.later k hb,fun i u xs a b=>(hi' i u xs a b).later k hb,hd⟩
abbrev RM2 {α : Type} (e e2 : TypeId) (sz : Nat) (enc : α→List Value) (lo hi : Nat) (w : World) (u v0 : Value) (xss : List (List α)) : Value→World→Prop:=fun v w'=>v = u∧Gr lo hi w w'∧yT e e2 sz enc lo w' v0 xss
section
variable {P : Program} {N : Nat} {Q : yb} {σ : Fr} {w : World} {ops : Array Oper} {rest : List Oper} {o : Oper}
end
abbrev RTT {α β : Type} (e : TypeId) (sz : Nat) (enc : α→List Value) (e' : TypeId) (sz' : Nat) (enc' : β→List Value) (w : World) (l : List α) (l' : List β) : Value→World→Prop:=
 fun v w'=>Ext w w'∧∃ v1 v2,v = .tuple #[v1,v2]∧Ow e sz enc w.heap.size w' v1 l∧Ow e' sz' enc' w.heap.size w' v2 l'
theorem YK {P : Program} {α : Type} {enc : α→List Value} {w : World} {t e ty : TypeId} {i : TypeInfo} {z : Value} {sz by' base : Nat} {v u : Value} {xs ys : List α}
  (hu : P.underlying t = some (.slice e)) (hi : P.info? e = some i) (hz : i.zero = some z) (hsz : i.size = sz) (hby : i.bytes = by') (hzs : z.cells.size = sz) (hpos : 0 < sz) (hb0 : 0 < by')
  (hO : Ow e sz enc base w v xs) (hR : Rd sz enc w u ys) (h1 : ∀ y ∈ ys,∀ c ∈ enc y,c.oneCell' = true) (hbound : (xs.length + ys.length) * by'≤140737488355328) (hbase : base≤w.heap.size) :
  ∃ v1 w1,(Builtin.append_ #[t,t] ty #[v,u]).run P w = .ok v1 w1∧Ow e sz enc base w1 v1 (xs ++ ys)∧w.heap.size≤w1.heap.size∧(∀ W,Below base W w→Below base W w1)∧
   ∃ r,w.grownBy w1 r∧(∀ g,r = some g→(¬ ∃ A,v = .slice A 0 0)∧v.ownBlock = some g)∧((v1.ownBlock = v.ownBlock∧¬ ∃ A,v = .slice A 0 0)∨v1.ownBlock = some w.heap.size∨∃ A,v1 = .slice A 0 0):=by
 obtain ⟨A,c,hu',⟨hnc,hnone,hm⟩,hl,hc⟩:=hR
 have hlen:=ja enc sz ys hl
 have hml : xs.length + ys.length≤140737488355328:=Nat.le_trans (Nat.le_mul_of_pos_right _ hb0) hbound
 have hlen2 : ∀ y ∈ xs ++ ys,(enc y).length = sz:=by
  intro y hy
  rcases List.mem_append.1 hy with hy | hy
  ·exact hO.2.1 y hy
  ·exact hl y hy
 have row : ∀ v',w.ownsRow base e sz v' xs.length (xs.flatMap enc)→∃ v1 w1,(Builtin.append_ #[t,t] ty #[v',u]).run P w = .ok v1 w1∧Ow e sz enc base w1 v1 (xs ++ ys)∧w.heap.size≤w1.heap.size∧(∀ W,Below base W w→Below base W w1)∧
   w.grownBy w1 v'.ownBlock∧(v1.ownBlock = v'.ownBlock∨v1.ownBlock = some w.heap.size):=by
  intro v' hown
  cases A with
  | none=>
   have hc0:=hnone rfl
   have hy0 : ys = []:=List.eq_nil_of_length_eq_zero (by omega)
   subst hy0; subst hu'; subst hc0
   exact ⟨v',w,run_append_owned_none (P:=P) (w:=w) base t ty e i sz hu hi v' xs.length _ hown,⟨.inl (by simpa using hown),by simpa using hlen2,by simpa using hO.2.2⟩,Nat.le_refl _,fun _ h=>h,⟨rfl,rfl,rfl,Nat.le_refl _,fun _ _ _=>rfl⟩,.inl rfl⟩
  | some ad=>
   have hnews : ∀ j q,(ys.flatMap enc)[j]? = some q→w.cell? (ad.add j) = some q:=by
    intro j q hq
    have hj : j < ys.length * sz:=by rw [← hlen]; exact (List.getElem?_eq_some_iff.1 hq).1
    have hy0 : 0 < ys.length:=by
     rcases Nat.eq_zero_or_pos ys.length with h0 | h0
     ·rw [h0] at hj; omega
     ·exact h0
    obtain ⟨ad',hA,hcell⟩:=hc hy0
    injection hA with hA; subst hA
    have hj1 : j / sz < ys.length:=(Nat.div_lt_iff_lt_mul hpos).2 hj
    have hf : j % sz < (enc ys[j / sz]).length:=by rw [hl _ (List.getElem_mem hj1)]; exact Nat.mod_lt _ hpos
    have hq':=QM enc sz ys hl (j / sz) hj1 (j % sz) _ (List.getElem?_eq_getElem hf)
    have hdm : j / sz * sz + j % sz = j:=Nat.div_add_mod' j sz
    rw [hdm,hq] at hq'
    injection hq' with hq'
    have:=hcell (j / sz) hj1 (j % sz) q (by rw [hq']; exact List.getElem?_eq_getElem hf)
    rwa [hdm] at this
   subst hu'
   obtain ⟨v1,w1,hr,h2,h3,h4,h5⟩:=run_append_own_at (P:=P) w base t ty e i z sz by' hu hi hz hsz hby hzs hpos v' xs.length _ hown ad ys.length c (ys.flatMap enc) hlen hnews
    (by intro q hq; obtain ⟨y,hy,hq⟩:=List.mem_flatMap.1 hq; exact h1 y hy q hq) (by unfold maxLen; omega) hbound hbase
   exact ⟨v1,w1,hr,⟨.inl (by simpa using h2),hlen2,by simp; omega⟩,h3.size,fun W hW=>hW.grown h3 hbase (fun k hk=>(hown.lt k hk).1),h3,h5⟩
 by_cases hzv : ∃ A,v = .slice A 0 0
 ·obtain ⟨A0,rfl⟩:=hzv
  have hx0 : xs = []:=by
   obtain ⟨A',c',hv',_⟩:=hO.rd
   injection hv' with _ h2 _
   exact List.eq_nil_of_length_eq_zero (by omega)
  subst hx0
  have hnil : w.ownsRow base e sz (.slice none 0 0) ([] : List α).length (([] : List α).flatMap enc):=by simpa using World.ownsRow_nil w base e sz
  obtain ⟨v1,w1,hr,h2,h3,h4,h5,h6⟩:=row _ hnil
  have h7 : v1.ownBlock = some w.heap.size∨∃ A,v1 = .slice A 0 0:=by
   rcases h6 with h6 | h6
   ·refine .inr ?_
    obtain ⟨ho | ho,_⟩:=h2
    ·rcases ho.2 with ⟨hv,_⟩ | ⟨g,cap,cur,hv,_⟩
     ·exact ⟨_,hv⟩
     ·rw [hv] at h6; cases h6
    ·exact ho.1
   ·exact .inl h6
  cases A0 with
  | none=>exact ⟨v1,w1,hr,h2,h3,h4,none,h5,by simp,.inr h7⟩
  | some a0=>
   rcases Nat.eq_zero_or_pos ys.length with h0 | h0
   ·have hy0 : ys = []:=List.eq_nil_of_length_eq_zero h0
    subst hy0; subst hu'
    refine ⟨.slice (some a0) 0 0,w,?_,by simpa using Ow.zero,Nat.le_refl _,fun _ h=>h,none,⟨rfl,rfl,rfl,Nat.le_refl _,fun _ _ _=>rfl⟩,by simp,.inr (.inr ⟨_,rfl⟩)⟩
    cases A <;> simp [Builtin.append_,run_underlying hu,sizeOf,typeInfo,hi,Builtin.lenOf,Builtin.firstCells,loadCells,loadCellsFrom,storeCells]
   ·subst hu'
    refine ⟨v1,w1,?_,h2,h3,h4,none,h5,by simp,.inr h7⟩
    rw [YB hu hi h0 (by rw [hby]; simpa using hbound)]
    exact hr
 ·obtain ⟨ho | ho,_⟩:=hO
  ·obtain ⟨v1,w1,hr,h2,h3,h4,h5,h6⟩:=row v ho
   exact ⟨v1,w1,hr,h2,h3,h4,v.ownBlock,h5,fun g hg=>⟨hzv,hg⟩,h6.imp (fun h=>⟨h,hzv⟩) .inl⟩
  ·exact absurd ho.1 hzv
theorem Ow.apart {β : Type} {e sz base : Nat} {enc : β→List Value} {w w1 : World} {v v1 q : Value} {zs : List β} {r : Option Nat} (h : Ow e sz enc base w q zs) (hd : y7 v q) (hg : w.grownBy w1 r)
  (hr : ∀ g,r = some g→(¬ ∃ A,v = .slice A 0 0)∧v.ownBlock = some g) (h1 : (v1.ownBlock = v.ownBlock∧¬ ∃ A,v = .slice A 0 0)∨v1.ownBlock = some w.heap.size∨∃ A,v1 = .slice A 0 0) : Ow e sz enc base w1 q zs∧y7 v1 q:=by
 by_cases hq : ∃ A,q = .slice A 0 0
 ·obtain ⟨A,rfl⟩:=hq
  have hx0 : zs = []:=by
   obtain ⟨A',c',hv',_⟩:=h.rd
   injection hv' with _ h2 _
   exact List.eq_nil_of_length_eq_zero (by omega)
  subst hx0
  exact ⟨Ow.zero,.inr (.inl ⟨A,rfl⟩)⟩
 ·obtain ⟨ho | ho,h2⟩:=h
  ·refine ⟨⟨.inl (ho.kept hg ?_),h2⟩,?_⟩
   ·cases r with
    | none=>
     cases hb : q.ownBlock with
     | none=>exact .inl rfl
     | some b=>exact .inr (by simp)
    | some g=>
     obtain ⟨h3,h4⟩:=hr g rfl
     rcases hd with hd | hd | hd
     ·exact absurd hd h3
     ·exact absurd hd hq
     ·exact .inr (hd g h4)
   ·rcases h1 with ⟨h3,h4⟩ | h3 | h3
    ·rcases hd with hd | hd | hd
     ·exact absurd hd h4
     ·exact absurd hd hq
     ·exact .inr (.inr fun b hb=>hd b (by rw [← h3]; exact hb))
    ·exact .inr (.inr fun b hb hb2=>by have:=(ho.lt b hb2).2; rw [h3] at hb; have:=Option.some.inj hb; omega)
    ·exact .inl h3
  ·exact absurd ho.1 hq
section
variable {P : Program} {N : Nat} {Q : yb} {σ : Fr} {w : World} {ops : Array Oper} {rest : List Oper} {o : Oper}
theorem XZ {α : Type} {enc : α→List Value} {d : Nat} {s x : Operand} {t e : TypeId} {z : Value} {sz by' base : Nat} {v u : Value} {xs ys : List α} (ht : Tk N ops σ o) (hd : o.dst = some d) (hN : d < N)
  (ho : o.op = .call { callee:=.builtin .append,args:=#[s,x],argTypes:=#[t,t] }) (he : ElemI P t e sz by' z)
  (hs : ev σ s = v) (hx : ev σ x = u) (hO : Ow e sz enc base w v xs) (hR : Rd sz enc w u ys) (h1 : ∀ y ∈ ys,∀ c ∈ enc y,c.oneCell' = true) (hbound : (xs.length + ys.length) * by'≤140737488355328) (hbase : base≤w.heap.size)
  (h : ∀ v1 w1,Ow e sz enc base w1 v1 (xs ++ ys)→w.heap.size≤w1.heap.size→(∀ W,Below base W w→Below base W w1)→
   (∀ {β : Type} {e' sz' base' : Nat} {enc' : β→List Value} {q : Value} {zs : List β},Ow e' sz' enc' base' w q zs→y7 v q→Ow e' sz' enc' base' w1 q zs∧y7 v1 q)→WL P N ops Q rest (upd σ d v1) w1) : WL P N ops Q (o :: rest) σ w:=by
 obtain ⟨hu,⟨i,hi,hz,hsz,hby⟩,hzs,hpos,hb0⟩:=he
 obtain ⟨v1,w1,hr,h2,h3,h4,r,h5,h6,h7⟩:=YK (P:=P) (ty:=o.type) hu hi hz hsz hby hzs hpos hb0 hO hR h1 hbound hbase
 refine vm ht hd hN ?_ (h v1 w1 h2 h3 h4 fun hq hdd=>Ow.apart hq hdd h5 h6 h7)
 intro o' ho'
 have hty : Builtin.append_ #[t,t] o'.type #[v,u] = Builtin.append_ #[t,t] o.type #[v,u]:=rfl
 unfold execOp
 simp only [ho',ho,resolve,invoke,builtin,Sem.run_bind,Sem.run_pure,Result.andThen_ok,List.map_toArray,List.map_cons,List.map_nil,hs,hx,hty,hr]
end
def Qr (n : Nat) (l : List Oper) : Bool:=(List.range l.length).all fun k=>Nat.blt k n || ((bif Nat.beq k n then (List.range k).all (fun j=>yg l k j) else yg l k (k - 1)) && ((l[k]?.map fun o=>o.after.toList.all fun e=>!Region.binds .any e || Nat.blt e.on k).getD true))
theorem Qp {n : Nat} {l : List Oper} (h : Qr n l = true) {k : Nat} (hk : k < l.length) (hn : n≤k) : (k = n→∀ j,j < k→yg l k j = true)∧(n < k→yg l k (k - 1) = true)∧∀ o,l[k]? = some o→∀ e ∈ o.after.toList,Region.binds .any e = true→e.on < k:=by
 have:=(List.all_eq_true.1 h) k (List.mem_range.2 hk)
 rw [Bool.or_eq_true,Bool.and_eq_true] at this
 rcases this with h1 | ⟨h1,h2⟩
 ·have h1 : k < n:=by simpa using h1
  omega
 ·refine ⟨fun e j hj=>?_,fun hlt=>?_,fun o ho e he hb=>?_⟩
  ·subst e
   simp only [Nat.beq_refl,cond_true,List.all_eq_true] at h1
   exact h1 j (List.mem_range.2 hj)
  ·have hne : Nat.beq k n = false:=by
    cases hb : Nat.beq k n with
    | false=>rfl
    | true=>have:=Nat.eq_of_beq_eq_true hb; omega
   rw [hne] at h1
   exact h1
  ·rw [ho] at h2
   simp only [Option.map_some,Option.getD_some,List.all_eq_true] at h2
   have:=h2 e he
   rw [hb] at this
   simpa using this
theorem XX {P : Program} {l : List Oper} {n : Nat} {Q : Exit→Act→World→Prop} (hch : Qr n l = true) : ∀ (m i fuel : Nat) (listed : Array Bool) (a : Act) (w : World),i + m = l.length→n≤i→listed.size = l.length→(∀ j,j < l.length→listed.getD j true = decide (j < i))→m≤fuel→
  wpOps P l.toArray Q (List.range' i m) a w→wpAny P .any l.toArray Q fuel listed a w:=by
 intro m
 induction m with
 | zero=>
  intro i fuel listed a w hi hn hsz hl hf h
  have hr : Region.ready .any l.toArray listed = []:=by
   simp only [Region.ready]
   rw [List.filter_eq_nil_iff]
   intro j hj
   have hj' : j < l.length:=by simpa using hj
   have:=hl j hj'
   rw [decide_eq_true (by omega)] at this
   simp [this]
  have hq : Q .normal a w:=by simpa [wpOps] using h
  cases fuel with
  | zero=>exact ⟨hr,hq⟩
  | succ fuel=>exact ⟨fun _=>hq,fun i hi=>by rw [hr] at hi; cases hi⟩
 | succ m ih=>
  intro i fuel listed a w hi hn hsz hl hf h
  obtain ⟨fuel,rfl⟩ : ∃ f,fuel = f + 1:=⟨fuel - 1,by omega⟩
  rw [List.range'_succ,wpOps_cons] at h
  have hil : i < l.length:=by omega
  refine ⟨fun hr=>?_,fun i' hi'=>?_⟩
  ·exfalso
   have hin : i ∈ Region.ready .any l.toArray listed:=by
    simp only [Region.ready,List.mem_filter,List.mem_range]
    refine ⟨by simpa using hil,?_⟩
    have ho : l.toArray[i]? = some l[i]:=by simp [hil]
    have hlf : listed.getD i true = false:=by rw [hl i hil]; simp
    rw [hlf,ho]
    simp only [Bool.not_false,Bool.true_and,Option.map_some,Option.getD_some]
    rw [← Array.all_toList,List.all_eq_true]
    intro e he
    cases hbd : Region.binds .any e with
    | false=>rfl
    | true=>
     have hlt:=(Qp hch hil hn).2.2 l[i] (by simp [hil]) e he hbd
     simp only [Bool.not_true,Bool.false_or]
     have hs : e.on < listed.size:=by omega
     have h2:=hl e.on (by omega)
     rw [decide_eq_true hlt] at h2
     simpa [Array.getD,hs] using h2
   rw [hr] at hin; cases hin
  ·simp only [Region.ready,List.mem_filter,List.mem_range,Bool.and_eq_true,Bool.not_eq_true'] at hi'
   obtain ⟨hil',hi1,hi2⟩:=hi'
   have h1 : i' < l.length:=by simpa using hil'
   have hi1' : listed.getD i' true = false:=by simpa using hi1
   rw [hl i' h1] at hi1'
   have hge : i≤i':=by simpa using hi1'
   have he : i' = i:=by
    refine Classical.byContradiction fun hne=>?_
    have hd:=(Qp hch h1 (by omega)).2.1 (by omega)
    have hgo : l[i']? = some l[i']:=by simp [h1]
    have ho : l.toArray[i']? = some l[i']:=by simp [h1]
    rw [ho] at hi2
    simp only [Option.map_some,Option.getD_some] at hi2
    rw [← Array.all_toList,List.all_eq_true] at hi2
    unfold yg at hd
    rw [hgo] at hd
    simp only [dep,List.any_eq_true,Bool.and_eq_true] at hd
    obtain ⟨e,he,hbd,hej⟩:=hd
    have hej' : e.on = i' - 1:=Nat.eq_of_beq_eq_true hej
    have h3:=hi2 e he
    rw [hbd,hej'] at h3
    simp only [Bool.not_true,Bool.false_or] at h3
    have hs : i' - 1 < listed.size:=by omega
    have h4:=hl (i' - 1) (by omega)
    rw [decide_eq_false (by omega)] at h4
    simp [Array.getD,hs] at h3 h4
    rw [h3] at h4; cases h4
   subst he
   refine wpOp_mono (fun a' w' h'=>ih (i' + 1) fuel (listed.setIfInBounds i' true) a' w' (by omega) (by omega) (by simpa using hsz) (fun j hj=>?_) (by omega) h') h
   have h0:=hl j hj
   have hs : j < listed.size:=by omega
   by_cases e : j = i'
   ·subst e
    simp [Array.getD,hs]
   ·have h5 : (listed.setIfInBounds i' true).getD j true = listed.getD j true:=by
     simp [Array.getD,hs,Ne.symm e]
    rw [h5,h0,decide_eq_decide]; omega
def StepC (P : Program) (N : Nat) (l1 l : List Oper) (L : List (Value→World→Prop)) (σ : Fr) (w : World) (i : Nat) (o : Oper) : Prop:=
  ∀ σ' w',Ext w w'→(∀ t,isD l1 t = false→σ' t = σ t)→(∀ j,dep o j = true→L.getD j (fun _ _=>True) (σ' (vn l1 j)) w')→(∀ j,yg l1 j i = true→σ' (vn l1 j) = σ (vn l1 j))→
    WL P N l.toArray (fun e σ'' w''=>match e with | .normal=>∃ v,σ'' = upd σ' (vn l1 i) v∧Ext w' w''∧L.getD i (fun _ _=>True) v w'' | _=>False) [o] σ' w'
structure DSrc where
 pos : Int
 seed : Int
def Y1 (cv : Value) (s : DSrc) : List Value:=[cv,.int .i64 s.pos,.int .i64 s.seed]
abbrev RS (T b : Nat) (cv : Value) (w : World) (u : Value) (s : DSrc) : Value→World→Prop:=fun v w'=>v = u∧Gr b (b + 1) w w'∧Blk w' b (Y1 cv s).toArray T
abbrev RSO {α : Type} (T b : Nat) (cv : Value) (e : TypeId) (sz : Nat) (enc : α→List Value) (w : World) (xs : List α) (s : DSrc) : Value→World→Prop:=fun v w'=>Gr b (b + 1) w w'∧Blk w' b (Y1 cv s).toArray T∧Ow e sz enc w.heap.size w' v xs
abbrev RSOS {α : Type} (T b : Nat) (cv : Value) (e e2 : TypeId) (sz : Nat) (enc : α→List Value) (w : World) (xss : List (List α)) (s : DSrc) : Value→World→Prop:=fun v w'=>Gr b (b + 1) w w'∧Blk w' b (Y1 cv s).toArray T∧yT e e2 sz enc w.heap.size w' v xss
abbrev RSN (T : Nat) (cv : Value) (w : World) (s : DSrc) : Value→World→Prop:=fun v w'=>Ext w w'∧∃ b,v = .pointer (some ⟨b,0,none⟩)∧w.heap.size≤b∧Blk w' b (Y1 cv s).toArray T
section
variable {P : Program} {N : Nat} {Q : yb} {σ : Fr} {w : World} {ops : Array Oper} {rest : List Oper} {o : Oper}
end
section
variable {P : Program} {N : Nat} {Q : yb} {σ : Fr} {w : World} {ops : Array Oper} {rest : List Oper} {o : Oper}
end
def VH (dn : Nat→Bool) (i : Nat) : Nat→Bool:=fun j=>Nat.beq j i || dn j
theorem VZ {dn : Nat→Bool} {i j : Nat} (h : VH dn i j = true) : j = i∨dn j = true:=by
 unfold VH at h
 rw [Bool.or_eq_true] at h
 exact h.imp Nat.eq_of_beq_eq_true id
theorem Vt {dn : Nat→Bool} {i j : Nat} (h : VH dn i j = false) : j ≠ i∧dn j = false:=by
 unfold VH at h
 rw [Bool.or_eq_false_iff] at h
 exact ⟨fun e=>by (rw [e,Nat.beq_refl] at h; exact absurd h.1 (by decide)),h.2⟩
theorem WL.post1 {P : Program} {N : Nat} {ops : Array Oper} {o : Oper} {σ : Fr} {w : World} {R R' : Fr → World → Prop} (h : WL P N ops (fun e σ w => match e with | .normal => R σ w | _ => False) [o] σ w) (hq : ∀ σ w, R σ w → R' σ w) :
    WL P N ops (fun e σ w=>match e with | .normal=>R' σ w | _=>False) [o] σ w:=fun a ha=>by
  have h1:=h a ha
  unfold wpList at h1 ⊢
  have hn : ∀ a'' w'',wpList P ops (Qn N fun e σ w=>match e with | .normal=>R σ w | _=>False) [] a'' w''→wpList P ops (Qn N fun e σ w=>match e with | .normal=>R' σ w | _=>False) [] a'' w'':=fun a'' w'' ⟨σ'',hr,hx⟩=>⟨σ'',hr,hq _ _ hx⟩
  split
  · rename_i hw
    rw [if_pos hw] at h1
    rcases h1 with h1 | ⟨_,hlo⟩
    · left
      have h5:=Oper.wp_mono (fun a'' w'' h=>hn a'' w'' h) h1
      unfold Oper.wp at h5 ⊢
      refine Q8 (fun ch a w h=>?_) (fun h=>?_) h5
      · obtain ⟨_,_,h⟩:=h; exact h.elim
      · obtain ⟨_,_,_,_,h⟩:=h; exact h.elim
    · obtain ⟨_,_,_,_,h⟩:=hlo; exact h.elim
  · rename_i hw
    rw [if_neg hw] at h1
    exact hn _ _ h1
theorem Jm {l : List Oper} {j i : Nat} (h : yg l j i = true) : ∃ o e,l[j]? = some o∧e ∈ o.after.toList∧Region.binds .any e = true∧e.on = i:=by
 simp only [yg] at h
 split at h
 ·rename_i o ho
  simp only [dep,List.any_eq_true,Bool.and_eq_true] at h
  obtain ⟨e,he,hb,hj⟩:=h
  exact ⟨o,e,ho,he,hb,Nat.eq_of_beq_eq_true hj⟩
 ·cases h
theorem Gx {l : List Oper} {j : Nat} {o : Oper} (ho : l[j]? = some o) (i : Nat) : yg l j i = dep o i:=by simp only [yg,ho]
def Qa (N : Nat) : List Oper→Nat→Bool
  | [],_=>true
  | o :: r,n=>(match o.dst with | some d=>!isD r d && Nat.blt d N | none=>true) && (o.after.toList.all fun e=>!Region.binds .any e || Nat.blt e.on n) && Qa N r (n + 1)
theorem Xe {N : Nat} : ∀ (l : List Oper) (n : Nat),Qa N l n = true→∀ i o,l[i]? = some o→(∀ d,o.dst = some d→d < N)∧(∀ e ∈ o.after.toList,Region.binds .any e = true→e.on < n + i):=by
 intro l
 induction l with
 | nil=>intro n _ i o h; simp at h
 | cons x r ih=>
  intro n hk i o h
  simp only [Qa,Bool.and_eq_true] at hk
  obtain ⟨⟨h1,h2⟩,h3⟩:=hk
  cases i with
  | zero=>
   simp at h; subst h
   refine ⟨fun d hd=>?_,fun e he hb=>?_⟩
   ·rw [hd] at h1; simp at h1; simpa [Nat.blt_eq] using h1.2
   ·have:=List.all_eq_true.1 h2 e he
    simp [hb] at this
    simpa using this
  | succ i=>
   obtain ⟨h5,h6⟩:=ih (n + 1) h3 i o (by simpa using h)
   exact ⟨h5,fun e he hb=>by have:=h6 e he hb; omega⟩
theorem Xc {N : Nat} : ∀ (l : List Oper) (n : Nat),Qa N l n = true→∀ (i j : Nat) (oi oj : Oper) (d : Nat),l[i]? = some oi→l[j]? = some oj→oi.dst = some d→oj.dst = some d→i = j:=by
 intro l
 induction l with
 | nil=>intro n _ i j oi oj d h; simp at h
 | cons x r ih=>
  intro n hk i j oi oj d hi hj hdi hdj
  simp only [Qa,Bool.and_eq_true] at hk
  obtain ⟨⟨h1,h2⟩,h3⟩:=hk
  cases i with
  | zero=>
   cases j with
   | zero=>rfl
   | succ j=>
    simp at hi; subst hi
    rw [hdi] at h1; simp at h1
    have:=Vp r j oj d (by simpa using hj) hdj
    rw [this] at h1; simp at h1
  | succ i=>
   cases j with
   | zero=>
    simp at hj; subst hj
    rw [hdj] at h1; simp at h1
    have:=Vp r i oi d (by simpa using hi) hdi
    rw [this] at h1; simp at h1
   | succ j=>exact congrArg (· + 1) (ih (n + 1) h3 i j oi oj d (by simpa using hi) (by simpa using hj) hdi hdj)
def Keep (lo hi : Nat) (L : Value→World→Prop) : Prop:=∀ v w w',Gr lo hi w w'→L v w→L v w'
def Gc (lo hi : Nat) : List (Value→World→Prop)→Prop
 | []=>True
 | l :: r=>Keep lo hi l∧Gc lo hi r
theorem Gc.get {lo hi : Nat} {l : List (Value→World→Prop)} (h : Gc lo hi l) : ∀ i v w w',Gr lo hi w w'→l.getD i (fun _ _=>True) v w→l.getD i (fun _ _=>True) v w':=by
 induction l with
 | nil=>intro i v w w' _ _; simp
 | cons a r ih=>
  intro i v w w' k hh
  cases i with
  | zero=>exact h.1 v w w' k hh
  | succ i=>exact ih h.2 i v w w' k hh
def Qe (l : List Oper) (j : Nat) : Bool:=match l[j]? with
 | some o=>o.dst.isSome
 | none=>false
theorem Vr {l : List Oper} {j : Nat} (h : Qe l j = true) : ∃ o d,l[j]? = some o∧o.dst = some d:=by
 unfold Qe at h
 split at h
 ·rename_i o ho
  obtain ⟨d,hd⟩:=Option.isSome_iff_exists.1 h
  exact ⟨o,d,ho,hd⟩
 ·cases h
def Step1R (l1 : List Oper) (L : List (Value→World→Prop)) (hd : Nat→Bool) (R : World→World→Prop) (Inv : (Nat→Bool)→World→Prop) (dn : Nat→Bool) (i : Nat) (σ' : Fr) (w' : World) (σ'' : Fr) (w'' : World) : Prop:=
  (match Qe l1 i with | true=>∃ v,σ'' = upd σ' (vn l1 i) v∧L.getD i (fun _ _=>True) v w'' | false=>σ'' = σ')∧(match hd i with | true=>R w' w''∧Inv (VH dn i) w'' | false=>Ext w' w'')
def StepVR (P : Program) (N : Nat) (l1 l : List Oper) (L : List (Value→World→Prop)) (hd : Nat→Bool) (cs : List (Nat × Nat × List Nat)) (R : World→World→Prop) (Inv : (Nat→Bool)→World→Prop) (σ : Fr) (w : World) (i : Nat) (o : Oper) : Prop:=
  ∀ σ' w' (dn : Nat→Bool),R w w'→Inv dn w'→dn i = false→(∀ j,bef cs i j = true→dn j = true)→(∀ j,bef cs j i = true→dn j = false)→
    (∀ t,isD l1 t = false→σ' t = σ t)→(∀ j,dep o j = true→Qe l1 j = true→L.getD j (fun _ _=>True) (σ' (vn l1 j)) w')→(∀ j,yg l1 j i = true→Qe l1 j = true→σ' (vn l1 j) = σ (vn l1 j))→
    WL P N l.toArray (fun e σ'' w''=>match e with | .normal=>Step1R l1 L hd R Inv dn i σ' w' σ'' w'' | _=>False) [o] σ' w'
def Step1 (l1 : List Oper) (L : List (Value→World→Prop)) (hd : Nat→Bool) (lo hi : Nat) (Inv : (Nat→Bool)→World→Prop) (dn : Nat→Bool) (i : Nat) (σ' : Fr) (w' : World) (σ'' : Fr) (w'' : World) : Prop:=
  (match Qe l1 i with | true=>∃ v,σ'' = upd σ' (vn l1 i) v∧L.getD i (fun _ _=>True) v w'' | false=>σ'' = σ')∧(match hd i with | true=>Gr lo hi w' w''∧Inv (VH dn i) w'' | false=>Ext w' w'')
def StepV (P : Program) (N : Nat) (l1 l : List Oper) (L : List (Value→World→Prop)) (hd : Nat→Bool) (cs : List (Nat × Nat × List Nat)) (lo hi : Nat) (Inv : (Nat→Bool)→World→Prop) (σ : Fr) (w : World) (i : Nat) (o : Oper) : Prop:=
  ∀ σ' w' (dn : Nat→Bool),Gr lo hi w w'→Inv dn w'→dn i = false→(∀ j,bef cs i j = true→dn j = true)→(∀ j,bef cs j i = true→dn j = false)→
    (∀ t,isD l1 t = false→σ' t = σ t)→(∀ j,dep o j = true→Qe l1 j = true→L.getD j (fun _ _=>True) (σ' (vn l1 j)) w')→(∀ j,yg l1 j i = true→Qe l1 j = true→σ' (vn l1 j) = σ (vn l1 j))→
    WL P N l.toArray (fun e σ'' w''=>match e with | .normal=>Step1 l1 L hd lo hi Inv dn i σ' w' σ'' w'' | _=>False) [o] σ' w'
theorem XG {P : Program} {N : Nat} {Q : yb} {σ : Fr} {w : World} {id : Nat} {l1 l2 : List Oper} (J : (Nat → Bool) → Fr → World → Prop) (hm : P.follows .mixedOrders = true)
    (hbk : ∀ i o,l1[i]? = some o→∀ e ∈ o.after.toList,Region.binds .any e = true→e.on < i) (hch : Qr l1.length (l1 ++ l2) = true)
    (h0 : ∀ dn : Nat→Bool,(∀ j,j < l1.length→dn j = false)→J dn σ { w with drawn:=w.drawn + 1 })
    (hst : ∀ i o,l1[i]? = some o→∀ dn σ' w',J dn σ' w'→dn i = false→(∀ j,yg l1 i j = true→dn j = true)→(∀ j,dn j = true→∀ c,yg l1 j c = true→dn c = true)→
      WL P N (l1 ++ l2).toArray (fun e σ'' w''=>match e with | .normal=>J (VH dn i) σ'' w'' | _=>False) [o] σ' w')
    (hend : ∀ σ' w' (dn : Nat→Bool),(∀ j,j < l1.length→dn j = true)→J dn σ' w'→WL P N (l1 ++ l2).toArray Q l2 σ' w') : W P N (.region id (l1 ++ l2).toArray true) Q σ w:=by
  intro a ha
  refine wp_region_any hm ?_
  obtain ⟨l,hl⟩ : ∃ l,l1 ++ l2 = l:=⟨_,rfl⟩
  have hlen : l1.length≤l.length:=by rw [← hl]; simp
  have hget : ∀ j,j < l1.length→l[j]? = l1[j]?:=fun j hj=>by rw [← hl,List.getElem?_append_left hj]
  have hdrop : l.length - l1.length = l2.length:=by rw [← hl]; simp
  rw [hl] at hch hst hend ⊢
  have hlast : ∀ σ' a' w' fuel (listed : Array Bool), Rep N a' σ' → listed.size = l.length → J (fun j => listed.getD j true) σ' w' →
      (∀ j,j < l1.length→listed.getD j true = true)→(∀ j,l1.length≤j→j < l.length→listed.getD j true = false)→l.length - l1.length≤fuel→wpAny P .any l.toArray (Qn N Q) fuel listed a' w':=by
    intro σ' a' w' fuel listed hrep hsz hJ hall hN hf
    refine XX hch (l.length - l1.length) l1.length fuel listed a' w' (by omega) (Nat.le_refl _) hsz (fun j hj=>?_) hf ?_
    · by_cases e : j < l1.length
      · rw [hall j e,decide_eq_true e]
      · rw [hN j (by omega) hj,decide_eq_false e]
    · have h1:=hend σ' w' _ hall hJ a' hrep
      rw [hdrop,wpOps_eq_wpList l2 l1.length fun j=>by rw [List.getElem?_toArray,← hl,List.getElem?_append_right (by omega),Nat.add_sub_cancel_left]]
      exact h1
  have key : ∀ (fuel : Nat) (listed : Array Bool) (σ' : Fr) (a' : Act) (w' : World), listed.size = l.length → Rep N a' σ' → J (fun j => listed.getD j true) σ' w' →
      (∀ j o,l1[j]? = some o→listed.getD j true = true→∀ e ∈ o.after.toList,Region.binds .any e = true→listed.getD e.on true = true)→
      (∀ j,l1.length≤j→j < l.length→listed.getD j true = false)→
      (List.range l1.length).countP (fun j=>!listed.getD j true) + (l.length - l1.length)≤fuel→wpAny P .any l.toArray (Qn N Q) fuel listed a' w':=by
    have hnone : ∀ (listed : Array Bool) ,listed.size = l.length→Region.ready .any l.toArray listed = []→∀ j,j < l1.length→listed.getD j true = true:=by
      intro listed hsz hr j
      induction j using Nat.strongRecOn with
      | _ j ih=>
        intro hj
        cases hlj : listed.getD j true with
        | true=>rfl
        | false=>
          exfalso
          have : j ∈ Region.ready .any l.toArray listed:=by
            simp only [Region.ready,List.mem_filter,List.mem_range]
            refine ⟨by simp; omega,?_⟩
            have ho : l.toArray[j]? = some l1[j]:=by rw [List.getElem?_toArray,hget j hj]; simp [hj]
            rw [hlj,ho]
            simp only [Bool.not_false,Bool.true_and,Option.map_some,Option.getD_some]
            rw [← Array.all_toList,List.all_eq_true]
            intro e he
            have hb:=hbk j l1[j] (by simp [hj])
            cases hbd : Region.binds .any e with
            | false=>rfl
            | true=>
              have hlt:=hb e he hbd
              have hlt' : e.on < j:=by omega
              have:=ih e.on hlt' (by omega)
              simp only [Bool.not_true,Bool.false_or]
              have hs : e.on < listed.size:=by omega
              simpa [Array.getD,hs] using this
          rw [hr] at this
          simp at this
    intro fuel
    induction fuel with
    | zero=>
      intro listed σ' a' w' hsz hrep hJ hC hN hcnt
      have hall : ∀ j,j < l1.length→listed.getD j true = true:=by
        intro j hj
        have:=List.countP_eq_zero.1 (show (List.range l1.length).countP (fun j=>!listed.getD j true) = 0 by omega) j (by simpa using hj)
        simpa using this
      exact hlast σ' a' w' 0 listed hrep hsz hJ hall hN (by omega)
    | succ fuel ih=>
      intro listed σ' a' w' hsz hrep hJ hC hN hcnt
      by_cases hall : ∀ j,j < l1.length→listed.getD j true = true
      · exact hlast σ' a' w' (fuel + 1) listed hrep hsz hJ hall hN (by omega)
      refine ⟨fun hr=>absurd (hnone listed hsz hr) hall,fun i hi=>?_⟩
      simp only [Region.ready,List.mem_filter,List.mem_range,Bool.and_eq_true,Bool.not_eq_true'] at hi
      obtain ⟨hil,hi1,hi2⟩:=hi
      have hilf : i < l.length:=by simpa using hil
      have hi1' : listed.getD i true = false:=by simpa using hi1
      have hil' : i < l1.length:=by
        refine Classical.byContradiction fun hge=>?_
        by_cases hgt : l1.length < i
        · have hd:=(Qp hch hilf (by omega)).2.1 hgt
          have hgo : l[i]? = some l[i]:=by simp [hilf]
          have ho : l.toArray[i]? = some l[i]:=by simp [hilf]
          rw [ho] at hi2
          simp only [Option.map_some,Option.getD_some] at hi2
          rw [← Array.all_toList,List.all_eq_true] at hi2
          unfold yg at hd
          rw [hgo] at hd
          simp only [dep,List.any_eq_true,Bool.and_eq_true] at hd
          obtain ⟨e,he,hbd,hej⟩:=hd
          have hej' : e.on = i - 1:=Nat.eq_of_beq_eq_true hej
          have h3:=hi2 e he
          rw [hbd,hej'] at h3
          simp only [Bool.not_true,Bool.false_or] at h3
          have hs : i - 1 < listed.size:=by omega
          have h4:=hN (i - 1) (by omega) (by omega)
          simp [Array.getD,hs] at h3 h4
          rw [h3] at h4; cases h4
        refine hall fun j hj=>?_
        have hd:=(Qp hch hilf (by omega)).1 (by omega) j (by omega)
        have hgo : l[i]? = some l[i]:=by simp [hilf]
        have ho : l.toArray[i]? = some l[i]:=by simp [hilf]
        rw [ho] at hi2
        simp only [Option.map_some,Option.getD_some] at hi2
        rw [← Array.all_toList,List.all_eq_true] at hi2
        unfold yg at hd
        rw [hgo] at hd
        simp only [dep,List.any_eq_true,Bool.and_eq_true] at hd
        obtain ⟨e,he,hbd,hej⟩:=hd
        have hej' : e.on = j:=Nat.eq_of_beq_eq_true hej
        have h3:=hi2 e he
        rw [hbd,hej'] at h3
        simp only [Bool.not_true,Bool.false_or] at h3
        have hs : j < listed.size:=by omega
        simpa [Array.getD,hs] using h3
      have hgo : l1[i]? = some l1[i]:=by simp [hil']
      have ho : l.toArray[i]? = some l1[i]:=by rw [List.getElem?_toArray,hget i hil',hgo]
      have hb:=hbk i l1[i] hgo
      rw [ho] at hi2
      simp only [Option.map_some,Option.getD_some] at hi2
      rw [← Array.all_toList,List.all_eq_true] at hi2
      have hlist : ∀ e ∈ (l1[i]).after.toList,Region.binds .any e = true→listed.getD e.on true = true:=by
        intro e he hbd
        have h3:=hi2 e he
        rw [hbd] at h3
        simp only [Bool.not_true,Bool.false_or] at h3
        have hlt:=hb e he hbd
        have hs : e.on < listed.size:=by omega
        simpa [Array.getD,hs] using h3
      have hdep : ∀ c,yg l1 i c = true→listed.getD c true = true:=by
        intro c hc
        simp only [yg,hgo,dep,List.any_eq_true,Bool.and_eq_true] at hc
        obtain ⟨e,he,hbd,hej⟩:=hc
        have hej' : e.on = c:=Nat.eq_of_beq_eq_true hej
        subst hej'
        exact hlist e he hbd
      have hdepL : ∀ j,listed.getD j true = true→∀ c,yg l1 j c = true→listed.getD c true = true:=by
        intro j hj c hc
        simp only [yg] at hc
        split at hc
        · rename_i oj hoj
          simp only [dep,List.any_eq_true,Bool.and_eq_true] at hc
          obtain ⟨e,he,hbd,hej⟩:=hc
          have hej' : e.on = c:=Nat.eq_of_beq_eq_true hej
          subst hej'
          exact hC j oj hoj hj e he hbd
        · cases hc
      have hwp:=hst i l1[i] hgo (fun j=>listed.getD j true) σ' w' hJ hi1' hdep hdepL a' hrep
      have hnext : ∀ a'' w'', Qn N (fun e σ'' w'' => match e with | .normal => J (VH (fun j => listed.getD j true) i) σ'' w'' | _ => False) .normal a'' w'' →
          wpAny P .any l.toArray (Qn N Q) fuel (listed.setIfInBounds i true) a'' w'':=by
        rintro a'' w'' ⟨σ'',hrep'',hJ''⟩
        have hset : ∀ j,j < l.length→(listed.setIfInBounds i true).getD j true = (if j = i then true else listed.getD j true):=by
          intro j hj
          rw [Array.getD_eq_getD_getElem?,Array.getElem?_setIfInBounds,Array.getD_eq_getD_getElem?]
          by_cases e : j = i
          · subst e; simp [hsz,hj]
          · have : ¬ i = j:=fun h=>e h.symm
            simp [e,this]
        have hsetD : VH (fun j=>listed.getD j true) i = fun j=>(listed.setIfInBounds i true).getD j true:=by
          funext j
          unfold VH
          by_cases hj : j < l.length
          · rw [hset j hj]
            by_cases e : j = i
            · subst e; simp
            · have : Nat.beq j i = false:=by
                cases hb : Nat.beq j i with
                | false=>rfl
                | true=>exact absurd (Nat.eq_of_beq_eq_true hb) e
              show (Nat.beq j i || listed.getD j true) = _
              rw [this,if_neg e]; rfl
          · have h1 : listed.getD j true = true:=by
              have : ¬ j < listed.size:=by omega
              simp [Array.getD,this]
            have h2 : (listed.setIfInBounds i true).getD j true = true:=by
              have : ¬ j < listed.size:=by omega
              simp [Array.getD,this]
            show (Nat.beq j i || listed.getD j true) = _
            rw [h1,h2]; simp
        rw [hsetD] at hJ''
        refine ih _ _ a'' w'' (by simp [hsz]) hrep'' hJ'' (fun j o' ho' hlj e he hbd=>?_) (fun j hj1 hj2=>?_) ?_
        · have hjl : j < l1.length:=(List.getElem?_eq_some_iff.1 ho').1
          have hlt:=hbk j o' ho' e he hbd
          rw [hset _ (by omega)]
          split
          · rfl
          · by_cases e' : j = i
            · subst e'
              rw [hgo] at ho'
              injection ho' with ho'
              subst ho'
              exact hlist e he hbd
            · rw [hset j (by omega),if_neg e'] at hlj
              exact hC j o' ho' hlj e he hbd
        · rw [hset j hj2,if_neg (by omega)]
          exact hN j hj1 hj2
        · have hc : (List.range l1.length).countP (fun j=>!(listed.setIfInBounds i true).getD j true) < (List.range l1.length).countP (fun j=>!listed.getD j true):=by
            refine Xn _ _ l1.length i hil' (by simp [hi1']) (by simp [hset i hilf]) (fun j hj hji=>?_)
            rw [hset j (by omega),if_neg hji]
          omega
      have hwp1:=hwp
      unfold wpList at hwp1
      unfold wpOp
      rw [ho]
      simp only []
      split
      · rename_i hw
        rw [if_pos hw] at hwp1
        rcases hwp1 with hwp1 | ⟨_,hlo⟩
        · left
          have h5 : (l1[i]).wp P a' w' (wpAny P .any l.toArray (Qn N Q) fuel (listed.setIfInBounds i true)) (Qn N (fun e σ'' w''=>match e with | .normal=>J (VH (fun j=>listed.getD j true) i) σ'' w'' | _=>False)):=
            Oper.wp_mono (fun a'' w'' h=>hnext a'' w'' h) hwp1
          unfold Oper.wp at h5 ⊢
          refine Q8 (fun ch a w h=>?_) (fun h=>?_) h5
          · obtain ⟨_,_,h⟩:=h; exact h.elim
          · obtain ⟨_,_,_,_,h⟩:=h; exact h.elim
        · obtain ⟨_,_,_,_,h⟩:=hlo; exact h.elim
      · rename_i hw
        rw [if_neg hw] at hwp1
        exact hnext _ _ hwp1
  refine key _ _ σ a _ (by simp) ⟨ha.size,ha.defers,ha.get⟩ (h0 _ fun j hj=>?_) (fun j o ho hlj=>?_) (fun j hj1 hj2=>?_) ?_
  · have hjl : j < l.length:=by omega
    simp [Array.getD,hjl]
  · have hjl : j < l.length:=by have:=(List.getElem?_eq_some_iff.1 ho).1; omega
    simp [Array.getD,hjl] at hlj
  · simp [Array.getD,hj2]
  · have h1:=List.countP_le_length (p:=fun j=>!(Array.replicate l.toArray.size false).getD j true) (l:=List.range l1.length)
    simp only [List.length_range] at h1
    simp only [List.size_toArray] at h1 ⊢
    omega
theorem Xx {l : List Oper} {dn : Nat→Bool} (hC : ∀ j,dn j = true→∀ c,yg l j c = true→dn c = true) (j : Nat) : ∀ (cs : List Nat) (i : Nat),YO l j i cs = true→(∀ c,yg l i c = true→dn c = true)→dn j = true:=by
 intro cs
 induction cs with
 | nil=>intro i h hd; exact hd j h
 | cons c r ih=>
  intro i h hd
  simp only [YO,Bool.and_eq_true] at h
  exact ih c h.2 (hC c (hd c h.1))
theorem YU {l : List Oper} {cs : List (Nat × Nat × List Nat)} (hcs : Yc l cs = true) {dn : Nat→Bool} (hC : ∀ j,dn j = true→∀ c,yg l j c = true→dn c = true) {i j : Nat} (h : bef cs i j = true) (hd : ∀ c,yg l i c = true→dn c = true) : dn j = true:=by
 simp only [bef,List.any_eq_true,Bool.and_eq_true] at h
 obtain ⟨c,hc,h1,h2⟩:=h
 have:=List.all_eq_true.1 hcs c hc
 rw [Nat.eq_of_beq_eq_true h1,Nat.eq_of_beq_eq_true h2] at this
 exact Xx hC j c.2.2 i this hd
theorem Xf {l : List Oper} {cs : List (Nat × Nat × List Nat)} (hcs : Yc l cs = true) {dn : Nat→Bool} (hC : ∀ j,dn j = true→∀ c,yg l j c = true→dn c = true) {i j : Nat} (h : bef cs j i = true) (hi : dn i = false) : dn j = false:=by
 cases hj : dn j with
 | false=>rfl
 | true=>have:=YU hcs hC h (hC j hj); rw [hi] at this; cases this
theorem JU {l : List Oper} {dn : Nat→Bool} (hC : ∀ j,dn j = true→∀ c,yg l j c = true→dn c = true) {i j : Nat} (h : yg l j i = true) (hi : dn i = false) : dn j = false:=by
 cases hj : dn j with
 | false=>rfl
 | true=>have:=hC j hj i h; rw [hi] at this; cases this
theorem W_drawSR {P : Program} {N : Nat} {Q : yb} {σ : Fr} {w : World} {id : Nat} {l1 l2 : List Oper} (R : World → World → Prop) (hRe : ∀ a b, Ext a b → R a b) (hRt : ∀ a b c, R a b → R b c → R a c) (L : List (Value → World → Prop)) (hd : Nat → Bool) (cs : List (Nat × Nat × List Nat)) (Inv : (Nat → Bool) → World → Prop) (hm : P.follows .mixedOrders = true)
    (hok : Qa N l1 0 = true) (hch : Qr l1.length (l1 ++ l2) = true) (hcs : Yc l1 cs = true)
    (hkeep : ∀ i v w w',R w w'→L.getD i (fun _ _=>True) v w→L.getD i (fun _ _=>True) v w')
    (hinv : ∀ dn w w',Ext w w'→Inv dn w→Inv dn w') (hsoft : ∀ dn i w,hd i = false→Inv dn w→Inv (VH dn i) w) (h0 : ∀ dn : Nat→Bool,(∀ j,j < l1.length→dn j = false)→Inv dn w)
    (hst : Q4 (StepVR P N l1 (l1 ++ l2) L hd cs R Inv σ w) l1 0)
    (hend : ∀ σ' w' (dn : Nat→Bool),R w w'→(∀ j,Nat.blt j l1.length = true→dn j = true)→Inv dn w'→(∀ t,isD l1 t = false→σ' t = σ t)→(∀ j,Nat.blt j l1.length = true→Qe l1 j = true→L.getD j (fun _ _=>True) (σ' (vn l1 j)) w')→WL P N (l1 ++ l2).toArray Q l2 σ' w') : W P N (.region id (l1 ++ l2).toArray true) Q σ w:=by
  have hkeepσ : ∀ i σ' σ'' (v : Value),(match Qe l1 i with | true=>σ'' = upd σ' (vn l1 i) v | false=>σ'' = σ')→∀ t,(Qe l1 i = true→t ≠ vn l1 i)→σ'' t = σ' t:=by
    intro i σ' σ'' v h t ht
    cases hh : Qe l1 i with
    | true=>rw [hh] at h; rw [h,Ve _ _ _ _ (ht hh)]
    | false=>rw [hh] at h; rw [h]
  have hne : ∀ i j,Qe l1 j = true→Qe l1 i = true→j ≠ i→vn l1 j ≠ vn l1 i:=by
    intro i j hj hi' hji he
    obtain ⟨oj,dj,h1,h2⟩:=Vr hj
    obtain ⟨oi,di,h3,h4⟩:=Vr hi'
    have e1 : vn l1 j = dj:=by simp [vn,h1,h2]
    have e2 : vn l1 i = di:=by simp [vn,h3,h4]
    rw [e1,e2] at he
    subst he
    exact hji (Xc l1 0 hok j i oj oi dj h1 h3 h2 h4)
  have hlt : ∀ j,Qe l1 j = true→j < l1.length:=fun j hx=>by
    obtain ⟨oj,dj,h1,h2⟩:=Vr hx
    exact (List.getElem?_eq_some_iff.1 h1).1
  refine XG (fun dn σ' w'=>R w w'∧Inv dn w'∧(∀ t,isD l1 t = false→σ' t = σ t)∧(∀ j,Qe l1 j = true→dn j = true→L.getD j (fun _ _=>True) (σ' (vn l1 j)) w')∧(∀ j,Qe l1 j = true→dn j = false→σ' (vn l1 j) = σ (vn l1 j))) hm
    (fun i o ho e he hb=>by have:=(Xe l1 0 hok i o ho).2 e he hb; omega) hch (fun dn hd=>⟨hRe _ _ (Ext.drew w),hinv _ _ _ (Ext.drew w) (h0 dn hd),fun _ _=>rfl,fun j hx h=>absurd ((hd j (hlt j hx)).symm.trans h) (by decide),fun _ _ _=>rfl⟩) ?_
    (fun σ' w' dn hall ⟨hE,hI,hB,hP,_⟩=>hend σ' w' dn hE (fun j hj=>hall j (by simpa using hj)) hI hB fun j hj hx=>hP j hx (hall j (by simpa using hj)))
  intro i o ho dn σ' w' ⟨hE,hI,hB,hP,hU⟩ hdi hdep hC
  have hs:=Jw l1 0 hst i o ho
  rw [Nat.zero_add] at hs
  refine WL.post1 (hs σ' w' dn hE hI hdi (fun j hj=>YU hcs hC hj hdep) (fun j hj=>Xf hcs hC hj hdi) hB (fun j hj hx=>hP j hx (hdep j (by rw [Gx ho]; exact hj))) fun j hj hx=>hU j hx (JU hC hj hdi)) fun σ'' w'' h=>?_
  obtain ⟨hval,hmem⟩:=h
  have hE' : R w' w'':=by
    cases hh : hd i with
    | true=>rw [hh] at hmem; exact hmem.1
    | false=>rw [hh] at hmem; exact hRe _ _ hmem
  have hI' : Inv (VH dn i) w'':=by
    cases hh : hd i with
    | true=>rw [hh] at hmem; exact hmem.2
    | false=>rw [hh] at hmem; exact hsoft _ i _ hh (hinv _ _ _ hmem hI)
  obtain ⟨v,hv,hLv⟩ : ∃ v,(match Qe l1 i with | true=>σ'' = upd σ' (vn l1 i) v | false=>σ'' = σ')∧(Qe l1 i = true→L.getD i (fun _ _=>True) v w''):=by
    cases hh : Qe l1 i with
    | true=>rw [hh] at hval; obtain ⟨v,h1,h2⟩:=hval; exact ⟨v,h1,fun _=>h2⟩
    | false=>rw [hh] at hval; exact ⟨undef,hval,fun h=>by cases h⟩
  refine ⟨hRt _ _ _ hE hE',hI',fun t ht=>?_,fun j hx hj=>?_,fun j hx hj=>?_⟩
  · rw [hkeepσ i σ' σ'' v hv t fun hx e=>?_]
    · exact hB t ht
    · obtain ⟨oi,di,h3,h4⟩:=Vr hx
      have e2 : vn l1 i = di:=by simp [vn,h3,h4]
      rw [e2] at e
      rw [e,Vp l1 i oi di h3 h4] at ht
      cases ht
  · by_cases e : j = i
    · subst e
      rw [hx] at hv
      rw [hv,Qh]
      exact hLv hx
    · rw [hkeepσ i σ' σ'' v hv _ fun hi'=>hne i j hx hi' e]
      exact hkeep _ _ _ _ hE' (hP j hx ((VZ hj).resolve_left e))
  · obtain ⟨e,hj'⟩:=Vt hj
    rw [hkeepσ i σ' σ'' v hv _ fun hi'=>hne i j hx hi' e]
    exact hU j hx hj'
theorem W_drawSC {P : Program} {N : Nat} {Q : yb} {σ : Fr} {w : World} {id : Nat} {l1 l2 : List Oper} {lo hi : Nat} (L : List (Value→World→Prop)) (hd : Nat→Bool) (cs : List (Nat × Nat × List Nat)) (Inv : (Nat→Bool)→World→Prop) (hm : P.follows .mixedOrders = true)
  (hok : Qa N l1 0 = true) (hch : Qr l1.length (l1 ++ l2) = true) (hcs : Yc l1 cs = true)
  (hkeep : ∀ i v w w',Gr lo hi w w'→L.getD i (fun _ _=>True) v w→L.getD i (fun _ _=>True) v w')
  (hinv : ∀ dn w w',Ext w w'→Inv dn w→Inv dn w') (hsoft : ∀ dn i w,hd i = false→Inv dn w→Inv (VH dn i) w) (h0 : ∀ dn : Nat→Bool,(∀ j,j < l1.length→dn j = false)→Inv dn w)
  (hst : Q4 (StepV P N l1 (l1 ++ l2) L hd cs lo hi Inv σ w) l1 0)
  (hend : ∀ σ' w' (dn : Nat→Bool),Gr lo hi w w'→(∀ j,Nat.blt j l1.length = true→dn j = true)→Inv dn w'→(∀ t,isD l1 t = false→σ' t = σ t)→(∀ j,Nat.blt j l1.length = true→Qe l1 j = true→L.getD j (fun _ _=>True) (σ' (vn l1 j)) w')→WL P N (l1 ++ l2).toArray Q l2 σ' w') : W P N (.region id (l1 ++ l2).toArray true) Q σ w:=
 W_drawSR (Gr lo hi) (fun _ _ h=>Gr.ext h) (fun _ _ _ h k=>h.trans k) L hd cs Inv hm hok hch hcs hkeep hinv hsoft h0 hst hend
theorem Yw (l : List Oper) : Qr l.length l = true:=by
 unfold Qr
 rw [List.all_eq_true]
 intro k hk
 have : Nat.blt k l.length = true:=by rw [Nat.blt_eq]; exact List.mem_range.1 hk
 rw [this]; rfl
theorem W_drawJ0 {P : Program} {N : Nat} {Q : yb} {σ : Fr} {w : World} {id : Nat} {l : List Oper} (J : (Nat → Bool) → Fr → World → Prop) (hm : P.follows .mixedOrders = true)
    (hbk : ∀ i o,l[i]? = some o→∀ e ∈ o.after.toList,Region.binds .any e = true→e.on < i)
    (h0 : ∀ dn : Nat→Bool,(∀ j,j < l.length→dn j = false)→J dn σ { w with drawn:=w.drawn + 1 })
    (hst : ∀ i o,l[i]? = some o→∀ dn σ' w',J dn σ' w'→dn i = false→(∀ j,yg l i j = true→dn j = true)→(∀ j,dn j = true→∀ c,yg l j c = true→dn c = true)→
      WL P N l.toArray (fun e σ'' w''=>match e with | .normal=>J (VH dn i) σ'' w'' | _=>False) [o] σ' w')
    (hend : ∀ σ' w' (dn : Nat→Bool),(∀ j,j < l.length→dn j = true)→J dn σ' w'→Q .normal σ' w') : W P N (.region id l.toArray true) Q σ w:=by
  have h:=XG (P:=P) (N:=N) (Q:=Q) (σ:=σ) (w:=w) (id:=id) (l1:=l) (l2:=[]) J hm hbk (by rw [List.append_nil]; exact Yw l) h0 (by rw [List.append_nil]; exact hst) fun σ' w' dn a b=>qZ (hend σ' w' dn a b)
  rw [List.append_nil] at h
  exact h
theorem Xk {N : Nat} : ∀ (l : List Oper) (n : Nat),jP N l n = true→Qa N l n = true:=by
 intro l
 induction l with
 | nil=>intro n _; rfl
 | cons x r ih=>
  intro n h
  simp only [jP,Qa,Bool.and_eq_true] at h ⊢
  obtain ⟨⟨h1,h2⟩,h3⟩:=h
  refine ⟨⟨?_,h2⟩,ih _ h3⟩
  cases hd : x.dst with
  | none=>rfl
  | some d=>rw [hd] at h1; simpa using h1
theorem QX {N : Nat} {l : List Oper} (h : jP N l 0 = true) {j : Nat} (hj : j < l.length) : Qe l j = true:=by
 obtain ⟨d,hd,_⟩:=jA l 0 h j l[j] (by simp [hj])
 simp [Qe,hj,hd]
theorem Gr.to {w w' : World} (h : Gr 0 0 w w') : Ext w w':=⟨h.os,h.tape,h.output,h.size,fun k hk=>h.block k hk (by omega)⟩
theorem JK {f g : Nat→Oper→Prop} : ∀ (l : List Oper) (n : Nat),(∀ i o,l[i]? = some o→f (n + i) o→g (n + i) o)→Q4 f l n→Q4 g l n:=by
 intro l
 induction l with
 | nil=>intro n _ _; trivial
 | cons x r ih=>exact fun n h hf=>⟨h 0 x rfl hf.1,ih (n + 1) (fun i o ho hi=>by have:=h (i + 1) o (by simpa using ho); rw [show n + (i + 1) = n + 1 + i from by omega] at this; exact this hi) hf.2⟩
theorem W_drawC {P : Program} {N : Nat} {Q : yb} {σ : Fr} {w : World} {id : Nat} {l1 l2 : List Oper} (L : List (Value→World→Prop)) (hm : P.follows .mixedOrders = true) (hok : jP N l1 0 = true) (hch : Qr l1.length (l1 ++ l2) = true)
  (hmono : ∀ i v w w',Ext w w'→L.getD i (fun _ _=>True) v w→L.getD i (fun _ _=>True) v w')
  (hst : Q4 (StepC P N l1 (l1 ++ l2) L σ w) l1 0)
  (hend : ∀ σ' w',Ext w w'→(∀ t,isD l1 t = false→σ' t = σ t)→(∀ j,Nat.blt j l1.length = true→L.getD j (fun _ _=>True) (σ' (vn l1 j)) w')→WL P N (l1 ++ l2).toArray Q l2 σ' w') : W P N (.region id (l1 ++ l2).toArray true) Q σ w:=by
 refine W_drawSC (lo:=0) (hi:=0) L (fun _=>false) [] (fun _ _=>True) hm (Xk l1 0 hok) hch rfl (fun i v w w' h=>hmono i v w w' h.to) (fun _ _ _ _ h=>h) (fun _ _ _ _ h=>h) (fun _ _=>trivial)
  (JK l1 0 (fun i o ho hs σ' w' dn hE _ _ _ _ hB hP hU=>?_) hst) fun σ' w' dn hE _ _ hB hP=>hend σ' w' hE.to hB fun j hj=>hP j hj (QX hok (by simpa using hj))
 rw [Nat.zero_add] at hs hU ⊢
 have hl:=(List.getElem?_eq_some_iff.1 ho).1
 have hi:=QX hok hl
 refine WL.post1 (hs σ' w' hE.to hB (fun j hj=>?_) fun j hj=>?_) fun σ'' w'' ⟨v,h1,h2,h3⟩=>⟨by rw [hi]; exact ⟨v,h1,h3⟩,h2⟩
 ·obtain ⟨oj,e,h1,h2,h3,h4⟩:=Jm (l:=l1) (j:=i) (i:=j) (by rw [Gx ho]; exact hj)
  obtain ⟨_,_,_,hb⟩:=jA l1 0 hok i oj h1
  exact hP j hj (QX hok (by have:=hb e h2 h3; omega))
 ·obtain ⟨oj,e,h1,h2,h3,h4⟩:=Jm hj
  exact hU j hj (QX hok (List.getElem?_eq_some_iff.1 h1).1)
theorem W_draw {P : Program} {N : Nat} {Q : yb} {σ : Fr} {w : World} {id : Nat} {l : List Oper} (L : List (Value→World→Prop)) (hm : P.follows .mixedOrders = true) (hok : jP N l 0 = true)
  (hmono : ∀ i v w w',Ext w w'→L.getD i (fun _ _=>True) v w→L.getD i (fun _ _=>True) v w')
  (hst : Q4 (StepAt P N l L σ w) l 0)
  (hend : ∀ σ' w',Ext w w'→(∀ t,isD l t = false→σ' t = σ t)→(∀ j,Nat.blt j l.length = true→L.getD j (fun _ _=>True) (σ' (vn l j)) w')→Q .normal σ' w') : W P N (.region id l.toArray true) Q σ w:=by
 have h:=W_drawC (P:=P) (N:=N) (Q:=Q) (σ:=σ) (w:=w) (id:=id) (l1:=l) (l2:=[]) L hm hok (by rw [List.append_nil]; exact Yw l) hmono (by rw [List.append_nil]; exact hst) fun σ' w' a b c=>qZ (hend σ' w' a b c)
 rw [List.append_nil] at h
 exact h
theorem W_drawM {P : Program} {N : Nat} {Q : yb} {σ : Fr} {w : World} {id : Nat} {l : List Oper} (L : List (Value→World→Prop)) (hm : P.follows .mixedOrders = true) (hok : jP N l 0 = true) (hmono : j8 L) (hst : Q4 (StepAt P N l L σ w) l 0)
  (hend : ∀ σ' w',Ext w w'→(∀ t,isD l t = false→σ' t = σ t)→(∀ j,Nat.blt j l.length = true→L.getD j (fun _ _=>True) (σ' (vn l j)) w')→Q .normal σ' w') : W P N (.region id l.toArray true) Q σ w:=
 W_draw L hm hok hmono.get hst hend
def StepPG (P : Program) (N : Nat) (l : List Oper) (L : List (Value→World→Prop)) (F : List DF) (p q : Nat) (D : Value→Value→Prop) (on : Bool) (B : Nat) (σ : Fr) (w : World) (i : Nat) (o : Oper) : Prop:=
  ∀ σ' w' (c : Bool),Below B w w'→((F.getD i df0).early = true→Ext w w')→(∀ t,isD l t = false→σ' t = σ t)→(∀ j,(F.getD i df0).uses j = true→L.getD j (fun _ _=>True) (σ' (vn l j)) w')→(∀ j,yg l j i = true→σ' (vn l j) = σ (vn l j))→
    (i = p→(on && c) = true→L.getD q (fun _ _=>True) (σ' (vn l q)) w')→(i = q→(on && c) = true→L.getD p (fun _ _=>True) (σ' (vn l p)) w')→(on = true→(F.getD i df0).uses p = true→(F.getD i df0).uses q = true→D (σ' (vn l p)) (σ' (vn l q)))→
    WL P N l.toArray (fun e σ'' w''=>match e with | .normal=>∃ v,σ'' = upd σ' (vn l i) v∧DRel (F.getD i df0).soft B w' w''∧L.getD i (fun _ _=>True) v w''∧(i = p→(on && c) = true→D v (σ' (vn l q)))∧(i = q→(on && c) = true→D (σ' (vn l p)) v) | _=>False) [o] σ' w'
theorem W_drawPG {P : Program} {N : Nat} {Q : yb} {σ : Fr} {w : World} {id : Nat} {l : List Oper} {B : Nat} (L : List (Value→World→Prop)) (F : List DF) (cs : List (Nat × Nat × List Nat)) (p q r : Nat) (D : Value→Value→Prop) (on : Bool) (hon : on = true→Nat.beq p q = false∧(Nat.blt p l.length && Nat.blt q l.length && Nat.blt r l.length && (F.getD r df0).uses p && (F.getD r df0).uses q) = true) (hm : P.follows .mixedOrders = true) (hok : J2 N l F cs = true)
  (hB : B≤w.heap.size) (hall : Gk F L) (hst : Q4 (StepPG P N l L F p q D on B σ w) l 0)
  (hend : ∀ σ' w',Below B w w'→(∀ t,isD l t = false→σ' t = σ t)→(∀ j,Nat.blt j l.length = true→(F.getD j df0).fin = true→L.getD j (fun _ _=>True) (σ' (vn l j)) w')→Q .normal σ' w') : W P N (.region id l.toArray true) Q σ w:=by
 simp only [J2,Bool.and_eq_true] at hok
 obtain ⟨⟨⟨⟨hok,hcs⟩,hea⟩,hal⟩,hus⟩:=hok
 have huse : ∀ (f : DF) (j : Nat),f.uses j = true→j ∈ f.use:=by
  intro f j h
  simp only [DF.uses,List.any_eq_true] at h
  obtain ⟨c,hc,hcj⟩:=h
  have : c = j:=Nat.eq_of_beq_eq_true hcj
  exact this ▸ hc
 have hud : ∀ i j,i < l.length→(F.getD i df0).uses j = true→yg l i j = true:=fun i j hi h=>List.all_eq_true.1 (List.all_eq_true.1 hus i (by simpa using hi)) j (huse _ _ h)
 have hdl : ∀ i j,yg l i j = true→i < l.length∧j < l.length:=by
  intro i j h
  obtain ⟨o,e,h1,h2,h3,h4⟩:=Jm h
  have hi:=(List.getElem?_eq_some_iff.1 h1).1
  obtain ⟨_,_,_,hb⟩:=jA l 0 hok i o h1
  have:=hb e h2 h3
  exact ⟨hi,by omega⟩
 have hne : ∀ i j,i < l.length→j < l.length→j ≠ i→vn l j ≠ vn l i:=by
  intro i j hi hj hji he
  obtain ⟨dj,hdj,_,_⟩:=jA l 0 hok j l[j] (by simp [hj])
  obtain ⟨di,hdi,_,_⟩:=jA l 0 hok i l[i] (by simp [hi])
  have e1 : vn l j = dj:=by simp [vn,hj,hdj]
  have e2 : vn l i = di:=by simp [vn,hi,hdi]
  rw [e1,e2] at he
  subst he
  exact hji (X4 l 0 hok j i l[j] l[i] dj (by simp [hj]) (by simp [hi]) hdj hdi)
 refine W_drawJ0 (fun dn σ' w'=>Below B w w'∧((∀ m,m < l.length→(F.getD m df0).soft = false→dn m = false)→Ext w w')∧(∀ t,isD l t = false→σ' t = σ t)∧(on = true→dn p = true→dn q = true→D (σ' (vn l p)) (σ' (vn l q)))∧
   (∀ j,j < l.length→dn j = true→((F.getD j df0).fin = true∨∃ c,c < l.length∧(F.getD c df0).uses j = true∧dn c = false)→L.getD j (fun _ _=>True) (σ' (vn l j)) w')∧(∀ j,j < l.length→dn j = false→σ' (vn l j) = σ (vn l j))) hm
  (fun i o ho e he hb=>by obtain ⟨_,_,_,h⟩:=jA l 0 hok i o ho; have:=h e he hb; omega)
  (fun dn hd=>⟨Below.mono (Ext.drew w) hB,fun _=>Ext.drew w,fun _ _=>rfl,fun ho hp=>absurd ((hd p (by have:=(hon ho).2; simp only [Bool.and_eq_true,Nat.blt_eq] at this; exact this.1.1.1.1)).symm.trans hp) (by decide),fun j hj h=>absurd ((hd j hj).symm.trans h) (by decide),fun _ _ _=>rfl⟩) ?_
  (fun σ' w' dn hdn ⟨hE,_,hFr,_,hP,_⟩=>hend σ' w' hE hFr fun j hj hf=>hP j (by simpa using hj) (hdn j (by simpa using hj)) (.inl hf))
 intro i o ho dn σ' w' ⟨hE,hX,hFr,hD,hP,hU⟩ hi hdep hC
 have hil:=(List.getElem?_eq_some_iff.1 ho).1
 obtain ⟨d,hd,_,_⟩:=jA l 0 hok i o ho
 have hdi : vn l i = d:=by simp [vn,ho,hd]
 have hs:=Jw l 0 hst i o ho
 rw [Nat.zero_add] at hs
 have hearly : (F.getD i df0).early = true→Ext w w':=by
  intro he
  refine hX fun m hml hms=>?_
  have h1:=List.all_eq_true.1 hea i (by simpa using hil)
  rw [he] at h1
  simp only [Bool.not_true,Bool.false_or] at h1
  have h2:=List.all_eq_true.1 h1 m (by simpa using hml)
  rw [hms] at h2
  simp only [Bool.false_or,Bool.or_eq_true] at h2
  rcases h2 with h2 | h2
  ·rw [Nat.eq_of_beq_eq_true h2]; exact hi
  ·exact Xf hcs hC h2 hi
 have hpr : on = true→p ≠ q∧p < l.length∧q < l.length∧r < l.length∧(F.getD r df0).uses p = true∧(F.getD r df0).uses q = true:=by
  intro h
  obtain ⟨h1,h2⟩:=hon h
  simp only [Bool.and_eq_true,Nat.blt_eq] at h2
  exact ⟨fun e=>by (rw [e,Nat.beq_refl] at h1; cases h1),h2.1.1.1.1,h2.1.1.1.2,h2.1.1.2,h2.1.2,h2.2⟩
 have hand : ∀ {c : Bool},(on && c) = true→on = true∧c = true:=fun h=>by simpa using h
 refine WL.post1 (hs σ' w' (if i = p then dn q else dn p) hE hearly hFr (fun j hj=>hP j (hdl i j (hud i j hil hj)).2 (hdep j (hud i j hil hj)) (.inr ⟨i,hil,hj,hi⟩)) (fun j hj=>hU j (hdl j i hj).1 (JU hC hj hi))
  (fun hip hc=>by
   obtain ⟨h1,h2⟩:=hand hc
   obtain ⟨_,hp,hq,hr,hrp,hrq⟩:=hpr h1
   rw [if_pos hip] at h2
   exact hP q hq h2 (.inr ⟨r,hr,hrq,JU hC (hud r p hr hrp) (hip ▸ hi)⟩))
  (fun hiq hc=>by
   obtain ⟨h1,h2⟩:=hand hc
   obtain ⟨hpq,hp,hq,hr,hrp,hrq⟩:=hpr h1
   rw [if_neg fun e=>hpq (e.symm.trans hiq)] at h2
   exact hP p hp h2 (.inr ⟨r,hr,hrp,JU hC (hud r q hr hrq) (hiq ▸ hi)⟩))
  (fun h h1 h2=>hD h (hdep p (hud i p hil h1)) (hdep q (hud i q hil h2)))) ?_
 rintro σ'' w'' ⟨v,rfl,hE',hLi,hDp,hDq⟩
 have hBw' : B≤w'.heap.size:=Nat.le_trans hB hE.size
 have hB'' : Below B w' w'':=by
  cases hso : (F.getD i df0).soft with
  | true=>rw [hso] at hE'; exact Below.mono hE' hBw'
  | false=>rw [hso] at hE'; exact hE'
 have hup : ∀ j,j < l.length→j ≠ i→upd σ' (vn l i) v (vn l j) = σ' (vn l j):=fun j hj e=>Ve _ _ _ _ (hne i j hil hj e)
 refine ⟨hE.trans hB'',fun hall2=>?_,fun t ht=>?_,fun h hl1 hl2=>?_,fun j hj hl hal2=>?_,fun j hj hl=>?_⟩
 ·cases hso : (F.getD i df0).soft with
  | true=>rw [hso] at hE'; exact Ext.trans (hX fun m hml hms=>(Vt (hall2 m hml hms)).2) hE'
  | false=>exact absurd rfl (Vt (hall2 i hil hso)).1
 ·rw [Ve _ _ _ _ fun e=>?_]
  ·exact hFr t ht
  ·rw [hdi] at e; rw [e,Vp l i o d ho hd] at ht; cases ht
 ·obtain ⟨hpq,hp,hq,_⟩:=hpr h
  by_cases hip : i = p
  ·subst hip
   have hl2':=(VZ hl2).resolve_left fun e=>hpq e.symm
   have h9:=hDp rfl (by rw [if_pos rfl,h]; exact hl2')
   rw [Qh,hup q hq fun e=>hpq e.symm]; exact h9
  ·have hl1':=(VZ hl1).resolve_left fun e=>hip e.symm
   by_cases hiq : i = q
   ·subst hiq
    have h9:=hDq rfl (by rw [if_neg hip,h]; exact hl1')
    rw [Qh,hup p hp fun e=>hip e.symm]; exact h9
   ·rw [hup p hp fun e=>hip e.symm,hup q hq fun e=>hiq e.symm]
    exact hD h hl1' ((VZ hl2).resolve_left fun e=>hiq e.symm)
 ·by_cases e : j = i
  ·subst e; rw [Qh]; exact hLi
  ·have hl':=(VZ hl).resolve_left e
   rw [hup j hj e]
   have hLj:=hP j hj hl' (hal2.imp (fun h=>h) fun ⟨c,h1,h2,h3⟩=>⟨c,h1,h2,(Vt h3).2⟩)
   obtain ⟨hmo,hri⟩:=hall.get j
   cases hso : (F.getD i df0).soft with
   | true=>rw [hso] at hE'; exact hmo _ _ _ hE' hLj
   | false=>
    have h1:=List.all_eq_true.1 hal i (by simpa using hil)
    rw [hso,Bool.false_or] at h1
    have h2:=List.all_eq_true.1 h1 j (by simpa using hj)
    simp only [Bool.or_eq_true,Bool.and_eq_true] at h2
    rcases h2 with ((h2 | h2) | h2) | h2
    ·exact hri h2 _ _ _ hLj
    ·exact absurd (Nat.eq_of_beq_eq_true h2) e
    ·have:=Xf hcs hC h2 hi
     rw [hl'] at this; cases this
    ·exfalso
     obtain ⟨h3,h4⟩:=h2
     rcases hal2 with h5 | ⟨c,h5,h6,h7⟩
     ·rw [h5] at h3; cases h3
     ·have h8:=List.all_eq_true.1 h4 c (by simpa using h5)
      rw [h6] at h8
      simp only [Bool.not_true,Bool.false_or,Bool.or_eq_true] at h8
      obtain ⟨h9,h10⟩:=Vt h7
      rcases h8 with h8 | h8
      ·exact h9 (Nat.eq_of_beq_eq_true h8)
      ·have:=YU hcs hC h8 hdep
       rw [h10] at this; cases this
 ·obtain ⟨e,hl'⟩:=Vt hl
  rw [hup j hj e]
  exact hU j hj hl'
theorem W_drawR {P : Program} {N : Nat} {Q : yb} {σ : Fr} {w : World} {id : Nat} {l : List Oper} {B : Nat} (L : List (Value→World→Prop)) (F : List DF) (cs : List (Nat × Nat × List Nat)) (hm : P.follows .mixedOrders = true) (hok : J2 N l F cs = true)
  (hB : B≤w.heap.size) (hall : Gk F L) (hst : Q4 (StepR P N l L F B σ w) l 0)
  (hend : ∀ σ' w',Below B w w'→(∀ t,isD l t = false→σ' t = σ t)→(∀ j,Nat.blt j l.length = true→(F.getD j df0).fin = true→L.getD j (fun _ _=>True) (σ' (vn l j)) w')→Q .normal σ' w') : W P N (.region id l.toArray true) Q σ w:=by
 exact W_drawPG L F cs 0 0 0 (fun _ _=>True) false (fun h=>by cases h) hm hok hB hall (JK l 0 (fun i o _ h σ' w' c a1 a2 a3 a4 a5 _ _ _=>WL.post1 (h σ' w' a1 a2 a3 a4 a5) fun σ'' w'' ⟨v,h1,h2,h3⟩=>⟨v,h1,h2,h3,fun _ _=>trivial,fun _ _=>trivial⟩) hst) hend
def srcAt : List (Nat × DSrc)→DSrc→(Nat→Bool)→DSrc
 | [],s,_=>s
 | (h,s) :: r,s0,dn=>bif dn h then s else srcAt r s0 dn
abbrev InvS (T b : Nat) (cv : Value) (hs : List (Nat × DSrc)) (s0 : DSrc) : (Nat→Bool)→World→Prop:=fun dn w=>Blk w b (Y1 cv (srcAt hs s0 dn)).toArray T
abbrev LOp {α : Type} [Inhabited α] (e : TypeId) (sz : Nat) (enc : α→List Value) (B : Nat) (xs : List α) (i : Int) : Value→World→Prop:=fun v w=>∃ u p,v = .pointer (some p)∧OP e sz enc B w u xs i p
section
variable {P : Program} {N : Nat} {Q : yb} {σ : Fr} {w : World} {ops : Array Oper} {rest : List Oper} {o : Oper}
theorem HB2.zero {w : World} {A : Option Addr} {n : Nat} : HB2 w (.slice A 0 0) n:=by
 refine ⟨.inl ⟨A,rfl⟩,fun vs hR i u hu=>?_⟩
 obtain ⟨A',c',hv,_⟩:=hR
 injection hv with _ h2 _
 have : vs = []:=List.eq_nil_of_length_eq_zero (by omega)
 subst this; simp at hu
theorem HB2.mono {w : World} {v : Value} {a b : Nat} (h : HB2 w v a) (k : a≤b) : HB2 w v b:=⟨h.1.mono k,fun vs hR i u hu=>(h.2 vs hR i u hu).mono k⟩
end
section
variable {P : Program} {N : Nat} {Q : yb} {σ : Fr} {w w1 : World} {ops : Array Oper} {rest : List Oper} {o : Oper} {d g j : Nat} {v : Value} {b b' : Bool}
theorem bb {a c : Bool} (h : (a && c) = true) : a = true∧c = true:=by simpa using h
def opd (N : Nat) (o : Oper) : Option Nat:=bif o.guard.isNone then o.dst.bind fun d=>bif Nat.blt d N then some d else none else none
theorem Yl (h : opd N o = some d) : o.dst = some d∧(o.guard.isNone && Nat.blt d N) = true:=by
 unfold opd at h
 cases hg : o.guard.isNone with
 | false=>rw [hg] at h; cases h
 | true=>
  rw [hg] at h
  cases hd : o.dst with
  | none=>rw [hd] at h; cases h
  | some x=>
   rw [hd] at h
   simp only [cond_true,Option.bind_some] at h
   cases hx : Nat.blt x N with
   | false=>rw [hx] at h; cases h
   | true=>rw [hx] at h; cases h; exact ⟨rfl,by rw [hx]; rfl⟩
theorem lp (hd : opd N o = some d) (hx : Ex P σ w o.op v w1) (h : WL P N ops Q rest (upd σ d v) w1) : WL P N ops Q (o :: rest) σ w:=
 vm (.plain (by simpa using (bb (Yl hd).2).1)) (Yl hd).1 (ltb (bb (Yl hd).2).2) hx h
theorem lg (hg : o.guard = some (j,b)) (hj : (ops[j]?).bind (·.dst) = some g) (hd : o.dst = some d) (hc : (Nat.blt g N && Nat.blt d N) = true) (hv : σ g = .bool b) (hx : Ex P σ w o.op v w1) (h : WL P N ops Q rest (upd σ d v) w1) : WL P N ops Q (o :: rest) σ w:=
 vm (.guard j b g hg hj (ltb (bb hc).1) hv) hd (ltb (bb hc).2) hx h
theorem lt (ht : Tk N ops σ o) (hd : o.dst = some d) (hc : Nat.blt d N = true) (hx : Ex P σ w o.op v w1) (h : WL P N ops Q rest (upd σ d v) w1) : WL P N ops Q (o :: rest) σ w:=
 vm ht hd (ltb hc) hx h
theorem ls (hg : o.guard = some (j,b)) (hj : (ops[j]?).bind (·.dst) = some g) (hd : o.dst = some d) (hv : σ g = .bool b') (hc : (Nat.blt g N && Nat.blt d N && !(b' == b)) = true) (h : WL P N ops Q rest (upd σ d undef) w) : WL P N ops Q (o :: rest) σ w:=
 Xm hg hj (ltb (bb (bb hc).1).1) hv (by simpa using (bb hc).2) hd (ltb (bb (bb hc).1).2) h
theorem lu (hg : o.guard = some (j,b)) (hj : (ops[j]?).bind (·.dst) = some g) (hd : o.dst = some d) (hv : σ g = undef) (hc : (Nat.blt g N && Nat.blt d N) = true) (h : WL P N ops Q rest (upd σ d undef) w) : WL P N ops Q (o :: rest) σ w:=
 Gb hg hj (ltb (bb hc).1) hv hd (ltb (bb hc).2) h
theorem lc {f : Nat} {xs : Array Operand} {ts : Array TypeId} {vs : Array Value} {u : Value} (hd : opd N o = some d)
  (ho : o.op = .call { callee:=.value (.func f),args:=xs,argTypes:=ts }) (hf : ∀ args w,(callFunc f args).run P w = .ok (.enter f args) w)
  (hC : Calls P f vs w (Rt (RP w u))) (hvs : xs.toList.map (ev σ) = vs.toList) (h : ∀ w1,Ext w w1→WL P N ops Q rest (upd σ d u) w1) : WL P N ops Q (o :: rest) σ w:=
 vY (.plain (by simpa using (bb (Yl hd).2).1)) (Yl hd).1 (ltb (bb (Yl hd).2).2) ho hf hC hvs h
theorem tg (hg : o.guard = some (j,b)) (hj : (ops[j]?).bind (·.dst) = some g) (hc : Nat.blt g N = true) (hv : σ g = .bool b) : Tk N ops σ o:=.guard j b g hg hj (ltb hc) hv
theorem cb {a c : Bool} (h : a = c) : Value.bool a = Value.bool c:=congrArg Value.bool h
theorem si {α : Type} {a c : α} (h : some a = some c) : a = c:=Option.some.inj h
theorem xm (u : Value) {x : Operand} (h : ev σ x = u) : Ex P σ w (.move x) u w:=qd h
theorem xa (u : Value) {x : Operand} (h : ev σ x = u) : Ex P σ w (.assign x) u w:=qz h
theorem qm {u : Value} : jv (LEq u):=LEq.mono
theorem lm {c : Bool} {u : Value} : jv (LIf c (LEq u)):=LIf.mono LEq.mono
theorem od {p : Prop} [Decidable p] (h : decide p = true) : p:=of_decide_eq_true h
theorem er {a : World} : Ext a a:=Ext.refl a
theorem Ext.t {a c e : World} (h : Ext a c) (k : Ext c e) : Ext a e:=Ext.trans h k
theorem nx {K : Fr→World→Prop} (h : K σ w) : WL P N ops (thn K Q) [] σ w:=qZ (qf h)
theorem wr {id : Nat} {l : List Oper} {y : Code} (h : WL P N l.toArray (thn (fun σ w=>W P N y Q σ w) Q) l σ w) : W P N (.seq (.region id l.toArray false) y) Q σ w:=qi (qK h)
variable {kp : List (Nat × Nat)} {s0 : Fr} {d1 d2 d3 d4 d5 d6 d7 : Nat} {v1 v2 v3 v4 v5 v6 v7 : Value}
theorem ob {a c : Bool} (h : (a || c) = false) : a = false∧c = false:=by simpa using h
theorem kz : Kp kp s0 s0:=Kp.refl _ _
theorem ku1 (h : Kp kp s0 σ) (hd : nin kp d = false) : Kp kp s0 (upd σ d v):=Kp.upd h hd
theorem ku2 (h : Kp kp s0 σ) (hd : (nin kp d || nin kp d1) = false) : Kp kp s0 (upd (upd σ d v) d1 v1):=Kp.upd (Kp.upd h (ob hd).1) (ob hd).2
theorem ku3 (h : Kp kp s0 σ) (hd : (nin kp d || nin kp d1 || nin kp d2) = false) : Kp kp s0 (upd (upd (upd σ d v) d1 v1) d2 v2):=Kp.upd (ku2 h (ob hd).1) (ob hd).2
theorem ku4 (h : Kp kp s0 σ) (hd : (nin kp d || nin kp d1 || nin kp d2 || nin kp d3) = false) : Kp kp s0 (upd (upd (upd (upd σ d v) d1 v1) d2 v2) d3 v3):=Kp.upd (ku3 h (ob hd).1) (ob hd).2
theorem ku8 (h : Kp kp s0 σ) (hd : (nin kp d || nin kp d1 || nin kp d2 || nin kp d3 || (nin kp d4 || nin kp d5 || nin kp d6 || nin kp d7)) = false) : Kp kp s0 (upd (upd (upd (upd (upd (upd (upd (upd σ d v) d1 v1) d2 v2) d3 v3) d4 v4) d5 v5) d6 v6) d7 v7):=
 ku4 (ku4 h (ob hd).1) (ob hd).2
end
def SQ (l : List Oper) (L : List (Value→World→Prop)) (σ' : Fr) (w' : World) (i : Nat) : yb:=
  fun e σ'' w''=>match e with | .normal=>∃ v,σ'' = upd σ' (vn l i) v∧Ext w' w''∧L.getD i (fun _ _=>True) v w'' | _=>False
def StepK (P : Program) (N : Nat) (l : List Oper) (ops : Array Oper) (L : List (Value→World→Prop)) (σ : Fr) (w : World) (i : Nat) (o : Oper) : Prop:=
 ∀ σ' w',Ext w w'→(∀ t,isD l t = false→σ' t = σ t)→(∀ j,dep o j = true→L.getD j (fun _ _=>True) (σ' (vn l j)) w')→(∀ j,yg l j i = true→σ' (vn l j) = σ (vn l j))→WL P N ops (SQ l L σ' w' i) [o] σ' w'
theorem Jf {P : Program} {N : Nat} {Q : yb} {σ : Fr} {w : World} {id : Nat} {l : List Oper} (L : List (Value→World→Prop)) (hm : P.follows .mixedOrders = true) (hok : jP N l 0 = true) (hmono : j8 L) (hst : Q4 (StepK P N l l.toArray L σ w) l 0)
  (hend : ∀ σ' w',Ext w w'→(∀ t,isD l t = false→σ' t = σ t)→(∀ j,Nat.blt j l.length = true→L.getD j (fun _ _=>True) (σ' (vn l j)) w')→Q .normal σ' w') : W P N (.region id l.toArray true) Q σ w:=
 W_drawM L hm hok hmono hst hend
section
variable {P : Program} {N : Nat} {σ' : Fr} {w w' : World} {ops : Array Oper} {o : Oper} {l : List Oper} {L : List (Value → World → Prop)} {Lr : Value → World → Prop} {i d : Nat} {v : Value} {c : Bool}
theorem se (hi : vn l i = d) (hL : L.getD i (fun _ _=>True) v w') : WL P N ops (SQ l L σ' w' i) [] (upd σ' d v) w':=qZ ⟨v,by rw [hi],Ext.refl _,hL⟩
theorem sx (hi : vn l i = d) (he : Ext w' w) (hL : L.getD i (fun _ _=>True) v w) : WL P N ops (SQ l L σ' w' i) [] (upd σ' d v) w:=qZ ⟨v,by rw [hi],he,hL⟩
theorem sg (hi : vn l i = d) (hL : L.getD i (fun _ _=>True) = LIf c Lr) (hc : c = true) (h : Lr v w') : WL P N ops (SQ l L σ' w' i) [] (upd σ' d v) w':=
 se hi (by rw [hL]; exact ⟨fun _=>h,fun h=>absurd (hc.symm.trans h) (by decide)⟩)
theorem sgx (hi : vn l i = d) (hL : L.getD i (fun _ _=>True) = LIf c Lr) (hc : c = true) (he : Ext w' w) (h : Lr v w) : WL P N ops (SQ l L σ' w' i) [] (upd σ' d v) w:=
 sx hi he (by rw [hL]; exact ⟨fun _=>h,fun h=>absurd (hc.symm.trans h) (by decide)⟩)
theorem sn (hi : vn l i = d) (hL : L.getD i (fun _ _=>True) = LIf c Lr) (hc : c = false) : WL P N ops (SQ l L σ' w' i) [] (upd σ' d undef) w':=
 se hi (by rw [hL]; exact ⟨fun h=>absurd (hc.symm.trans h) (by decide),fun _=>rfl⟩)
variable {j g : Nat} {x cj : Bool}
theorem gT (hg : o.guard = some (j,true)) (hj : (ops[j]?).bind (·.dst) = some g) (hd : o.dst = some d) (hc : (Nat.blt g N && Nat.blt d N && Nat.beq (vn l i) d) = true) (hv : σ' g = .bool x) (hL : L.getD i (fun _ _=>True) = LIf x Lr)
  (h : x = true→Tk N ops σ' o→WL P N ops (SQ l L σ' w' i) [o] σ' w') : WL P N ops (SQ l L σ' w' i) [o] σ' w':=by
 have hi:=Nat.eq_of_beq_eq_true (bb hc).2
 cases x with
 | true=>exact h rfl (.guard j true g hg hj (ltb (bb (bb hc).1).1) hv)
 | false=>exact Xm hg hj (ltb (bb (bb hc).1).1) hv rfl hd (ltb (bb (bb hc).1).2) (sn hi hL rfl)
theorem gF (hg : o.guard = some (j,false)) (hj : (ops[j]?).bind (·.dst) = some g) (hd : o.dst = some d) (hc : (Nat.blt g N && Nat.blt d N && Nat.beq (vn l i) d) = true) (hv : σ' g = .bool x) (hL : L.getD i (fun _ _=>True) = LIf (!x) Lr)
  (h : (!x) = true→Tk N ops σ' o→WL P N ops (SQ l L σ' w' i) [o] σ' w') : WL P N ops (SQ l L σ' w' i) [o] σ' w':=by
 have hi:=Nat.eq_of_beq_eq_true (bb hc).2
 cases x with
 | false=>exact h rfl (.guard j false g hg hj (ltb (bb (bb hc).1).1) hv)
 | true=>exact Xm hg hj (ltb (bb (bb hc).1).1) hv rfl hd (ltb (bb (bb hc).1).2) (sn hi hL rfl)
theorem hT (hg : o.guard = some (j,true)) (hj : (ops[j]?).bind (·.dst) = some g) (hd : o.dst = some d) (hc : (Nat.blt g N && Nat.blt d N && Nat.beq (vn l i) d) = true) (hv : LIf cj (LEq (.bool x)) (σ' g) w') (hL : L.getD i (fun _ _=>True) = LIf (cj && x) Lr)
  (h : (cj && x) = true→Tk N ops σ' o→WL P N ops (SQ l L σ' w' i) [o] σ' w') : WL P N ops (SQ l L σ' w' i) [o] σ' w':=by
 cases cj with
 | false=>exact Gb hg hj (ltb (bb (bb hc).1).1) (hv.2 rfl) hd (ltb (bb (bb hc).1).2) (sn (Nat.eq_of_beq_eq_true (bb hc).2) hL rfl)
 | true=>exact gT hg hj hd hc (hv.1 rfl) hL h
theorem hF (hg : o.guard = some (j,false)) (hj : (ops[j]?).bind (·.dst) = some g) (hd : o.dst = some d) (hc : (Nat.blt g N && Nat.blt d N && Nat.beq (vn l i) d) = true) (hv : LIf cj (LEq (.bool x)) (σ' g) w') (hL : L.getD i (fun _ _=>True) = LIf (cj && !x) Lr)
  (h : (cj && !x) = true→Tk N ops σ' o→WL P N ops (SQ l L σ' w' i) [o] σ' w') : WL P N ops (SQ l L σ' w' i) [o] σ' w':=by
 cases cj with
 | false=>exact Gb hg hj (ltb (bb (bb hc).1).1) (hv.2 rfl) hd (ltb (bb (bb hc).1).2) (sn (Nat.eq_of_beq_eq_true (bb hc).2) hL rfl)
 | true=>exact gF hg hj hd hc (hv.1 rfl) hL h
theorem QW {a c b : Operand} {X Y : Bool} (hc : ev σ' c = .bool X) (hb : ev σ' b = .bool false) (ha : X = true→ev σ' a = .bool Y) : Ex P σ' w (.pick c a b) (.bool (X && Y)) w:=by
 cases X with
 | true=>exact qF hc (ha rfl)
 | false=>exact qF hc hb
theorem jV {a c b : Operand} {X Y : Bool} (hc : ev σ' c = .bool X) (ha : ev σ' a = .bool true) (hb : X = false→ev σ' b = .bool Y) : Ex P σ' w (.pick c a b) (.bool (X || Y)) w:=by
 cases X with
 | true=>exact qF hc ha
 | false=>exact qF hc (hb rfl)
end
section
variable {P : Program} {N : Nat} {σ' : Fr} {w w' : World} {ops : Array Oper} {l : List Oper} {L : List (Value → Prop)} {ia is i d b b' : Nat} {c1 c0 : Array Value} {T : TypeId} {v : Value}
end
def Rd3 {α : Type} (sz : Nat) (enc : α→List Value) (w : World) (v : Value) (X : List (List (List α))) : Prop:=
 ∃ us : List Value,us.length = X.length∧Rd 1 QV w v us∧∀ (i : Nat) (u : Value) (x : List (List α)),us[i]? = some u→X[i]? = some x→Rd2 sz enc w u x
theorem Rd3.ext {α : Type} {sz : Nat} {enc : α→List Value} {w w' : World} {v : Value} {X : List (List (List α))} (h : Rd3 sz enc w v X) (k : Ext w w') : Rd3 sz enc w' v X:=by
 obtain ⟨us,hl,hR,hi⟩:=h
 exact ⟨us,hl,hR.ext k,fun i u x h1 h2=>(hi i u x h1 h2).ext k⟩
def J3 {α : Type} (sz : Nat) (enc : α→List Value) (w : World) : List Value→List (List (List α))→Prop
 | [],[]=>True
 | v :: vs,x :: X=>Rd2 sz enc w v x∧J3 sz enc w vs X
 | _,_=>False
theorem J3.spec {α : Type} {sz : Nat} {enc : α→List Value} {w : World} : ∀ {vs : List Value} {X : List (List (List α))},J3 sz enc w vs X→vs.length = X.length∧(∀ (i : Nat) (u : Value) (x : List (List α)),vs[i]? = some u→X[i]? = some x→Rd2 sz enc w u x)∧(vs.map fun v=>v.cells.toList).flatten = vs.flatMap QV:=by
 intro vs
 induction vs with
 | nil=>intro X h; cases X with
  | nil=>exact ⟨rfl,fun i u x h=>by simp at h,rfl⟩
  | cons x X=>exact h.elim
 | cons v vs ih=>
  intro X h
  cases X with
  | nil=>exact h.elim
  | cons x X=>
   obtain ⟨h1,h2⟩:=h
   obtain ⟨i1,i2,i3⟩:=ih h2
   refine ⟨by simp [i1],fun i u y a b=>?_,?_⟩
   ·cases i with
    | zero=>simp at a b; subst a; subst b; exact h1
    | succ i=>exact i2 i u y (by simpa using a) (by simpa using b)
   ·rw [List.map_cons,List.flatten_cons,List.flatMap_cons,i3,h1.cs]
theorem Rd3.new {α : Type} {sz : Nat} {enc : α→List Value} {w : World} {b : Nat} {e : TypeId} {vs : List Value} {X : List (List (List α))} (k : Blk w b ⟨(vs.map fun v=>v.cells.toList).flatten⟩ e) (h : J3 sz enc w vs X) (hm : vs.length≤9223372036854775807) :
  Rd3 sz enc w (.slice (some ⟨b,0,none⟩) vs.length vs.length) X:=by
 obtain ⟨h1,h2,h3⟩:=h.spec
 exact ⟨vs,h1,Ow.rd (Ow.new (base:=0) k (Nat.zero_le _) h3 (fun _ _=>rfl) hm),h2⟩
theorem Rd2.one {α : Type} {sz : Nat} {enc : α→List Value} {w : World} {v : Value} {xs : List (List α)} (h : Rd2 sz enc w v xs) : v.cells.size = 1:=by rw [h.cs]; rfl
abbrev LRd2 {α : Type} (sz : Nat) (enc : α→List Value) (xs : List (List α)) : Value→World→Prop:=fun v w=>Rd2 sz enc w v xs
abbrev LRd3 {α : Type} (sz : Nat) (enc : α→List Value) (xs : List (List (List α))) : Value→World→Prop:=fun v w=>Rd3 sz enc w v xs
abbrev LOw2 {α : Type} (e e2 : TypeId) (sz : Nat) (enc : α→List Value) (base : Nat) (xs : List (List α)) : Value→World→Prop:=fun v w=>yT e e2 sz enc base w v xs
theorem LRd2.mono {α : Type} {sz : Nat} {enc : α→List Value} {xs : List (List α)} : jv (LRd2 sz enc xs):=fun _ _ _ k h=>Rd2.ext h k
theorem LRd3.mono {α : Type} {sz : Nat} {enc : α→List Value} {xs : List (List (List α))} : jv (LRd3 sz enc xs):=fun _ _ _ k h=>Rd3.ext h k
theorem LOw2.mono {α : Type} {e e2 : TypeId} {sz base : Nat} {enc : α→List Value} {xs : List (List α)} : jv (LOw2 e e2 sz enc base xs):=fun _ _ _ k h=>yT.ext h k
def OwnB {α : Type} (e e2 : TypeId) (sz : Nat) (enc : α→List Value) (bo bi : Nat) (w : World) (v : Value) (xss : List (List α)) : Prop:=
 ∃ vs : List Value,vs.length = xss.length∧Ow e 1 QV bo w v vs∧(∀ (i : Nat) (u : Value) (xs : List α),vs[i]? = some u→xss[i]? = some xs→Ow e2 sz enc bi w u xs)∧(∀ (i : Nat) (u : Value),vs[i]? = some u→y7 v u)∧∀ (i j : Nat) (u u' : Value),i ≠ j→vs[i]? = some u→vs[j]? = some u'→y7 u u'
theorem OwnB.of {α : Type} {e e2 : TypeId} {sz base bi : Nat} {enc : α→List Value} {w : World} {v : Value} {xss : List (List α)} (h : yT e e2 sz enc base w v xss) (hb : bi≤base) : OwnB e e2 sz enc base bi w v xss:=by
 obtain ⟨vs,h1,h2,h3,h4⟩:=h
 exact ⟨vs,h1,h2,fun i u xs a b=>(h3 i u xs a b).base hb,h4⟩
theorem OwnB.ext {α : Type} {e e2 : TypeId} {sz bo bi : Nat} {enc : α→List Value} {w w' : World} {v : Value} {xss : List (List α)} (h : OwnB e e2 sz enc bo bi w v xss) (k : Ext w w') : OwnB e e2 sz enc bo bi w' v xss:=by
 obtain ⟨vs,h1,h2,h3,h4⟩:=h
 exact ⟨vs,h1,h2.ext k,fun i u xs a b=>(h3 i u xs a b).ext k,h4⟩
theorem OwnB.new {α : Type} {e2 : TypeId} {sz n : Nat} {enc : α→List Value} {w : World} {v u : Value} {xs : List α} (h : HB2 w v n) (hu : Ow e2 sz enc n w u xs) : y7 v u∧∀ vs : List Value,Rd 1 QV w v vs→∀ (i : Nat) (q : Value),vs[i]? = some q→y7 q u:=
 ⟨y7.of hu h.1,fun vs hR i q a=>y7.of hu (h.2 vs hR i q a)⟩
section
variable {P : Program} {N : Nat} {σ' : Fr} {w w' : World} {ops : Array Oper} {l : List Oper} {L : List (Value → Prop)} {is i d b : Nat} {c1 : Array Value} {T : TypeId} {v : Value}
end
end Go.UL
