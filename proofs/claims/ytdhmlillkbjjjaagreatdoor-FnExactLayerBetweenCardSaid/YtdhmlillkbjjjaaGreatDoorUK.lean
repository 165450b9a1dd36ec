import Derived.WalkKit
import Derived.Below
import Derived.KernelRfl
import Derived.Laws.StructEq
import Derived.Orders
import Derived.Maps.AppendAt
set_option linter.unusedVariables false
set_option linter.unusedSimpArgs false
namespace Go.UD
open Go.RowKit
structure Below (B : Nat) (w w' : World) : Prop where
 os : w'.os = w.os
 tape : w'.tape = w.tape
 output : w'.output = w.output
 size : w.heap.size≤w'.heap.size
 block : ∀ k,k < B→w'.heap[k]? = w.heap[k]?
 drawn : w.drawn≤w'.drawn
theorem Below.refl (B : Nat) (w : World) : Below B w w:=⟨rfl,rfl,rfl,Nat.le_refl _,fun _ _=>rfl,Nat.le_refl _⟩
theorem Below.trans {B : Nat} {a b c : World} (h : Below B a b) (k : Below B b c) : Below B a c:=
 ⟨k.os.trans h.os,k.tape.trans h.tape,k.output.trans h.output,Nat.le_trans h.size k.size,fun i hi=>(k.block i hi).trans (h.block i hi),Nat.le_trans h.drawn k.drawn⟩
theorem Below.mono {B B' : Nat} {w w' : World} (h : Below B w w') (hB : B'≤B) : Below B' w w':=⟨h.os,h.tape,h.output,h.size,fun k hk=>h.block k (Nat.lt_of_lt_of_le hk hB),h.drawn⟩
theorem Below.alloc {B : Nat} {a w : World} (h : Below B a w) (hB : B≤w.heap.size) (o : Obj) : Below B a (w.alloc o):=
 h.trans ⟨rfl,rfl,rfl,by simp,fun k hk=>Go.RowKit.Below.heap_alloc _ _ _ (by omega),Nat.le_refl _⟩
theorem Below.old {B : Nat} {w w' : World} (h : Below B w w') : Go.RowKit.Below B w w':=⟨h.os,h.tape,h.output,h.size,h.block⟩
theorem Below.cell {B : Nat} {w w' : World} (h : Below B w w') {p : Addr} (hp : p.block < B) : w'.cell? p = w.cell? p:=h.old.cell hp
abbrev Fr:=Nat→Value
def upd (σ : Fr) (d : Nat) (v : Value) : Fr:=fun t=>cond (Nat.beq t d) v (σ t)
theorem Qh (σ : Fr) (d : Nat) (v : Value) : upd σ d v d = v:=by simp [upd]
theorem Ve (σ : Fr) (d t : Nat) (v : Value) (h : t ≠ d) : upd σ d v t = σ t:=by
 have : Nat.beq t d = false:=by cases hb : Nat.beq t d with
  | true=>exact absurd (Nat.eq_of_beq_eq_true hb) h
  | false=>rfl
 simp [upd,this]
theorem ltb {a b : Nat} (h : Nat.blt a b = true) : a < b:=by rwa [Nat.blt_eq] at h
structure Rep (N : Nat) (a : Act) (σ : Fr) : Prop where
 size : a.tmps.size = N
 defers : a.defers = []
 get : ∀ t,a.tmps.getD t undef = σ t
def ev (σ : Fr) : Operand→Value
 | .tmp t=>σ t
 | .const v=>v
 | .global g=>.pointer (some ⟨g,0,none⟩)
 | .func f=>.func (.func f) #[] #[]
theorem Rep.ev {N : Nat} {a : Act} {σ : Fr} (h : Rep N a σ) : a.eval = ev σ:=by
 funext x
 cases x with
 | tmp t=>exact h.get t
 | const v=>rfl
 | global g=>rfl
 | func f=>rfl
theorem Rep.put {N : Nat} {a : Act} {σ : Fr} (h : Rep N a σ) (d : Nat) (hd : d < N) (v : Value) : Rep N (a.put (some d) v) (upd σ d v):=by
 refine ⟨by simp [Act.put,h.size],by simp [Act.put,h.defers],fun t=>?_⟩
 simp only [Act.put]
 by_cases e : t = d
 ·subst e
  rw [Qh,Array.getD_eq_getD_getElem?,Array.getElem?_setIfInBounds_self_of_lt (by rw [h.size]; exact hd)]
  rfl
 ·rw [Ve _ _ _ _ e,Array.getD_eq_getD_getElem?,Array.getElem?_setIfInBounds_ne (fun h=>e h.symm),← Array.getD_eq_getD_getElem?]
  exact h.get t
abbrev yb:=Exit→Fr→World→Prop
def Qn (N : Nat) (Q : yb) : Exit→Act→World→Prop:=fun e a w=>∃ σ,Rep N a σ∧Q e σ w
def W (P : Program) (N : Nat) (c : Code) (Q : yb) (σ : Fr) (w : World) : Prop:=∀ a,Rep N a σ→c.wp P (Qn N Q) a w
def thn (K : Fr→World→Prop) (Q : yb) : yb
 | .normal,σ,w=>K σ w
 | .exit i,σ,w=>Q (.exit i) σ w
 | .ret,σ,w=>Q .ret σ w
 | .goto l,σ,w=>Q (.goto l) σ w
 | .panic ch,σ,w=>Q (.panic ch) σ w
 | .outgrown,σ,w=>Q .outgrown σ w
def blk (i : Nat) (Q : yb) : yb
 | .exit j,σ,w=>cond (Nat.beq j i) (Q .normal σ w) (Q (.exit j) σ w)
 | .normal,σ,w=>Q .normal σ w
 | .ret,σ,w=>Q .ret σ w
 | .goto l,σ,w=>Q (.goto l) σ w
 | .panic ch,σ,w=>Q (.panic ch) σ w
 | .outgrown,σ,w=>Q .outgrown σ w
section
variable {P : Program} {N : Nat} {Q : yb} {σ : Fr} {w : World}
theorem qf {K : Fr→World→Prop} (h : K σ w) : thn K Q .normal σ w:=h
theorem qY {K : Fr→World→Prop} {i : Nat} (h : Q (.exit i) σ w) : thn K Q (.exit i) σ w:=h
theorem qo {K : Fr→World→Prop} (h : Q .ret σ w) : thn K Q .ret σ w:=h
theorem vM {i : Nat} (h : Q .normal σ w) : blk i Q .normal σ w:=h
theorem vZ {i : Nat} (h : Q .normal σ w) : blk i Q (.exit i) σ w:=by
 simp [blk]; exact h
theorem vl {i : Nat} (h : Q .ret σ w) : blk i Q .ret σ w:=h
theorem qi {x y : Code} (h : W P N x (thn (fun σ w=>W P N y Q σ w) Q) σ w) : W P N (.seq x y) Q σ w:=fun a ha=>
 wp_seq (Code.wp_mono (fun e a' w' hq=>by
  obtain ⟨σ',hr,hq⟩:=hq
  cases e with
  | normal=>exact hq a' hr
  | _=>exact ⟨σ',hr,hq⟩) (h a ha))
theorem qr (h : Q .ret σ w) : W P N .ret Q σ w:=fun a ha=>wp_ret ⟨σ,ha,h⟩
theorem qp (h : Q .normal σ w) : W P N .skip Q σ w:=fun a ha=>wp_skip ⟨σ,ha,h⟩
theorem vu {i : Nat} (h : Q (.exit i) σ w) : W P N (.exit i) Q σ w:=fun a ha=>wp_exit ⟨σ,ha,h⟩
theorem qB {i : Nat} {c : Code} (h : W P N c (blk i Q) σ w) : W P N (.block i c) Q σ w:=fun a ha=>
 wp_block (Code.wp_mono (fun e a' w' hq=>by
  obtain ⟨σ',hr,hq⟩:=hq
  cases e with
  | exit j=>
   simp only [Exit.inBlock]
   simp only [blk] at hq
   by_cases e : j = i
   ·subst e
    have : Nat.beq j j = true:=Nat.beq_refl j
    rw [if_pos rfl]; rw [this] at hq
    exact ⟨σ',hr,hq⟩
   ·have : Nat.beq j i = false:=by
     cases hb : Nat.beq j i with
     | true=>exact absurd (Nat.eq_of_beq_eq_true hb) e
     | false=>rfl
    rw [if_neg e]; rw [this] at hq
    exact ⟨σ',hr,hq⟩
  | _=>exact ⟨σ',hr,hq⟩) (h a ha))
theorem qn {c : Operand} {x y : Code} (hc : ev σ c = .bool true) (h1 : W P N x Q σ w) : W P N (.cond c x y) Q σ w:=fun a ha=>
 wp_cond_true (by rw [ha.ev]; exact hc) (h1 a ha)
theorem qj {c : Operand} {x y : Code} (hc : ev σ c = .bool false) (h1 : W P N y Q σ w) : W P N (.cond c x y) Q σ w:=fun a ha=>
 wp_cond_false (by rw [ha.ev]; exact hc) (h1 a ha)
theorem Xt {c : Code} (I : Nat→Fr→World→Prop) (k : Nat) (h0 : I k σ w)
  (round : ∀ k σ w,I k σ w→W P N c (thn (fun σ' w'=>∃ k',k' < k∧I k' σ' w') Q) σ w) : W P N (.loop c) Q σ w:=by
 intro a ha b kk cs
 have key : ∀ k σ w a,I k σ w→Rep N a σ→
   ∃ e a' w',Qn N Q e a' w'∧Arrives P (lone (b.at a (.code c :: .inLoop c :: kk)) cs w) b kk cs e a' w':=by
  intro k
  induction k using Nat.strongRecOn with
  | _ k ih=>
   intro σ w a hI ha
   obtain ⟨e,a₁,w₁,⟨σ',hr,hq⟩,harr⟩:=round k σ w hI a ha b (.inLoop c :: kk) cs
   cases e with
   | normal=>
    obtain ⟨k',hlt,hI'⟩:=hq
    obtain ⟨e₂,a₂,w₂,hq₂,harr₂⟩:=ih k' hlt σ' w₁ a₁ hI' hr
    exact ⟨e₂,a₂,w₂,hq₂,.of_steps (Steps.trans harr (.one step_inLoop)) harr₂⟩
   | exit id=>exact ⟨_,a₁,w₁,⟨σ',hr,hq⟩,.pass (x:=.inLoop c) rfl (fun _ _=>.inl (by simp)) harr⟩
   | goto l=>exact ⟨_,a₁,w₁,⟨σ',hr,hq⟩,.pass (x:=.inLoop c) rfl (fun _ _=>.inl (by simp)) harr⟩
   | ret=>exact ⟨_,a₁,w₁,⟨σ',hr,hq⟩,.pass (x:=.inLoop c) rfl (fun _ _=>.inl (by simp)) harr⟩
   | panic ch=>exact ⟨_,a₁,w₁,⟨σ',hr,hq⟩,.pass (x:=.inLoop c) rfl (fun _ _=>.inl (by simp)) harr⟩
   | outgrown=>exact ⟨_,a₁,w₁,⟨σ',hr,hq⟩,.pass (x:=.inLoop c) rfl (fun _ _=>.inl (by simp)) harr⟩
 obtain ⟨e,a',w',hq,harr⟩:=key k σ w a h0 ha
 exact ⟨e,a',w',hq,.of_steps (.one step_loop) harr⟩
def QC : List ResultVar→Fr→Value
 | [.tmp t],σ=>σ t
 | [.tmp t,.tmp u],σ=>.tuple #[σ t,σ u]
 | [.tmp t,.tmp u,.tmp v],σ=>.tuple #[σ t,σ u,σ v]
 | [],_=>.tuple #[]
 | _,_=>undef
def Qk : List ResultVar→Bool
 | [.tmp _] | [.tmp _,.tmp _] | [.tmp _,.tmp _,.tmp _] | []=>true
 | _=>false
def fin (rs : List ResultVar) (R : Ending→World→Prop) : yb
 | .normal,σ,w | .ret,σ,w=>R (.returned (QC rs σ)) w
 | _,_,_=>False
theorem qu {rs : List ResultVar} {R : Ending→World→Prop} (h : R (.returned (QC rs σ)) w) : fin rs R .ret σ w:=h
theorem jJ {fn : Func} {a : Act} {N : Nat} (hr : Rep N a σ) (hp : Qk fn.results.toList = true) : (results fn a.tmps).run P w = .ok (QC fn.results.toList σ) w:=by
 generalize hl : fn.results.toList = rs at hp
 have hres : fn.results = rs.toArray:=by rw [← hl]
 unfold Qk at hp
 split at hp
 ·rw [results_tmp hres]; simp only [QC,hr.get]
 ·rw [results_tmp2 hres]; simp only [QC,hr.get]
 ·simp [results,hres,QC,← hr.get]
 ·rw [results_none hres]; rfl
 ·cases hp
theorem qk {f : FuncId} {fn : Func} {c : Code} {args : Array Value} {R : Ending→World→Prop} (hf : P.funcs[f]? = some fn) (hb : fn.body = some c)
  (hN : args.size≤N) (hn : fn.ntmps = N) (hp : Qk fn.results.toList = true)
  (h : W P N c (fin fn.results.toList R) (fun t=>args.getD t undef) w) : Calls P f args w R:=by
 refine calls_of_wp hf hb (Code.wp_mono (fun e a' w' hq=>?_) (h _ ⟨?_,rfl,fun t=>?_⟩))
 ·obtain ⟨σ',hr,hq⟩:=hq
  cases e with
  | normal=>exact ⟨hr.defers,_,jJ hr hp,hq⟩
  | ret=>exact ⟨hr.defers,_,jJ hr hp,hq⟩
  | _=>exact hq.elim
 ·simp [hn]; omega
 ·simp only [Array.getD_eq_getD_getElem?,Array.getElem?_append]
  split
  ·rfl
  ·rename_i hlt
   rw [Array.getElem?_eq_none (by omega : args.size≤t),Array.getElem?_replicate]
   split <;> rfl
def WL (P : Program) (N : Nat) (ops : Array Oper) (Q : yb) (l : List Oper) (σ : Fr) (w : World) : Prop:=∀ a,Rep N a σ→wpList P ops (Qn N Q) l a w
theorem qK {id : Nat} {l : List Oper} (h : WL P N l.toArray Q l σ w) : W P N (.region id l.toArray false) Q σ w:=fun a ha=>wp_region_lit (h a ha)
theorem qZ {ops : Array Oper} (h : Q .normal σ w) : WL P N ops Q [] σ w:=fun a ha=>⟨σ,ha,h⟩
variable {ops : Array Oper} {rest : List Oper} {o : Oper}
def Ex (P : Program) (σ : Fr) (w : World) (op : Op) (v : Value) (w1 : World) : Prop:=
 ∀ o : Oper,o.op = op→(execOp (ev σ) o).run P w = .ok (.value v) w1
theorem qd {x : Operand} {v : Value} (hx : ev σ x = v) : Ex P σ w (.move x) v w:=by
 intro o ho; unfold execOp; simp only [ho]; rw [hx]; rfl
theorem qz {x : Operand} {v : Value} (hx : ev σ x = v) : Ex P σ w (.assign x) v w:=by
 intro o ho; unfold execOp; simp only [ho]; rw [hx]; rfl
section
variable {t u : TypeId} {x y : Operand} {k : IntKind} {m n : Int}
theorem vp (hx : ev σ x = .int k m) (hy : ev σ y = .int k n) : Ex P σ w (.binOp .add t x y u) (.int k (k.wrap (m + n))) w:=by
 intro o ho; unfold execOp; simp only [ho]; rw [hx,hy]; simp [eqGuard,binOp,Op.intArith]
theorem vw (hx : ev σ x = .int k m) (hy : ev σ y = .int k n) : Ex P σ w (.binOp .lss t x y u) (.bool (decide (m < n))) w:=by
 intro o ho; unfold execOp; simp only [ho]; rw [hx,hy]; simp [eqGuard,binOp,Op.intCmp]
theorem Q2 (hx : ev σ x = .int k m) (hy : ev σ y = .int k n) : Ex P σ w (.binOp .geq t x y u) (.bool (decide (n≤m))) w:=by
 intro o ho; unfold execOp; simp only [ho]; rw [hx,hy]; simp [eqGuard,binOp,Op.intCmp]
theorem jf (hx : ev σ x = .int k m) (hy : ev σ y = .int k n) : Ex P σ w (.binOp .neq t x y u) (.bool (!decide (m = n))) w:=by
 intro o ho; unfold execOp; simp only [ho]; rw [hx,hy]; simp [eqGuard,binOp,Op.intCmp]; exact Bool.eq_iff_iff.mpr (by simp)
end
abbrev S (l : List UInt8) : Value:=.string ⟨⟨l⟩⟩
theorem jq (l : List UInt8) : (ByteArray.mk ⟨l⟩).toList = l:=by simp [ByteArray.toList_eq]
abbrev lt8:=Op.bytesLess
section
variable {t u : TypeId} {x y : Operand} {a b : List UInt8}
theorem j3 (hx : ev σ x = S a) (hy : ev σ y = S b) : Ex P σ w (.binOp .neq t x y u) (.bool (!decide (a = b))) w:=by
 intro o ho; unfold execOp; simp only [ho]; rw [hx,hy]
 simp [eqGuard,binOp,Op.stringOp,jq]; exact Bool.eq_iff_iff.mpr (by simp)
theorem XC (hx : ev σ x = S a) (hy : ev σ y = S b) : Ex P σ w (.binOp .lss t x y u) (.bool (lt8 a b)) w:=by
 intro o ho; unfold execOp; simp only [ho]; rw [hx,hy]
 simp [eqGuard,binOp,Op.stringOp,jq]
theorem X_sgt (hx : ev σ x = S a) (hy : ev σ y = S b) : Ex P σ w (.binOp .gtr t x y u) (.bool (!(lt8 a b || decide (a = b)))) w:=by
 intro o ho; unfold execOp; simp only [ho]; rw [hx,hy]
 simp [eqGuard,binOp,Op.stringOp,jq]; exact Bool.eq_iff_iff.mpr (by simp)
end
theorem XD {x : Operand} {A : Option Addr} {n c : Nat} {t e : TypeId} (hu : P.underlying t = some (.slice e)) (hx : ev σ x = .slice A n c) : Ex P σ w (.call { callee:=.builtin .len,args:=#[x],argTypes:=#[t] }) (.int .i64 n) w:=by
 intro o ho; unfold execOp; simp only [ho]
 simp [resolve,invoke,builtin,hx,Builtin.len_,run_underlying hu,goInt]
abbrev Ext (w w' : World) : Prop:=Below w.heap.size w w'
theorem Ext.refl (w : World) : Ext w w:=Below.refl _ _
theorem Ext.trans {a b c : World} (h : Ext a b) (k : Ext b c) : Ext a c:=Below.trans h (k.mono h.size)
theorem Ext.alloc (w : World) (o : Obj) : Ext w (w.alloc o):=(Below.refl _ _).alloc (Nat.le_refl _) _
def Blk (w : World) (b : Nat) (cs : Array Value) (T : TypeId) : Prop:=w.heap[b]? = some (.cells cs T (0,0))
theorem Blk.lt {w : World} {b : Nat} {cs : Array Value} {T : TypeId} (h : Blk w b cs T) : b < w.heap.size:=by
 unfold Blk at h
 exact (Array.getElem?_eq_some_iff.1 h).1
theorem Blk.ext {w w' : World} {b : Nat} {cs : Array Value} {T : TypeId} (h : Blk w b cs T) (e : Ext w w') : Blk w' b cs T:=by
 unfold Blk at *
 rw [e.block b (Blk.lt h),h]
theorem Blk.cell {w : World} {b i : Nat} {cs : Array Value} {T : TypeId} (h : Blk w b cs T) : w.cell? ⟨b,i,none⟩ = cs[i]?:=by
 unfold Blk at h
 simp [World.cell?,h]
theorem jB (w : World) (cs : Array Value) (T : TypeId) : Blk (w.alloc (.cells cs T)) w.heap.size cs T:=by
 unfold Blk
 show (w.heap.push _)[w.heap.size]? = _
 simp
structure Wr (b : Nat) (w w' : World) : Prop where
 os : w'.os = w.os
 tape : w'.tape = w.tape
 output : w'.output = w.output
 size : w'.heap.size = w.heap.size
 block : ∀ k,k ≠ b→w'.heap[k]? = w.heap[k]?
 drawn : w.drawn≤w'.drawn
theorem Wr.below {b B : Nat} {w w' : World} (h : Wr b w w') (hB : B≤b) : Below B w w':=⟨h.os,h.tape,h.output,Nat.le_of_eq h.size.symm,fun k hk=>h.block k (by omega),h.drawn⟩
theorem Wr.trans {b : Nat} {a c d : World} (h : Wr b a c) (k : Wr b c d) : Wr b a d:=
 ⟨k.os.trans h.os,k.tape.trans h.tape,k.output.trans h.output,k.size.trans h.size,fun i hi=>(k.block i hi).trans (h.block i hi),Nat.le_trans h.drawn k.drawn⟩
theorem Wr.grown {b : Nat} {w w' : World} (h : Wr b w w') : w.grownBy w' (some b):=⟨h.os,h.tape,h.output,Nat.le_of_eq h.size.symm,fun k _ hk=>h.block k (fun e=>hk (by rw [e]))⟩
theorem Ext.grown {w w' : World} (h : Ext w w') (r : Option Nat) : w.grownBy w' r:=⟨h.os,h.tape,h.output,h.size,fun k hk _=>h.block k hk⟩
theorem J9 {w w' : World} {base : Nat} {e : TypeId} {sz : Nat} {v : Value} {n : Nat} {xs : List Value} (h : w.ownsRow base e sz v n xs) (k : Ext w w') : w'.ownsRow base e sz v n xs:=
 h.kept (k.grown none) (by cases v.ownBlock <;> simp)
def Rd {α : Type} (sz : Nat) (enc : α→List Value) (w : World) (v : Value) (xs : List α) : Prop:=
 ∃ A c,v = .slice A xs.length c∧(xs.length≤c∧(A = none→c = 0)∧xs.length≤9223372036854775807)∧(∀ x ∈ xs,(enc x).length = sz)∧
  (0 < xs.length→∃ ad,A = some ad∧∀ j (h : j < xs.length) (f : Nat) (u : Value),(enc xs[j])[f]? = some u→w.cell? (ad.add (j * sz + f)) = some u)
theorem Rd.ext {α : Type} {sz : Nat} {enc : α→List Value} {w w' : World} {v : Value} {xs : List α} (h : Rd sz enc w v xs) (k : Ext w w') : Rd sz enc w' v xs:=by
 obtain ⟨A,c,hv,hm,hl,hc⟩:=h
 refine ⟨A,c,hv,hm,hl,fun h0=>?_⟩
 obtain ⟨ad,hA,hcell⟩:=hc h0
 refine ⟨ad,hA,fun j hj f u hu=>?_⟩
 have h1:=hcell j hj f u hu
 rw [k.cell (World.block_lt_of_cell? w _ h1)]; exact h1
theorem Rd.below {α : Type} {sz B : Nat} {enc : α→List Value} {w w' : World} {v : Value} {xs : List α} (h : Rd sz enc w v xs) (hB : w.heap.size≤B) (k : Below B w w') : Rd sz enc w' v xs:=
 h.ext (k.mono hB)
theorem Rd.nil {α : Type} (sz : Nat) (enc : α→List Value) (w : World) : Rd sz enc w (.slice none 0 0) ([] : List α):=
 ⟨none,0,rfl,by simp,by simp,by simp⟩
theorem Rd.shape {α : Type} {sz : Nat} {enc : α→List Value} {w : World} {v : Value} {xs : List α} (h : Rd sz enc w v xs) : ∃ A c,v = .slice A xs.length c:=by
 obtain ⟨A,c,hv,_⟩:=h; exact ⟨A,c,hv⟩
theorem QM {α : Type} (enc : α→List Value) (sz : Nat) : ∀ (xs : List α),(∀ x ∈ xs,(enc x).length = sz)→∀ (j : Nat) (hj : j < xs.length) (f : Nat) (u : Value),(enc xs[j])[f]? = some u→(xs.flatMap enc)[j * sz + f]? = some u:=by
 intro xs
 induction xs with
 | nil=>intro _ j hj; simp at hj
 | cons x xs ih=>
  intro hl j hj f u hu
  have hx : (enc x).length = sz:=hl x (by simp)
  cases j with
  | zero=>
   have hf : f < (enc x).length:=by
    have:=List.getElem?_eq_some_iff.1 hu
    simpa using this.1
   simp only [Nat.zero_mul,Nat.zero_add,List.flatMap_cons]
   rw [List.getElem?_append_left hf]
   simpa using hu
  | succ j=>
   have:=ih (fun y hy=>hl y (by simp [hy])) j (by simpa using hj) f u (by simpa using hu)
   simp only [List.flatMap_cons]
   rw [List.getElem?_append_right (by rw [hx,Nat.succ_mul]; omega)]
   rw [← this]
   congr 1
   rw [hx,Nat.succ_mul]; omega
theorem ja {α : Type} (enc : α→List Value) (sz : Nat) : ∀ (xs : List α),(∀ x ∈ xs,(enc x).length = sz)→(xs.flatMap enc).length = xs.length * sz:=by
 intro xs
 induction xs with
 | nil=>simp
 | cons x xs ih=>
  intro hl
  simp only [List.flatMap_cons,List.length_append,List.length_cons,Nat.succ_mul]
  rw [ih (fun y hy=>hl y (by simp [hy])),hl x (by simp)]
  omega
def Ow {α : Type} (e : TypeId) (sz : Nat) (enc : α→List Value) (base : Nat) (w : World) (v : Value) (xs : List α) : Prop:=
 (w.ownsRow base e sz v xs.length (xs.flatMap enc)∨((∃ A,v = .slice A 0 0)∧xs = []))∧(∀ x ∈ xs,(enc x).length = sz)∧xs.length≤9223372036854775807
theorem Ow.rd {α : Type} {e : TypeId} {sz base : Nat} {enc : α→List Value} {w : World} {v : Value} {xs : List α} (h : Ow e sz enc base w v xs) : Rd sz enc w v xs:=by
 obtain ⟨ho | ⟨⟨A,rfl⟩,rfl⟩,hl,hm⟩:=h
 ·rcases ho.2 with ⟨hv,hn⟩ | ⟨g,cap,cur,hv,hb,hh,hnc,hcm,hsz,htk⟩
  ·have : xs = []:=List.eq_nil_of_length_eq_zero hn
   subst this
   exact ⟨none,0,by simpa using hv,by simp,by simp,by simp⟩
  ·refine ⟨_,cap,hv,⟨hnc,by simp,hm⟩,hl,fun _=>⟨_,rfl,fun j hj f u hu=>?_⟩⟩
   have h1:=QM enc sz xs hl j hj f u hu
   rw [← htk] at h1
   have h2 : cur.toList[j * sz + f]? = some u:=by
    rw [List.getElem?_take] at h1
    split at h1
    ·exact h1
    ·cases h1
   have ha : (⟨g,0,none⟩ : Addr).add (j * sz + f) = ⟨g,j * sz + f,none⟩:=by unfold Addr.add; split <;> simp_all
   rw [ha]
   have : w.cell? ⟨g,j * sz + f,none⟩ = cur[j * sz + f]?:=Blk.cell hh
   rw [this,← Array.getElem?_toList]; exact h2
 ·exact ⟨A,0,rfl,by simp,by simp,by simp⟩
theorem Ow.ext {α : Type} {e : TypeId} {sz base : Nat} {enc : α→List Value} {w w' : World} {v : Value} {xs : List α} (h : Ow e sz enc base w v xs) (k : Ext w w') : Ow e sz enc base w' v xs:=⟨h.1.imp (J9 · k) id,h.2⟩
theorem Ow.zero {α : Type} {e : TypeId} {sz base : Nat} {enc : α→List Value} {w : World} {A : Option Addr} : Ow e sz enc base w (.slice A 0 0) ([] : List α):=⟨.inr ⟨⟨A,rfl⟩,rfl⟩,by simp,by simp⟩
theorem Ow.base {α : Type} {e : TypeId} {sz base base' : Nat} {enc : α→List Value} {w : World} {v : Value} {xs : List α} (h : Ow e sz enc base w v xs) (hb : base'≤base) : Ow e sz enc base' w v xs:=by
 refine ⟨h.1.imp (fun h1=>⟨h1.1,?_⟩) id,h.2⟩
 rcases h1.2 with h2 | ⟨g,cap,cur,hv,hg,r⟩
 ·exact .inl h2
 ·exact .inr ⟨g,cap,cur,hv,Nat.le_trans hb hg,r⟩
theorem Ow.new {α : Type} {e : TypeId} {sz base b : Nat} {enc : α→List Value} {w : World} {xs : List α} {cs : Array Value} (h : Blk w b cs e) (hb : base≤b) (hcs : cs.toList = xs.flatMap enc) (hl : ∀ x ∈ xs,(enc x).length = sz) (hm : xs.length≤9223372036854775807) :
  Ow e sz enc base w (.slice (some ⟨b,0,none⟩) xs.length xs.length) xs:=by
 have hlen:=ja enc sz xs hl
 have hcsz : cs.size = xs.length * sz:=by rw [← Array.length_toList,hcs,hlen]
 refine ⟨.inl ⟨hlen,.inr ⟨b,xs.length,cs,rfl,hb,h,Nat.le_refl _,by unfold maxLen; omega,hcsz,?_⟩⟩,hl,hm⟩
 rw [hcs,← hlen,List.take_length]
theorem Q7 (b i n : Nat) : (⟨b,i,none⟩ : Addr).add n = ⟨b,i + n,none⟩:=by unfold Addr.add; split <;> simp_all
theorem Vn {t : TypeId} {x : Operand} {a : Addr} {v : Value} (ha : ∀ w,(isAgg t).run P w = .ok false w) (hx : ev σ x = .pointer (some a)) (hc : w.cell? a = some v) : Ex P σ w (.load t x) v w:=by
 intro o ho; unfold execOp; simp only [ho]; rw [hx]
 simp [Instr.loadAt,Instr.sureAddr,loadVar,ha,hc,run_load]
theorem qc {s : TypeId} {x : Operand} {a : Addr} {i : Nat} {fs : Array Field} {f : Field} {n : Nat} (hu : P.underlying s = some (.struct fs)) (hf : fs[i]? = some f) (hs : ∀ w,(sizeOf f.type).run P w = .ok n w) (hn : (n == 0) = false) (hx : ev σ x = .pointer (some a)) :
  Ex P σ w (.fieldAddr s x i) (.pointer (some (a.add f.offset))) w:=by
 intro o ho; unfold execOp; simp only [ho]; rw [hx]
 have hn' : n ≠ 0:=by simpa using hn
 simp [Instr.fieldAt,Instr.sureAddr,run_underlying hu,hf,fieldPlace,hs,hn']
theorem Qt {t e : TypeId} {x y : Operand} {ad : Addr} {n c sz : Nat} {k : IntKind} {i : Int} (hu : P.underlying t = some (.slice e)) (hs : ∀ w,(sizeOf e).run P w = .ok sz w) (hx : ev σ x = .slice (some ad) n c) (hy : ev σ y = .int k i) (h0 : 0≤i) (h1 : i < n) :
  Ex P σ w (.indexAddr t x y) (.pointer (some (ad.add (i.toNat * sz)))) w:=by
 intro o ho; unfold execOp; simp only [ho]; rw [hx,hy]
 simp [Instr.indexAt,asIntOf,run_underlying hu,hs,h0,h1]
theorem X_box {t : TypeId} {x : Operand} {v : Value} (hx : ev σ x = v) : Ex P σ w (.box t x) (.pointer (some ⟨w.heap.size,0,none⟩)) (w.alloc (.cells v.cells t)):=by
 intro o ho; unfold execOp; simp only [ho]; rw [hx]
 simp [Instr.box,newVar,newRow]
inductive Tk (N : Nat) (ops : Array Oper) (σ : Fr) (o : Oper) : Prop
 | plain (h : o.guard = none)
 | guard (j : Nat) (b : Bool) (g : Nat) (h : o.guard = some (j,b)) (hj : (ops[j]?).bind (·.dst) = some g) (hgN : g < N) (hv : σ g = .bool b)
theorem JL {d : Nat} (ht : Tk N ops σ o) (hd : o.dst = some d) (hN : d < N)
  (he : ∀ K : Act→World→Prop,∀ a,Rep N a σ→(∀ v w1 a',Rep N a' (upd σ d v)→a' = a.put (some d) v→WL P N ops Q rest (upd σ d v) w1→K a' w1)→o.upon P a K (Qn N Q) ((execOp (ev σ) o).run P w)) : WL P N ops Q (o :: rest) σ w:=fun a ha=>
 wpList_step fun K hK=>by
  have hw : Region.wanted o (yielded ops a.tmps) = true:=by
   rcases ht with h | ⟨j,b,g,h,hj,hgN,hv⟩
   ·simp [Region.wanted,h]
   ·have : a.tmps[g]? = some (.bool b):=by
     have h2:=ha.get g
     rw [hv,Array.getD_eq_getD_getElem?,Array.getElem?_eq_getElem (by rw [ha.size]; exact hgN)] at h2
     rw [Array.getElem?_eq_getElem (by rw [ha.size]; exact hgN)]
     simpa using h2
    simp [Region.wanted,h,yielded,hj,this]
  rw [if_pos hw]
  unfold Oper.wp
  rw [ha.ev]
  exact he K a ha fun v w1 a' hr ha' h=>hK _ _ (h _ hr)
theorem vm {d : Nat} {v : Value} {w1 : World} (ht : Tk N ops σ o) (hd : o.dst = some d) (hN : d < N) (hx : Ex P σ w o.op v w1) (h : WL P N ops Q rest (upd σ d v) w1) : WL P N ops Q (o :: rest) σ w:=
 JL ht hd hN fun K a ha hK=>by
  rw [hx o rfl,Oper.upon_value,hd]
  exact hK _ _ _ (ha.put d hN v) rfl h
theorem jm {d : Nat} {t : TypeId} {x : Operand} {v : Value} (ht : Tk N ops σ o) (hd : o.dst = some d) (hN : d < N) (ho : o.op = .box t x) (hx : ev σ x = v)
  (h : ∀ b w1,w.heap.size = b→w1.heap.size = b + 1→Ext w w1→Blk w1 b v.cells t→WL P N ops Q rest (upd σ d (.pointer (some ⟨b,0,none⟩))) w1) : WL P N ops Q (o :: rest) σ w:=
 vm ht hd hN (by rw [ho]; exact X_box hx) (h _ _ rfl (by simp) (Ext.alloc _ _) (jB _ _ _))
def Rt (A : Value→World→Prop) : Ending→World→Prop:=fun e w'=>∃ v,e = .returned v∧A v w'
theorem Xy {d f : Nat} {xs : Array Operand} {ts : Array TypeId} {vs : Array Value} {A : Value→World→Prop} (ht : Tk N ops σ o) (hd : o.dst = some d) (hN : d < N)
  (ho : o.op = .call { callee:=.value (.func f),args:=xs,argTypes:=ts }) (hvs : xs.map (ev σ) = vs) (hf : ∀ args w,(callFunc f args).run P w = .ok (.enter f args) w)
  (hC : Calls P f vs w (Rt A)) (h : ∀ v w1,A v w1→WL P N ops Q rest (upd σ d v) w1) : WL P N ops Q (o :: rest) σ w:=
 JL ht hd hN fun K a ha hK=>by
  have e : (execOp (ev σ) o).run P w = .ok (.enter f vs) w:=by
   unfold execOp; simp only [ho]
   simp [resolve,ev,Deferred.ofValue,invoke,hvs,hf]
  rw [e,Oper.upon_enter]
  refine hC.mono fun en w1 hr=>?_
  obtain ⟨v,rfl,hA⟩:=hr
  rw [hd]
  exact hK _ _ _ (ha.put d hN v) rfl (h v w1 hA)
theorem cells_one {v : Value} (h : v.oneCell' = true) : v.cells = #[v]:=by cases v <;> simp_all [Value.oneCell',Value.cells]
structure ElemI (P : Program) (t e sz by' : Nat) (z : Value) : Prop where
 under : P.underlying t = some (.slice e)
 info : ∃ i,P.info? e = some i∧i.zero = some z∧i.size = sz∧i.bytes = by'
 zsize : z.cells.size = sz
 pos : 0 < sz
 bpos : 0 < by'
end
def inR (i : Int) (n : Nat) : Bool:=decide (0≤i) && decide (i < n)
theorem jt {i : Int} {n : Nat} (h : inR i n = true) : 0≤i:=by simp [inR] at h; exact h.1
theorem js {i : Int} {n : Nat} (h : inR i n = true) : i < n:=by simp [inR] at h; exact h.2
theorem Ym {i : Int} {n : Nat} (h0 : 0≤i) (h1 : i < n) : inR i n = true:=by simp [inR,h0,h1]
def gt {α : Type} [Inhabited α] (xs : List α) (i : Int) : α:=xs.getD i.toNat default
theorem VP {α : Type} [Inhabited α] {xs : List α} {i : Int} (h : inR i xs.length = true) : ∃ hj : i.toNat < xs.length,xs[i.toNat] = gt xs i:=by
 have h0:=jt h
 have h1:=js h
 have hj : i.toNat < xs.length:=by omega
 exact ⟨hj,by simp [gt,List.getD_eq_getElem?_getD,List.getElem?_eq_getElem hj]⟩
def At (w : World) (p : Addr) (cs : List Value) : Prop:=∀ (j : Nat) (u : Value),cs[j]? = some u→w.cell? (p.add j) = some u
theorem At.ext {w w' : World} {p : Addr} {cs : List Value} (h : At w p cs) (k : Ext w w') : At w' p cs:=fun j u hu=>by
 have h1:=h j u hu
 rw [k.cell (World.block_lt_of_cell? w _ h1)]; exact h1
theorem At.zero {w : World} {p : Addr} {cs : List Value} (h : At w p cs) {u : Value} (hu : cs[0]? = some u) : w.cell? p = some u:=by
 have:=h 0 u hu
 simpa [Addr.add] using this
theorem Rd.at {α : Type} [Inhabited α] {sz : Nat} {enc : α→List Value} {w : World} {v : Value} {xs : List α} {i : Int} (hR : Rd sz enc w v xs) (hi : inR i xs.length = true) :
  ∃ ad c,v = .slice (some ad) xs.length c∧At w (ad.add (i.toNat * sz)) (enc (gt xs i)):=by
 obtain ⟨hj,he⟩:=VP hi
 obtain ⟨A,c,hv,_,hl,hc⟩:=hR
 obtain ⟨ad,rfl,hcell⟩:=hc (by omega)
 refine ⟨ad,c,hv,fun f u hu=>?_⟩
 have:=hcell i.toNat hj f u (by rw [he]; exact hu)
 have ha : (ad.add (i.toNat * sz)).add f = ad.add (i.toNat * sz + f):=by
  unfold Addr.add
  by_cases h1 : i.toNat * sz = 0 <;> by_cases h2 : f = 0 <;> simp_all [Nat.add_assoc]
 rw [ha]; exact this
section
variable {P : Program} {N : Nat} {Q : yb} {σ : Fr} {w : World} {ops : Array Oper} {rest : List Oper} {o : Oper}
theorem vc {α : Type} {sz : Nat} {enc : α→List Value} {x : Operand} {v : Value} {xs : List α} {t e : TypeId} (hu : P.underlying t = some (.slice e)) (hx : ev σ x = v) (hR : Rd sz enc w v xs) : Ex P σ w (.call { callee:=.builtin .len,args:=#[x],argTypes:=#[t] }) (.int .i64 xs.length) w:=by
 obtain ⟨A,c,rfl⟩:=hR.shape
 exact XD hu hx
theorem vo {α : Type} [Inhabited α] {sz : Nat} {enc : α→List Value} {d : Nat} {t e : TypeId} {x y : Operand} {v : Value} {xs : List α} {k : IntKind} {i : Int} {w0 : World} (ht : Tk N ops σ o) (hd : o.dst = some d) (hN : d < N) (ho : o.op = .indexAddr t x y)
  (hu : P.underlying t = some (.slice e)) (hs : ∀ w,(sizeOf e).run P w = .ok sz w) (hx : ev σ x = v) (hR : Rd sz enc w0 v xs) (hy : ev σ y = .int k i) (hi : inR i xs.length = true)
  (h : ∀ p,At w0 p (enc (gt xs i))→WL P N ops Q rest (upd σ d (.pointer (some p))) w) : WL P N ops Q (o :: rest) σ w:=by
 obtain ⟨ad,c,hv,hA⟩:=hR.at hi
 exact vm ht hd hN (by rw [ho]; exact Qt hu hs (hx.trans hv) hy (jt hi) (js hi)) (h _ hA)
theorem yj {t : TypeId} {x : Operand} {p : Addr} {cs : List Value} {v : Value} (ha : ∀ w,(isAgg t).run P w = .ok false w) (hx : ev σ x = .pointer (some p)) (hA : At w p cs) (hv : cs[0]? = some v) : Ex P σ w (.load t x) v w:=
 Vn ha hx (hA.zero hv)
theorem qy {t : TypeId} {x : Operand} {b j : Nat} {cs : Array Value} {T : TypeId} {v : Value} (ha : ∀ w,(isAgg t).run P w = .ok false w) (hB : Blk w b cs T) (hx : ev σ x = .pointer (some ⟨b,j,none⟩)) (hv : cs[j]? = some v) : Ex P σ w (.load t x) v w:=
 Vn ha hx (by rw [hB.cell]; exact hv)
abbrev RP (w : World) (u : Value) : Value→World→Prop:=fun v w'=>Ext w w'∧v = u
abbrev RO {α : Type} (e : TypeId) (sz : Nat) (enc : α→List Value) (w : World) (xs : List α) : Value→World→Prop:=fun v w'=>Ext w w'∧Ow e sz enc w.heap.size w' v xs
abbrev RT {α : Type} (e : TypeId) (sz : Nat) (enc : α→List Value) (w : World) (xs : List α) (u : Value) : Value→World→Prop:=fun v w'=>Ext w w'∧∃ v1,v = .tuple #[v1,u]∧Ow e sz enc w.heap.size w' v1 xs
theorem jX {d f : Nat} {xs : Array Operand} {ts : Array TypeId} {vs : Array Value} {A : Value→World→Prop} (ht : Tk N ops σ o) (hd : o.dst = some d) (hN : d < N)
  (ho : o.op = .call { callee:=.value (.func f),args:=xs,argTypes:=ts }) (hf : ∀ args w,(callFunc f args).run P w = .ok (.enter f args) w)
  (hC : Calls P f vs w (Rt A)) (hvs : xs.toList.map (ev σ) = vs.toList) (h : ∀ v w1,A v w1→WL P N ops Q rest (upd σ d v) w1) : WL P N ops Q (o :: rest) σ w:=
 Xy ht hd hN ho (by rw [← Array.toList_inj]; simpa using hvs) hf hC h
theorem vY {d f : Nat} {xs : Array Operand} {ts : Array TypeId} {vs : Array Value} {u : Value} (ht : Tk N ops σ o) (hd : o.dst = some d) (hN : d < N)
  (ho : o.op = .call { callee:=.value (.func f),args:=xs,argTypes:=ts }) (hf : ∀ args w,(callFunc f args).run P w = .ok (.enter f args) w)
  (hC : Calls P f vs w (Rt (RP w u))) (hvs : xs.toList.map (ev σ) = vs.toList) (h : ∀ w1,Ext w w1→WL P N ops Q rest (upd σ d u) w1) : WL P N ops Q (o :: rest) σ w:=
 jX ht hd hN ho hf hC hvs fun v w1 hA=>by obtain ⟨h1,rfl⟩:=hA; exact h w1 h1
theorem vJ {α : Type} {enc : α→List Value} {e : TypeId} {sz : Nat} {l : List α} {d f : Nat} {xs : Array Operand} {ts : Array TypeId} {vs : Array Value} (ht : Tk N ops σ o) (hd : o.dst = some d) (hN : d < N)
  (ho : o.op = .call { callee:=.value (.func f),args:=xs,argTypes:=ts }) (hf : ∀ args w,(callFunc f args).run P w = .ok (.enter f args) w)
  (hC : Calls P f vs w (Rt (RO e sz enc w l))) (hvs : xs.toList.map (ev σ) = vs.toList) (h : ∀ v w1,Ext w w1→Ow e sz enc w.heap.size w1 v l→WL P N ops Q rest (upd σ d v) w1) : WL P N ops Q (o :: rest) σ w:=
 jX ht hd hN ho hf hC hvs fun v w1 hA=>h v w1 hA.1 hA.2
def nin : List (Nat × Nat)→Nat→Bool
 | [],_=>true
 | r :: l,t=>!(Nat.ble r.1 t && Nat.blt t r.2) && nin l t
def Xs (l1 l2 : List (Nat × Nat)) : Bool:=l1.all fun r=>l2.any fun q=>Nat.ble q.1 r.1 && Nat.ble r.2 q.2
def Kp (l : List (Nat × Nat)) (σ σ' : Fr) : Prop:=∀ t,nin l t = true→σ' t = σ t
theorem Kp.refl (l : List (Nat × Nat)) (σ : Fr) : Kp l σ σ:=fun _ _=>rfl
theorem Kp.upd {l : List (Nat × Nat)} {σ σ' : Fr} {d : Nat} {v : Value} (h : Kp l σ σ') (hd : nin l d = false) : Kp l σ (upd σ' d v):=fun t ht=>by
 have : t ≠ d:=fun e=>by rw [e,hd] at ht; cases ht
 rw [Ve _ _ _ _ this]; exact h t ht
theorem JY {l2 : List (Nat × Nat)} {t : Nat} : ∀ l1,Xs l1 l2 = true→nin l2 t = true→nin l1 t = true:=by
 intro l1
 induction l1 with
 | nil=>intro _ _; rfl
 | cons r l1 ih=>
  intro hs ht
  simp only [Xs,List.all_cons,Bool.and_eq_true,List.any_eq_true] at hs
  obtain ⟨⟨q,hq,hq1,hq2⟩,hs2⟩:=hs
  simp only [nin,ih hs2 ht,Bool.and_true]
  have key : ∀ l,q ∈ l→nin l t = true→¬ (q.1≤t∧t < q.2):=by
   intro l
   induction l with
   | nil=>intro h; simp at h
   | cons x l ihl=>
    intro h hn
    simp only [nin,Bool.and_eq_true,Bool.not_eq_true',Bool.and_eq_false_iff] at hn
    rcases List.mem_cons.1 h with rfl | h
    ·rintro ⟨h1,h2⟩
     rcases hn.1 with h3 | h3
     ·rw [Nat.ble_eq_true_of_le h1] at h3; cases h3
     ·have : Nat.blt t q.2 = true:=by rw [Nat.blt_eq]; exact h2
      rw [this] at h3; cases h3
    ·exact ihl h hn.2
  have h3:=key l2 hq ht
  have h4:=Nat.le_of_ble_eq_true hq1
  have h5:=Nat.le_of_ble_eq_true hq2
  cases hb : (Nat.ble r.1 t && Nat.blt t r.2) with
  | false=>rfl
  | true=>
   simp only [Bool.and_eq_true] at hb
   have h6:=Nat.le_of_ble_eq_true hb.1
   have h7 : t < r.2:=by have:=hb.2; rwa [Nat.blt_eq] at this
   omega
theorem Kp.cut {l l1 : List (Nat × Nat)} {σ σ1 σ2 : Fr} (h : Kp l σ σ1) (h1 : Kp l1 σ1 σ2) (hs : Xs l1 l = true) : Kp l σ σ2:=fun t ht=>by
 rw [h1 t (JY l1 hs ht),h t ht]
theorem qH (b : Bool) : b = true∨b = false:=by cases b <;> simp
theorem qa {α : Type} {b : Bool} {x : Option α} {r : α} (h : (bif b then x else none) = some r) : b = true∧x = some r:=by cases b <;> simp_all
theorem qg {α : Type} {b : Bool} {x y : Option α} {r : α} (h : (bif b then x else y) = some r) : (b = true∧x = some r)∨(b = false∧y = some r):=by cases b <;> simp_all
theorem bind_some {α β : Type} {x : Option α} {f : α→Option β} {r : β} (h : (x.bind f) = some r) : ∃ z,x = some z∧f z = some r:=Option.bind_eq_some_iff.1 h
theorem vv (I : Fr→Fr→World→Prop) {x : Code} (h1 : W P N x (thn (I σ) Q) σ w) (h2 : ∀ σ' w',I σ σ' w'→Q .normal σ' w') : W P N x Q σ w:=
 fun a ha=>Code.wp_mono (fun e a' w' hq=>by
  obtain ⟨σ',hr,hq⟩:=hq
  cases e with
  | normal=>exact ⟨σ',hr,h2 σ' w' hq⟩
  | _=>exact ⟨σ',hr,hq⟩) (h1 a ha)
theorem vh {c : Code} (I : Fr→Nat→Fr→World→Prop) (k : Nat) (h0 : I σ k σ w)
  (round : ∀ k σ' w',I σ k σ' w'→W P N c (thn (fun σ'' w''=>∃ k',k' < k∧I σ k' σ'' w'') Q) σ' w') : W P N (.loop c) Q σ w:=Xt (I σ) k h0 round
end
inductive Step (T V E : Type) : Type
 | nxt (v : V)
 | brk (e : E)
 | ret (t : T)
def ql {T V E : Type} (b : V→Option (Step T V E)) : Nat→V→Option (T ⊕ E)
 | 0,_=>none
 | k + 1,v=>(b v).bind fun s=>match s with
  | .nxt v'=>ql b k v'
  | .brk e=>some (.inr e)
  | .ret t=>some (.inl t)
theorem qL {T V E : Type} {b : V → Option (Step T V E)} {k : Nat} {v : V} {z : T ⊕ E} (h : ql b (k + 1) v = some z) :
    ∃ s,b v = some s∧(match s with | .nxt v'=>ql b k v' | .brk e=>some (.inr e) | .ret t=>some (.inl t)) = some z:=by
  simp only [ql] at h
  obtain ⟨s,h1,h2⟩:=Option.bind_eq_some_iff.1 h
  exact ⟨s,h1,h2⟩
structure Rec where
 kind : Int
 path : List UInt8
 body : List UInt8
 mode : Int
 opq : Bool
 deriving DecidableEq,Inhabited
structure Nd where
 kind : Int
 path : List UInt8
 body : List UInt8
 mode : Int
 deriving DecidableEq,Inhabited
structure Pick where
 path : List UInt8
 layer : Int
 deriving DecidableEq,Inhabited
def okRec (x : Rec) : Prop:=x.path.length≤9223372036854775807∧x.body.length≤9223372036854775807
def YG (x : Nd) : Prop:=x.path.length≤9223372036854775807∧x.body.length≤9223372036854775807
instance (x : Rec) : Decidable (okRec x):=inferInstanceAs (Decidable (_∧_))
instance (x : Nd) : Decidable (YG x):=inferInstanceAs (Decidable (_∧_))
abbrev vI (l : List UInt8) : List Value:=[S l]
abbrev encI (k : IntKind) (n : Int) : List Value:=[.int k n]
abbrev encB (b : Bool) : List Value:=[.bool b]
abbrev QV (v : Value) : List Value:=[v]
abbrev qv (r : Rec) : List Value:=[.int .i64 r.kind,S r.path,S r.body,.int .i64 r.mode,.bool r.opq]
abbrev qJ (r : Nd) : List Value:=[.int .i64 r.kind,S r.path,S r.body,.int .i64 r.mode]
abbrev encPick (r : Pick) : List Value:=[S r.path,.int .i64 r.layer]
def anyV (tb ti : Nat) : Bool ⊕ Int→Value
 | .inl b=>.iface tb (.bool b)
 | .inr n=>.iface ti (.int .i64 n)
abbrev VL (tb ti : Nat) (x : Bool ⊕ Int) : List Value:=[anyV tb ti x]
instance : Inhabited (Bool ⊕ Int):=⟨.inl false⟩
abbrev byt (s : List UInt8) (i : Int) : Int:=((s.getD i.toNat 0).toNat : Int)
theorem jH (ys : List Rec) : ∀ y ∈ ys,∀ c ∈ qv y,c.oneCell' = true:=by intro y _ c hc; simp at hc; rcases hc with rfl | rfl | rfl | rfl | rfl <;> rfl
section
variable {σ : Fr} {w0 w : World}
theorem qS {t : Nat} {u : Value} (h : σ t = u) (he : Ext w0 w) : Rt (RP w0 u) (.returned (QC [.tmp t] σ)) w:=⟨_,rfl,he,h⟩
theorem Q3 {α : Type} {e sz B : Nat} {enc : α→List Value} {xs : List α} {t : Nat} {v : Value} (h : σ t = v) (he : Ext w0 w) (ho : Ow e sz enc B w v xs) (hB : w0.heap.size≤B) : Rt (RO e sz enc w0 xs) (.returned (QC [.tmp t] σ)) w:=
 ⟨_,rfl,he,by show Ow e sz enc w0.heap.size w (σ t) xs; rw [h]; exact ho.base hB⟩
end
section
variable {P : Program} {N : Nat} {Q : yb} {σ : Fr} {w : World} {ops : Array Oper} {rest : List Oper} {o : Oper}
end
def jr (P : Program) (w : World) (v : Value) (args : List Value) (u : Value) : Prop:=
 ∃ f fs cs,v = .func (.func f) fs cs∧(∀ args w,(callFunc f args).run P w = .ok (.enter f args) w)∧∀ w',Ext w w'→Calls P f (fs ++ args.toArray ++ cs) w' (Rt (RP w' u))
theorem jr.ext {P : Program} {w w' : World} {v u : Value} {args : List Value} (h : jr P w v args u) (k : Ext w w') : jr P w' v args u:=by
 obtain ⟨f,fs,cs,hv,hf,hc⟩:=h
 exact ⟨f,fs,cs,hv,hf,fun w1 k1=>hc w1 (k.trans k1)⟩
theorem jr.mk {P : Program} {w : World} {u : Value} {args : List Value} {f : Nat} {fs cs : Array Value} (hf : ∀ args w,(callFunc f args).run P w = .ok (.enter f args) w) {vs : Array Value} (hvs : fs.toList ++ args ++ cs.toList = vs.toList) (h : ∀ w',Ext w w'→Calls P f vs w' (Rt (RP w' u))) :
  jr P w (.func (.func f) fs cs) args u:=⟨f,fs,cs,rfl,hf,by
 have e : fs ++ args.toArray ++ cs = vs:=by rw [← Array.toList_inj]; simpa using hvs
 rw [e]; exact h⟩
def GV (g : Nat) (w : World) : Prop:=∃ m,w.cell? ⟨g,0,none⟩ = some (.int .i64 m)
theorem GV.ext {g : Nat} {w w' : World} (h : GV g w) (k : Ext w w') : GV g w':=by
 obtain ⟨m,h⟩:=h
 exact ⟨m,by rw [k.cell (World.block_lt_of_cell? w _ h)]; exact h⟩
def jv (L : Value→World→Prop) : Prop:=∀ v w w',Ext w w'→L v w→L v w'
def j8 : List (Value→World→Prop)→Prop
 | []=>True
 | l :: r=>jv l∧j8 r
theorem j8.get {l : List (Value→World→Prop)} (h : j8 l) : ∀ i v w w',Ext w w'→l.getD i (fun _ _=>True) v w→l.getD i (fun _ _=>True) v w':=by
 induction l with
 | nil=>intro i v w w' _ _; simp
 | cons a r ih=>
  intro i v w w' k hh
  cases i with
  | zero=>exact h.1 v w w' k hh
  | succ i=>exact ih h.2 i v w w' k hh
abbrev LEq (u : Value) : Value→World→Prop:=fun v _=>v = u
abbrev LAt (off : Nat) (cs : List Value) : Value→World→Prop:=fun v w=>∃ p : Addr,v = .pointer (some (p.add off))∧At w p cs
abbrev yW (cs : List Value) : Value→World→Prop:=fun v w=>∃ p : Addr,v = .pointer (some p)∧At w p cs
abbrev LRd {α : Type} (sz : Nat) (enc : α→List Value) (xs : List α) : Value→World→Prop:=fun v w=>Rd sz enc w v xs
abbrev LIf (c : Bool) (L : Value→World→Prop) : Value→World→Prop:=fun v w=>(c = true→L v w)∧(c = false→v = undef)
theorem LEq.mono {u : Value} : jv (LEq u):=fun _ _ _ _ h=>h
theorem LAt.mono {off : Nat} {cs : List Value} : jv (LAt off cs):=fun _ _ _ k ⟨p,h,hA⟩=>⟨p,h,hA.ext k⟩
theorem yW.mono {cs : List Value} : jv (yW cs):=fun _ _ _ k ⟨p,h,hA⟩=>⟨p,h,hA.ext k⟩
theorem LRd.mono {α : Type} {sz : Nat} {enc : α→List Value} {xs : List α} : jv (LRd sz enc xs):=fun _ _ _ k h=>Rd.ext h k
theorem LIf.mono {c : Bool} {L : Value→World→Prop} (h : jv L) : jv (LIf c L):=fun v w w' k hh=>⟨fun e=>h v w w' k (hh.1 e),hh.2⟩
theorem Blk.cs {w : World} {b : Nat} {cs cs' : Array Value} {T : TypeId} (h : Blk w b cs T) (e : cs = cs') : Blk w b cs' T:=e ▸ h
section
variable {P : Program} {N : Nat} {Q : yb} {σ : Fr} {w : World} {ops : Array Oper} {rest : List Oper} {o : Oper}
end
def Rd2 {α : Type} (sz : Nat) (enc : α→List Value) (w : World) (v : Value) (xss : List (List α)) : Prop:=
 ∃ vs : List Value,vs.length = xss.length∧Rd 1 QV w v vs∧∀ (i : Nat) (u : Value) (xs : List α),vs[i]? = some u→xss[i]? = some xs→Rd sz enc w u xs
theorem Rd2.ext {α : Type} {sz : Nat} {enc : α→List Value} {w w' : World} {v : Value} {xs : List (List α)} (h : Rd2 sz enc w v xs) (k : Ext w w') : Rd2 sz enc w' v xs:=by
 obtain ⟨vs,hl,hR,hi⟩:=h
 exact ⟨vs,hl,hR.ext k,fun i u x h1 h2=>(hi i u x h1 h2).ext k⟩
theorem Rd2.nil {α : Type} (sz : Nat) (enc : α→List Value) (w : World) : Rd2 sz enc w (.slice none 0 0) ([] : List (List α)):=⟨[],rfl,Rd.nil _ _ _,by simp⟩
section
variable {P : Program} {N : Nat} {Q : yb} {σ : Fr} {w : World} {ops : Array Oper} {rest : List Oper} {o : Oper}
theorem Rd2.shape {α : Type} {sz : Nat} {enc : α→List Value} {v : Value} {xs : List (List α)} (h : Rd2 sz enc w v xs) : ∃ A c,v = .slice A xs.length c:=by
 obtain ⟨vs,hl,hR,_⟩:=h
 obtain ⟨A,c,hv⟩:=hR.shape
 exact ⟨A,c,by rw [hv,hl]⟩
end
structure Gr (lo hi : Nat) (w w' : World) : Prop where
 os : w'.os = w.os
 tape : w'.tape = w.tape
 output : w'.output = w.output
 size : w.heap.size≤w'.heap.size
 block : ∀ k,k < w.heap.size→¬ (lo≤k∧k < hi)→w'.heap[k]? = w.heap[k]?
 drawn : w.drawn≤w'.drawn
theorem Gr.refl (lo hi : Nat) (w : World) : Gr lo hi w w:=⟨rfl,rfl,rfl,Nat.le_refl _,fun _ _ _=>rfl,Nat.le_refl _⟩
theorem Gr.ext {lo hi : Nat} {w w' : World} (h : Ext w w') : Gr lo hi w w':=⟨h.os,h.tape,h.output,h.size,fun k hk _=>h.block k hk,h.drawn⟩
theorem Gr.trans {lo hi : Nat} {a b c : World} (h : Gr lo hi a b) (k : Gr lo hi b c) : Gr lo hi a c:=
 ⟨k.os.trans h.os,k.tape.trans h.tape,k.output.trans h.output,Nat.le_trans h.size k.size,fun i hi hn=>(k.block i (Nat.lt_of_lt_of_le hi h.size) hn).trans (h.block i hi hn),Nat.le_trans h.drawn k.drawn⟩
theorem Gr.below {lo hi B : Nat} {w w' : World} (h : Gr lo hi w w') (hB : B≤lo) (hw : B≤w.heap.size) : Below B w w':=⟨h.os,h.tape,h.output,h.size,fun k hk=>h.block k (by omega) (by omega),h.drawn⟩
def HB (v : Value) (hi : Nat) : Prop:=(∃ A,v = .slice A 0 0)∨∀ b,v.ownBlock = some b→b < hi
theorem Ow.hb {α : Type} {e : TypeId} {sz base : Nat} {enc : α→List Value} {w : World} {v : Value} {xs : List α} (h : Ow e sz enc base w v xs) : HB v w.heap.size:=by
 obtain ⟨h | ⟨h,_⟩,_⟩:=h
 ·exact .inr fun b hb=>(h.lt b hb).2
 ·exact .inl h
theorem HB.mono {v : Value} {a b : Nat} (h : HB v a) (k : a≤b) : HB v b:=h.imp id fun h c hc=>Nat.lt_of_lt_of_le (h c hc) k
theorem Ow.gr0 {α : Type} {e : TypeId} {sz base lo hi : Nat} {enc : α→List Value} {w w' : World} {v : Value} {xs : List α} (h : Ow e sz enc base w v xs) (k : Gr lo hi w w')
  (hd : (∃ A,v = .slice A 0 0)∨∀ b,v.ownBlock = some b→¬ (lo≤b∧b < hi)) : Ow e sz enc base w' v xs:=by
 obtain ⟨h1 | h1,h2⟩:=h
 ·rcases hd with ⟨A,hA⟩ | hd
  ·rcases h1.2 with ⟨hv,hn⟩ | ⟨g,cap,cur,hv,hb,hh,hnc,hcm,hsz,htk⟩
   ·exact ⟨.inr ⟨⟨A,hA⟩,List.eq_nil_of_length_eq_zero hn⟩,h2⟩
   ·rw [hv] at hA; injection hA with _ hl _
    exact ⟨.inr ⟨⟨some ⟨g,0,none⟩,by rw [hv]; rename_i h7; rw [hl,h7]⟩,List.eq_nil_of_length_eq_zero hl⟩,h2⟩
  ·rcases h1.2 with ⟨hv,hn⟩ | ⟨g,cap,cur,hv,hb,hh,r⟩
   ·exact ⟨.inl ⟨h1.1,.inl ⟨hv,hn⟩⟩,h2⟩
   ·refine ⟨.inl ⟨h1.1,.inr ⟨g,cap,cur,hv,hb,?_,r⟩⟩,h2⟩
    rw [k.block g (Array.getElem?_eq_some_iff.1 hh).1 (hd g (by rw [hv]; rfl)),hh]
 ·exact ⟨.inr h1,h2⟩
theorem Ow.later {α : Type} {e : TypeId} {sz base lo hi : Nat} {enc : α→List Value} {w w' : World} {v : Value} {xs : List α} (h : Ow e sz enc base w v xs) (k : Gr lo hi w w') (hb : hi≤base) : Ow e sz enc base w' v xs:=by
 refine h.gr0 k ?_
 obtain ⟨h1 | h1,_⟩:=h
 ·exact .inr fun b hb'=>by have:=(h1.lt b hb').1; omega
 ·exact .inl h1.1
def OP {α : Type} [Inhabited α] (e : TypeId) (sz : Nat) (enc : α→List Value) (base : Nat) (w : World) (v : Value) (xs : List α) (i : Int) (p : Addr) : Prop:=
 Ow e sz enc base w v xs∧inR i xs.length = true∧∃ g,v.ownBlock = some g∧p = ⟨g,i.toNat * sz,none⟩
theorem OP.ext {α : Type} [Inhabited α] {e : TypeId} {sz base : Nat} {enc : α→List Value} {w w' : World} {v : Value} {xs : List α} {i : Int} {p : Addr} (h : OP e sz enc base w v xs i p) (k : Ext w w') : OP e sz enc base w' v xs i p:=⟨h.1.ext k,h.2⟩
theorem Ow.row {α : Type} {e : TypeId} {sz base : Nat} {enc : α→List Value} {w : World} {v : Value} {xs : List α} (h : Ow e sz enc base w v xs) (h0 : 0 < xs.length) :
  ∃ g cap cur,v = .slice (some ⟨g,0,none⟩) xs.length cap∧base≤g∧w.heap[g]? = some (.cells cur e (0,0))∧xs.length≤cap∧cap≤maxLen∧cur.size = cap * sz∧cur.toList.take (xs.length * sz) = xs.flatMap enc:=by
 obtain ⟨h1 | h1,_⟩:=h
 ·rcases h1.2 with ⟨_,hn⟩ | h2
  ·omega
  ·exact h2
 ·rw [h1.2] at h0; simp at h0
section
variable {P : Program} {N : Nat} {Q : yb} {σ : Fr} {w : World} {ops : Array Oper} {rest : List Oper} {o : Oper}
end
abbrev RM {α : Type} (e : TypeId) (sz : Nat) (enc : α→List Value) (lo hi : Nat) (w : World) (u v0 : Value) (xs : List α) : Value→World→Prop:=fun v w'=>v = u∧Gr lo hi w w'∧Ow e sz enc lo w' v0 xs
theorem HB.lt {v : Value} {hi b n c : Nat} {A : Option Addr} (h : HB v hi) (hb : v.ownBlock = some b) (hv : v = .slice A (n + 1) c) : b < hi:=by
 rcases h with ⟨A',h⟩ | h
 ·rw [hv] at h; injection h with _ h _; cases h
 ·exact h b hb
theorem HB.own {α : Type} {e : TypeId} {sz base hi b : Nat} {enc : α→List Value} {w : World} {v : Value} {xs : List α} (h : HB v hi) (hb : v.ownBlock = some b) (ho : Ow e sz enc base w v xs) (h0 : 0 < xs.length) : b < hi:=by
 obtain ⟨g,cap,cur,hv,_⟩:=ho.row h0
 obtain ⟨n,hn⟩ : ∃ n,xs.length = n + 1:=⟨xs.length - 1,by omega⟩
 exact h.lt hb (by rw [hv,hn])
section
variable {P : Program} {N : Nat} {Q : yb} {σ : Fr} {w : World} {ops : Array Oper} {rest : List Oper} {o : Oper}
end
section
variable {P : Program} {σ : Fr} {w : World}
end
section
variable {P : Program} {σ : Fr} {w : World} {x y : Operand}
end
section
variable {P : Program} {N : Nat} {Q : yb} {σ : Fr} {w : World} {ops : Array Oper} {rest : List Oper} {o : Oper}
end
theorem Rd.cs {α : Type} {sz : Nat} {enc : α→List Value} {w : World} {v : Value} {xs : List α} (h : Rd sz enc w v xs) : v.cells = #[v]:=by
 obtain ⟨A,c,rfl⟩:=h.shape; rfl
theorem Rd2.cs {α : Type} {sz : Nat} {enc : α→List Value} {w : World} {v : Value} {xs : List (List α)} (h : Rd2 sz enc w v xs) : v.cells = #[v]:=by
 obtain ⟨A,c,rfl⟩:=h.shape; rfl
def y7 (v u : Value) : Prop:=(∃ A,v = .slice A 0 0)∨(∃ A,u = .slice A 0 0)∨∀ b,v.ownBlock = some b→u.ownBlock ≠ some b
theorem y7.symm {v u : Value} (h : y7 v u) : y7 u v:=by
 rcases h with h | h | h
 ·exact .inr (.inl h)
 ·exact .inl h
 ·exact .inr (.inr fun b h1 h2=>h b h2 h1)
theorem y7.zero {u : Value} {A : Option Addr} : y7 (.slice A 0 0) u:=.inl ⟨A,rfl⟩
theorem y7.of {α : Type} {e : TypeId} {sz base : Nat} {enc : α→List Value} {w : World} {v u : Value} {xs : List α} (h : Ow e sz enc base w u xs) (hv : HB v base) : y7 v u:=by
 rcases hv with hv | hv
 ·exact .inl hv
 ·obtain ⟨h1 | h1,_⟩:=h
  ·exact .inr (.inr fun b h2 h3=>by have:=hv b h2; have:=(h1.lt b h3).1; omega)
  ·exact .inr (.inl h1.1)
def yT {α : Type} (e e2 : TypeId) (sz : Nat) (enc : α→List Value) (base : Nat) (w : World) (v : Value) (xss : List (List α)) : Prop:=
 ∃ vs : List Value,vs.length = xss.length∧Ow e 1 QV base w v vs∧(∀ (i : Nat) (u : Value) (xs : List α),vs[i]? = some u→xss[i]? = some xs→Ow e2 sz enc base w u xs)∧
  (∀ (i : Nat) (u : Value),vs[i]? = some u→y7 v u)∧∀ (i j : Nat) (u u' : Value),i ≠ j→vs[i]? = some u→vs[j]? = some u'→y7 u u'
theorem yT.rd {α : Type} {e e2 : TypeId} {sz base : Nat} {enc : α→List Value} {w : World} {v : Value} {xss : List (List α)} (h : yT e e2 sz enc base w v xss) : Rd2 sz enc w v xss:=by
 obtain ⟨vs,hl,hO,hi,_⟩:=h
 exact ⟨vs,hl,hO.rd,fun i u xs h1 h2=>(hi i u xs h1 h2).rd⟩
theorem yT.ext {α : Type} {e e2 : TypeId} {sz base : Nat} {enc : α→List Value} {w w' : World} {v : Value} {xss : List (List α)} (h : yT e e2 sz enc base w v xss) (k : Ext w w') : yT e e2 sz enc base w' v xss:=by
 obtain ⟨vs,hl,hO,hi,hd⟩:=h
 exact ⟨vs,hl,hO.ext k,fun i u xs h1 h2=>(hi i u xs h1 h2).ext k,hd⟩
theorem yT.zero {α : Type} {e e2 : TypeId} {sz base : Nat} {enc : α→List Value} {w : World} {A : Option Addr} : yT e e2 sz enc base w (.slice A 0 0) ([] : List (List α)):=
 ⟨[],rfl,Ow.zero,by simp,by simp,by simp⟩
theorem yT.base {α : Type} {e e2 : TypeId} {sz base base' : Nat} {enc : α→List Value} {w : World} {v : Value} {xss : List (List α)} (h : yT e e2 sz enc base w v xss) (hb : base'≤base) : yT e e2 sz enc base' w v xss:=by
 obtain ⟨vs,hl,hO,hi,hd⟩:=h
 exact ⟨vs,hl,hO.base hb,fun i u xs h1 h2=>(hi i u xs h1 h2).base hb,hd⟩
def HB2 (w : World) (v : Value) (hi : Nat) : Prop:=HB v hi∧∀ vs : List Value,Rd 1 QV w v vs→∀ (i : Nat) (u : Value),vs[i]? = some u→HB u hi
theorem Rd.uniq {w : World} {v : Value} {xs ys : List Value} (h : Rd 1 QV w v xs) (k : Rd 1 QV w v ys) : xs = ys:=by
 obtain ⟨A,c,hv,_,_,hc⟩:=h
 obtain ⟨A',c',hv',_,_,hc'⟩:=k
 rw [hv] at hv'; injection hv' with e1 e2 e3
 apply List.ext_getElem e2
 intro i h1 h2
 obtain ⟨a,ha,g⟩:=hc (by omega)
 obtain ⟨a',ha',g'⟩:=hc' (by omega)
 have : a = a':=by rw [e1,ha'] at ha; exact (Option.some.inj ha).symm
 subst this
 have q1:=g i h1 0 xs[i] rfl
 have q2:=g' i h2 0 ys[i] rfl
 rw [q1] at q2
 exact Option.some.inj q2
theorem yT.hb {α : Type} {e e2 : TypeId} {sz base : Nat} {enc : α→List Value} {w : World} {v : Value} {xss : List (List α)} (h : yT e e2 sz enc base w v xss) : HB2 w v w.heap.size:=by
 obtain ⟨vs,hl,hO,hi,_⟩:=h
 refine ⟨hO.hb,fun vs' hR i u hu=>?_⟩
 have:=Rd.uniq hO.rd hR
 subst this
 have hlt : i < xss.length:=by rw [← hl]; exact (List.getElem?_eq_some_iff.1 hu).1
 exact (hi i u _ hu (List.getElem?_eq_getElem hlt)).hb
def OP2 {α : Type} (e e2 : TypeId) (sz : Nat) (enc : α→List Value) (base : Nat) (w : World) (v : Value) (xss : List (List α)) (i : Int) (p : Addr) : Prop:=
 yT e e2 sz enc base w v xss∧inR i xss.length = true∧∃ g,v.ownBlock = some g∧p = ⟨g,i.toNat * 1,none⟩
theorem OP2.ext {α : Type} {e e2 : TypeId} {sz base : Nat} {enc : α→List Value} {w w' : World} {v : Value} {xss : List (List α)} {i : Int} {p : Addr} (h : OP2 e e2 sz enc base w v xss i p) (k : Ext w w') : OP2 e e2 sz enc base w' v xss i p:=⟨h.1.ext k,h.2⟩
theorem Rt.mono {A B : Value→World→Prop} (h : ∀ v w,A v w→B v w) : ∀ e w,Rt A e w→Rt B e w:=fun e w ⟨v,he,ha⟩=>⟨v,he,h v w ha⟩
abbrev ROS {α : Type} (e e2 : TypeId) (sz : Nat) (enc : α→List Value) (w : World) (xss : List (List α)) : Value→World→Prop:=fun v w'=>Ext w w'∧yT e e2 sz enc w.heap.size w' v xss
abbrev RTS {α : Type} (e e2 : TypeId) (sz : Nat) (enc : α→List Value) (w : World) (xss : List (List α)) (u : Value) : Value→World→Prop:=fun v w'=>Ext w w'∧∃ v1,v = .tuple #[v1,u]∧yT e e2 sz enc w.heap.size w' v1 xss
section
variable {P : Program} {N : Nat} {Q : yb} {σ : Fr} {w : World} {ops : Array Oper} {rest : List Oper} {o : Oper}
end
def LAt2 {α : Type} (sz : Nat) (enc : α→List Value) (xs : List α) (v : Value) (w : World) : Prop:=∃ p u,v = .pointer (some p)∧At w p [u]∧Rd sz enc w u xs
theorem LAt2.mono {α : Type} {sz : Nat} {enc : α→List Value} {xs : List α} : jv (LAt2 sz enc xs):=fun _ _ _ k ⟨p,u,h,hA,hR⟩=>⟨p,u,h,hA.ext k,hR.ext k⟩
def V9 {α : Type} (sz : Nat) (enc : α→List Value) (w : World) : List Value→List (List α)→Prop
 | [],[]=>True
 | u :: vs,xs :: xss=>Rd sz enc w u xs∧V9 sz enc w vs xss
 | _,_=>False
theorem Rd.cells_one {α : Type} {sz : Nat} {enc : α→List Value} {w : World} {v : Value} {xs : List α} (h : Rd sz enc w v xs) : v.cells = #[v]:=by
 obtain ⟨A,c,hv⟩:=h.shape
 rw [hv]; rfl
theorem Rd.one {α : Type} {sz : Nat} {enc : α→List Value} {w : World} {v : Value} {xs : List α} (h : Rd sz enc w v xs) : v.cells.size = 1:=by rw [h.cells_one]; rfl
theorem V9.spec {α : Type} {sz : Nat} {enc : α→List Value} {w : World} : ∀ {vs : List Value} {xss : List (List α)},V9 sz enc w vs xss→vs.length = xss.length∧(∀ (i : Nat) (u : Value) (xs : List α),vs[i]? = some u→xss[i]? = some xs→Rd sz enc w u xs)∧(vs.map fun v=>v.cells.toList).flatten = vs.flatMap QV:=by
 intro vs
 induction vs with
 | nil=>
  intro xss h
  cases xss with
  | nil=>exact ⟨rfl,fun i u xs h1 _=>by simp at h1,rfl⟩
  | cons xs xss=>exact h.elim
 | cons u vs ih=>
  intro xss h
  cases xss with
  | nil=>exact h.elim
  | cons xs xss=>
   obtain ⟨h1,h2⟩:=h
   obtain ⟨i1,i2,i3⟩:=ih h2
   refine ⟨by simp [i1],fun i v ys hv hy=>?_,?_⟩
   ·cases i with
    | zero=>
     simp only [List.getElem?_cons_zero,Option.some.injEq] at hv hy
     subst hv; subst hy; exact h1
    | succ i=>
     simp only [List.getElem?_cons_succ] at hv hy
     exact i2 i v ys hv hy
   ·rw [List.map_cons,List.flatten_cons,List.flatMap_cons,i3,h1.cells_one]
theorem Rd2.new {α : Type} {sz : Nat} {enc : α→List Value} {w : World} {b : Nat} {e : TypeId} {vs : List Value} {xss : List (List α)} (k : Blk w b ⟨(vs.map fun v=>v.cells.toList).flatten⟩ e) (h : V9 sz enc w vs xss) (hm : vs.length≤9223372036854775807) :
  Rd2 sz enc w (.slice (some ⟨b,0,none⟩) vs.length vs.length) xss:=by
 obtain ⟨h1,h2,h3⟩:=h.spec
 refine ⟨vs,h1,Ow.rd (Ow.new (base:=0) k (Nat.zero_le _) h3 (fun _ _=>rfl) hm),h2⟩
structure DF where
 soft : Bool
 rigid : Bool
 early : Bool
 fin : Bool
 use : List Nat
def df0 : DF:=⟨true,true,false,false,[]⟩
def Rig (L : Value→World→Prop) : Prop:=∀ v w w',L v w→L v w'
theorem Rig.mono {L : Value→World→Prop} (h : Rig L) : jv L:=fun v w w' _ k=>h v w w' k
def Gk : List DF→List (Value→World→Prop)→Prop
 | [],[]=>True
 | f :: F,l :: L=>(jv l∧(f.rigid = true→Rig l))∧Gk F L
 | _,_=>False
theorem Gk.get : ∀ {F : List DF} {L : List (Value→World→Prop)},Gk F L→∀ i,jv (L.getD i (fun _ _=>True))∧((F.getD i df0).rigid = true→Rig (L.getD i (fun _ _=>True))):=by
 intro F
 induction F with
 | nil=>
  intro L h i
  cases L with
  | nil=>exact ⟨fun _ _ _ _ _=>by simp,fun _ _ _ _ _=>by simp⟩
  | cons a r=>exact h.elim
 | cons f F ih=>
  intro L h i
  cases L with
  | nil=>exact h.elim
  | cons a r=>
   cases i with
   | zero=>exact h.1
   | succ i=>exact ih h.2 i
abbrev LAtW (w0 : World) (off : Nat) (cs : List Value) : Value→World→Prop:=fun v _=>∃ p : Addr,v = .pointer (some (p.add off))∧At w0 p cs
abbrev JF (w0 : World) (cs : List Value) : Value→World→Prop:=fun v _=>∃ p : Addr,v = .pointer (some p)∧At w0 p cs
abbrev Gh {α : Type} (w0 : World) (sz : Nat) (enc : α→List Value) (xs : List α) : Value→World→Prop:=fun v _=>Rd sz enc w0 v xs
abbrev LOw {α : Type} (e : TypeId) (sz : Nat) (enc : α→List Value) (B : Nat) (xs : List α) : Value→World→Prop:=fun v w=>Ow e sz enc B w v xs
abbrev X0 : Value→World→Prop:=fun v _=>∃ b,v = .slice (some ⟨b,0,none⟩) 0 0
theorem LOw.mono {α : Type} {e : TypeId} {sz B : Nat} {enc : α→List Value} {xs : List α} : jv (LOw e sz enc B xs):=fun _ _ _ k h=>Ow.ext h k
abbrev LTup {α : Type} (e : TypeId) (sz : Nat) (enc : α→List Value) (B : Nat) (xs : List α) (r : Value) : Value→World→Prop:=fun v w=>∃ u,v = .tuple #[u,r]∧Ow e sz enc B w u xs
theorem LTup.mono {α : Type} {e : TypeId} {sz B : Nat} {enc : α→List Value} {xs : List α} {r : Value} : jv (LTup e sz enc B xs r):=fun _ _ _ k ⟨u,h,ho⟩=>⟨u,h,Ow.ext ho k⟩
end Go.UD
