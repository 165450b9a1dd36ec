import Derived.Test.YtdhmlillkbjjjaaGreatDoorvP40
set_option linter.unusedVariables false
set_option linter.unusedSimpArgs false
namespace Go.UL
open Go.RowKit
theorem JD {l : List Rec} (h : Sheet l) : ∀ x ∈ l,x.path.length≤1048576:=fun x hx=>jo (vV (h.ok x hx))
theorem GC {t : List Nd} (h : Wood t) : ∀ x ∈ t,x.path.length≤1048576:=Ge h
theorem rt_ok {l : List Rec} {t : List Nd} (hl : Sheet l) (h16 : l.length≤16) (ht : Wood t) (h24 : t.length≤24) : Qz l t = 0:=by
 have n1 : ¬ 4096 < l.length:=by omega
 have n2 : ¬ 4096 < t.length:=by omega
 simp [Qz,n1,n2,QC hl h16,treeOK_of ht h24]
theorem JL {l : List Rec} {t : List Nd} (hl : Sheet l) (h16 : l.length≤16) (ht : Wood t) (h24 : t.length≤24) : qE l t = fitT (vd l t):=by simp [qE,rt_ok hl h16 ht h24]
theorem fit_ok {t : List Nd} (h : t.length≤24) : fitT t = (t,0):=by
 have : ¬ 24 < t.length:=by omega
 simp [fitT,this]
theorem look_pos {t : List Nd} {p : List UInt8} {x : Nd} (h : vZ t p = some x) : 0≤qU t p∧gt t (qU t p) = x∧inR (qU t p) t.length = true:=by
 have h1:=(jn t p).1.2 (by rw [h]; simp)
 exact ⟨h1,(jn t p).2 x h,JY (by omega)⟩
theorem pair_ok {a b : List Rec} (ha : Sheet a) (ha16 : a.length≤16) (hb : Sheet b) (hb16 : b.length≤16) : pairCode a b = 0:=by
 have n1 : ¬ 4096 < a.length:=by omega
 have n2 : ¬ 4096 < b.length:=by omega
 simp [pairCode,n1,n2,QC ha ha16,QC hb hb16]
theorem stack_mk {L : List (List Rec)} (h : ∀ l ∈ L,Sheet l∧l.length≤16) (h5 : L.length≤5) : YL L = true:=by
 simp only [YL,Bool.and_eq_true,decide_eq_true_eq,List.all_eq_true]
 exact ⟨h5,fun l hl=>QC (h l hl).1 (h l hl).2⟩
theorem found {t : List Nd} {p : List UInt8} {m : Nd} (ht : Wood t) (hp : qC p = true) (hm : vZ t p = some m) : findNd t p = (m,0):=by
 rw [resolve_down hp,resolve_there ht hp hm]
 simp [(look_pos hm).2.1]
def Stk (L : List (List Rec)) : Prop:=∀ l ∈ L,Lay l
theorem Stk.ok {L : List (List Rec)} (h : Stk L) (h5 : L.length≤5) : YL L = true:=stack_mk (fun l hl=>⟨(h l hl).sheet,(h l hl).len⟩) h5
end Go.UL
