/- The walks, by program (wip/tools). -/
import Derived.Test.YtfefjaohlhkmaaaGreatDoorProg
import Derived.Test.YtfefjaohlhkmaaaGreatDoorKJ
import Derived.Test.YtfefjaohlhkmaaaGreatDoorKL
import Derived.Test.YtfefjaohlhkmaaaGreatDoorlWA
set_option linter.unusedVariables false
set_option linter.unusedSimpArgs false
set_option maxRecDepth 10000
namespace Go.Proofs.YtfefjaohlhkmaaaGreatDoor
open Go.UL Go.RowKit
/-! impl.underOpaque$1 -/
theorem impl_underOpaque_1.walk {w : World} {a0 : Rec} {r : Bool} (H : impl_underOpaque_1.sh a0 = some r) :
  Calls Tryz.prog 233 #[.agg (encRec a0).toArray] w (Rt (RP w (.bool r))) := by
 unfold impl_underOpaque_1.sh at H
 refine calls_of_W Tryz.func233 rfl (Nat.le_of_ble_eq_true rfl) Tryz.ntmps233 rfl ?_
 refine wr <| L_box (.plain rfl) rfl (ltb rfl) rfl rfl <| fun b1 w2 z3 z4 e5 k6 => lp rfl rfl (xa (.bool false) rfl) <| nx <| wr <| lp rfl rfl (X_fieldAddr Tryz.underlying58 rfl Tryz.sizeOf4 rfl rfl) <| lp rfl rfl (X_loadB Tryz.isAgg4 k6 rfl rfl) <| lp rfl rfl (xa (.bool a0.opq) rfl) <| nx <| W_ret <| fin_r ?_
 obtain rfl := si H
 exact fin1 rfl e5
theorem impl_underOpaque_1.calls {w : World} {a0 : Rec} :
  Calls Tryz.prog 233 #[.agg (encRec a0).toArray] w (Rt (RP w (.bool a0.opq))) := impl_underOpaque_1.walk (impl_underOpaque_1.eq a0)
/-! impl.underOpaque -/
theorem impl_underOpaque.calls {w : World} {a0 : List Rec} {a1 : List UInt8} {v_a0 : Value} (f_a0 : Rd 5 encRec w v_a0 a0) (h0 : a0.length ≤ 1048576) (h1 : a1.length ≤ 1048576) :
  Calls Tryz.prog 151 #[v_a0, S a1] w (Rt (RP w (.bool (underO a0 a1)))) := by
 have H := impl_underOpaque.eq a0 a1 h0 h1
 generalize (underO a0 a1) = r at H ⊢
 unfold impl_underOpaque.sh at H
 refine calls_of_W Tryz.func151 rfl (Nat.le_of_ble_eq_true rfl) Tryz.ntmps151 rfl ?_
 refine wr <| lp rfl rfl (xa (.bool false) rfl) <| nx <| wr <| lp rfl rfl (xm v_a0 rfl) <| lp rfl rfl (xm (S a1) rfl) ?_
 obtain ⟨c5, H⟩ := bif_some H
 obtain ⟨c6, H⟩ := bif_some H
 obtain ⟨z7, x8, H⟩ := bind_some H
 refine lc rfl rfl rfl Tryz.call207 (impl_above.calls (w := w) (a0 := a0) (a1 := a1) (a2 := (fun (x0_ : Rec) => some x0_.opq)) f_a0 (fun x0_ r h => by have h := si h; subst h; exact FnAt.mk Tryz.call233 (by rfl) fun w3 k4 => impl_underOpaque_1.calls (w := w3) (a0 := x0_)) rfl (od c5) (od c6) x8) rfl <| fun w9 e10 => lp rfl rfl (xa (.bool z7) rfl) <| nx <| W_ret <| fin_r ?_
 obtain rfl := si H
 exact fin1 rfl e10
/-! spec.UnderOpaque -/
theorem spec_UnderOpaque.walk {w : World} {a0 : List Rec} {a1 : List UInt8} {v_a0 : Value} (f_a0 : Rd 5 encRec w v_a0 a0) {r : Bool × Int} (H : spec_UnderOpaque.sh a0 a1 = some r) :
  Calls Tryz.prog 55 #[v_a0, S a1] w (Rt (RP w (.tuple #[.bool r.1, .int .i64 r.2]))) := by
 unfold spec_UnderOpaque.sh at H
 refine calls_of_W Tryz.func55 rfl (Nat.le_of_ble_eq_true rfl) Tryz.ntmps55 rfl ?_
 refine wr <| lp rfl rfl (xa (.bool false) rfl) <| lp rfl rfl (xa (.int .i64 0) rfl) <| nx <| W_seq <| wr <| lp rfl rfl (xm v_a0 rfl) <| lp rfl rfl (X_lenR Tryz.underlying35 rfl f_a0) <| lp rfl rfl (X_gtr rfl rfl) <| lp rfl rfl (xm (.bool (decide (4096 < (a0.length : Int)))) rfl) <| L_grp 4 [(10, 14)] 13 (.bool ((decide (4096 < (a0.length : Int))) || (decide (65536 < (a1.length : Int))))) ?_ ?_
 ·rcases bool_two (decide (4096 < (a0.length : Int))) with b0_ | b0_
  ·exact ls rfl rfl rfl (cb b0_) rfl <| ls rfl rfl rfl (cb b0_) rfl <| ls rfl rfl rfl (cb b0_) rfl <| lp rfl rfl (X_pick (b := true) (v := (.bool true)) (cb b0_) rfl) <| nx ⟨(ku4 kz rfl), (or_t b0_), er⟩
  ·exact lg rfl rfl rfl rfl (cb b0_) (xm (S a1) rfl) <| lg rfl rfl rfl rfl (cb b0_) (X_lenS Tryz.underlying9 rfl) <| lg rfl rfl rfl rfl (cb b0_) (X_gtr rfl rfl) <| lp rfl rfl (X_pick (b := false) (v := (.bool (decide (65536 < (a1.length : Int))))) (cb b0_) rfl) <| nx ⟨(ku4 kz rfl), (or_f b0_), er⟩
 intro s6 w2 K3 h4 e5
 refine nx ?_
 rcases bif_two H with ⟨q7, H⟩ | ⟨q7, H⟩
 ·refine W_true (h4.trans (cb q7)) <| wr <| lp rfl rfl (xa (.bool false) rfl) <| lp rfl rfl (xa (.int .i64 2) rfl) <| nx <| W_ret <| thn_r <| fin_r ?_
  obtain rfl := si H
  exact fin2 rfl rfl e5
 ·refine W_false (h4.trans (cb q7)) <| W_skip <| thn_n <| W_seq <| wr <| lp rfl rfl (xm v_a0 (K3 0 rfl)) ?_
  obtain ⟨c8, H⟩ := bif_some H
  obtain ⟨c9, H⟩ := bif_some H
  refine lc rfl rfl rfl Tryz.call120 (spec_l03OK.calls (w := w2) (a0 := a0) (Rd.ext f_a0 e5) (od c8) (od c9)) rfl <| fun w10 e11 => lp rfl rfl (X_not rfl) <| nx ?_
  rcases bif_two H with ⟨q12, H⟩ | ⟨q12, H⟩
  ·refine W_true (cb q12) <| wr <| lp rfl rfl (xa (.bool false) rfl) <| lp rfl rfl (xa (.int .i64 1) rfl) <| nx <| W_ret <| thn_r <| fin_r ?_
   obtain rfl := si H
   exact fin2 rfl rfl (e5.t e11)
  ·refine W_false (cb q12) <| W_skip <| thn_n <| W_seq <| wr <| lp rfl rfl (xm (S a1) (K3 1 rfl)) <| lc rfl rfl rfl Tryz.call146 (spec_l01OK.calls (w := w10) (a0 := a1)) rfl <| fun w13 e14 => lp rfl rfl (X_not rfl) <| nx ?_
   rcases bif_two H with ⟨q15, H⟩ | ⟨q15, H⟩
   ·refine W_true (cb q15) <| wr <| lp rfl rfl (xa (.bool false) rfl) <| lp rfl rfl (xa (.int .i64 10) rfl) <| nx <| W_ret <| thn_r <| fin_r ?_
    obtain rfl := si H
    exact fin2 rfl rfl ((e5.t e11).t e14)
   ·refine W_false (cb q15) <| W_skip <| thn_n <| wr <| lp rfl rfl (xm v_a0 (K3 0 rfl)) <| lp rfl rfl (xm (S a1) (K3 1 rfl)) ?_
    obtain ⟨c16, H⟩ := bif_some H
    obtain ⟨c17, H⟩ := bif_some H
    refine lc rfl rfl rfl Tryz.call152 (spec_l03Under.calls (w := w13) (a0 := a0) (a1 := a1) (Rd.ext f_a0 ((e5.t e11).t e14)) (od c16) (od c17)) rfl <| fun w18 e19 => lp rfl rfl (xa (.bool (underO a0 a1)) rfl) <| lp rfl rfl (xa (.int .i64 0) rfl) <| nx <| W_ret <| fin_r ?_
    obtain rfl := si H
    exact fin2 rfl rfl (((e5.t e11).t e14).t e19)
theorem spec_UnderOpaque.calls {w : World} {a0 : List Rec} {a1 : List UInt8} {v_a0 : Value} (f_a0 : Rd 5 encRec w v_a0 a0) (h0 : a0.length ≤ 1048576) (h1 : ∀ x ∈ a0, x.path.length ≤ 1048576) :
  Calls Tryz.prog 55 #[v_a0, S a1] w (Rt (RP w (.tuple #[.bool ((underOpq a0 a1).1), .int .i64 ((underOpq a0 a1).2)]))) := spec_UnderOpaque.walk f_a0 (spec_UnderOpaque.eq a0 a1 h0 h1)
/-! impl.UnderOpaque -/
theorem impl_UnderOpaque.walk {w : World} {a0 : List Rec} {a1 : List UInt8} (gv : GV 0 w) {v_a0 : Value} (f_a0 : Rd 5 encRec w v_a0 a0) {r : Bool × Int} (H : impl_UnderOpaque.sh a0 a1 = some r) :
  Calls Tryz.prog 54 #[v_a0, S a1] w (Rt (RP w (.tuple #[.bool r.1, .int .i64 r.2]))) := by
 unfold impl_UnderOpaque.sh at H
 refine calls_of_W Tryz.func54 rfl (Nat.le_of_ble_eq_true rfl) Tryz.ntmps54 rfl ?_
 refine wr <| lp rfl rfl (xa (.bool false) rfl) <| lp rfl rfl (xa (.int .i64 0) rfl) <| nx <| W_seq <| wr <| lp rfl rfl (xm (S a1) rfl) <| L_lit (.plain rfl) rfl (ltb rfl) rfl Tryz.underlying42 Tryz.sizeOf9 Tryz.zeroValue9 rfl rfl rfl (vs := [(S a1)]) rfl (lit_all rfl) <| fun b1 w2 z3 z4 e5 k6 => ?_
 obtain ⟨c7, H⟩ := bif_some H
 refine lc rfl rfl rfl Tryz.call149 (impl_isLong.calls (w := w2) (a0 := ([a1] : List (List UInt8))) (Ow.rd (Ow.new (xs := [a1]) (sz := 1) (enc := encS) (base := w.heap.size) k6 (Nat.le_of_eq z3) rfl (fun _ _ => by rfl) (Nat.le_of_ble_eq_true rfl))) (od c7)) rfl <| fun w8 e9 => lp rfl rfl (X_move rfl) <| L_grp 3 [(11, 14)] 13 (.bool ((([a1] : List (List UInt8)).any fun t => decide (65536 < t.length)) || (decide (4096 < a0.length)))) ?_ ?_
 ·rcases bool_two (([a1] : List (List UInt8)).any fun t => decide (65536 < t.length)) with b9_ | b9_
  ·exact ls rfl rfl rfl (cb b9_) rfl <| ls rfl rfl rfl (cb b9_) rfl <| lp rfl rfl (X_pick (b := true) (v := (.bool true)) (cb b9_) rfl) <| nx ⟨(ku3 kz rfl), (or_t b9_), er⟩
  ·exact lg rfl rfl rfl rfl (cb b9_) (xm v_a0 rfl) <| L_callP (tg rfl rfl rfl (cb b9_)) rfl (ltb rfl) rfl Tryz.call126 (impl_isLongListR.calls (w := w8) (a0 := a0) (Rd.ext f_a0 (e5.t e9))) rfl <| fun w11 e12 => lp rfl rfl (X_pick (b := false) (v := (.bool (decide (4096 < a0.length)))) (cb b9_) rfl) <| nx ⟨(ku3 kz rfl), (or_f b9_), e12⟩
 intro s15 w11 K12 h13 e14
 refine lp rfl rfl (X_mkiface Tryz.underlying4 rfl h13) <| lp rfl rfl (X_mkiface Tryz.underlying3 rfl rfl) <| lp rfl rfl (xm v_a0 (K12 0 rfl)) ?_
 obtain ⟨c16, H⟩ := bif_some H
 obtain ⟨c17, H⟩ := bif_some H
 refine lc rfl rfl rfl Tryz.call50 (impl_LayerOK.calls (w := w11) (a0 := a0) (GV.ext gv ((e5.t e9).t e14)) (Rd.ext f_a0 ((e5.t e9).t e14)) (od c16) (od c17)) rfl <| fun w18 e19 => lp rfl rfl (X_not rfl) <| lp rfl rfl (X_mkiface Tryz.underlying4 rfl rfl) <| lp rfl rfl (X_mkiface Tryz.underlying3 rfl rfl) <| lp rfl rfl (xm (S a1) (K12 1 rfl)) <| lc rfl rfl rfl Tryz.call150 (impl_PathOK.calls (w := w18) (a0 := a1) (GV.ext gv (((e5.t e9).t e14).t e19))) rfl <| fun w20 e21 => lp rfl rfl (X_not rfl) <| lp rfl rfl (X_mkiface Tryz.underlying4 rfl rfl) <| lp rfl rfl (X_mkiface Tryz.underlying3 rfl rfl) <| L_lit (.plain rfl) rfl (ltb rfl) rfl Tryz.underlying171 Tryz.sizeOf20 Tryz.zeroValue20 rfl rfl rfl (vs := [(.iface 4 (.bool ((([a1] : List (List UInt8)).any fun t => decide (65536 < t.length)) || (decide (4096 < a0.length))))), (.iface 3 (.int .i64 2)), (.iface 4 (.bool (!(decide ((layerFaultL a0).2 = 0))))), (.iface 3 (.int .i64 1)), (.iface 4 (.bool (!(pathOK a1)))), (.iface 3 (.int .i64 10))]) rfl (lit_all rfl) <| fun b22 w23 z24 z25 e26 k27 => ?_
 obtain ⟨c28, H⟩ := bif_some H
 obtain ⟨z31, x32, H⟩ := bind_some H
 replace x32 := si x32
 refine lc rfl rfl rfl Tryz.call125 (impl_first.calls (w := w23) (a0 := ([.inl ((([a1] : List (List UInt8)).any fun t => decide (65536 < t.length)) || (decide (4096 < a0.length))), .inr 2, .inl (!(decide ((layerFaultL a0).2 = 0))), .inr 1, .inl (!(pathOK a1)), .inr 10] : List (Bool ⊕ Int))) (Ow.rd (Ow.new (xs := [.inl ((([a1] : List (List UInt8)).any fun t => decide (65536 < t.length)) || (decide (4096 < a0.length))), .inr 2, .inl (!(decide ((layerFaultL a0).2 = 0))), .inr 1, .inl (!(pathOK a1)), .inr 10]) (sz := 1) (enc := (encAny 4 3)) (base := w20.heap.size) k27 (Nat.le_of_eq z24) rfl (fun _ _ => by first | rfl | exact encAny_len _ _ _) (Nat.le_of_ble_eq_true rfl))) (od c28)) rfl <| fun w29 e30 => lp rfl rfl (xa (.int .i64 z31) (congrArg (Value.int .i64) x32)) <| nx <| wr <| lp rfl rfl (xm (.int .i64 z31) rfl) <| lp rfl rfl (X_neq rfl rfl) <| nx ?_
 rcases bif_two H with ⟨q33, H⟩ | ⟨q33, H⟩
 ·refine W_true (cb q33) <| wr <| lp rfl rfl (xm (.int .i64 z31) rfl) <| lp rfl rfl (xa (.bool false) rfl) <| lp rfl rfl (xa (.int .i64 z31) rfl) <| nx <| W_ret <| thn_r <| fin_r ?_
  obtain rfl := si H
  exact fin2 rfl rfl ((((((e5.t e9).t e14).t e19).t e21).t e26).t e30)
 ·refine W_false (cb q33) <| W_skip <| thn_n <| wr <| lp rfl rfl (xm v_a0 (K12 0 rfl)) <| lp rfl rfl (xm (S a1) (K12 1 rfl)) ?_
  obtain ⟨c34, H⟩ := bif_some H
  obtain ⟨c35, H⟩ := bif_some H
  refine lc rfl rfl rfl Tryz.call151 (impl_underOpaque.calls (w := w29) (a0 := a0) (a1 := a1) (Rd.ext f_a0 ((((((e5.t e9).t e14).t e19).t e21).t e26).t e30)) (od c34) (od c35)) rfl <| fun w36 e37 => lp rfl rfl (xa (.bool (underO a0 a1)) rfl) <| lp rfl rfl (xa (.int .i64 0) rfl) <| nx <| W_ret <| fin_r ?_
  obtain rfl := si H
  exact fin2 rfl rfl (((((((e5.t e9).t e14).t e19).t e21).t e26).t e30).t e37)
theorem impl_UnderOpaque.calls {w : World} {a0 : List Rec} {a1 : List UInt8} (gv : GV 0 w) {v_a0 : Value} (f_a0 : Rd 5 encRec w v_a0 a0) (h0 : a0.length ≤ 1048576) (h1 : ∀ x ∈ a0, x.path.length ≤ 1048576) :
  Calls Tryz.prog 54 #[v_a0, S a1] w (Rt (RP w (.tuple #[.bool ((underOpq a0 a1).1), .int .i64 ((underOpq a0 a1).2)]))) := impl_UnderOpaque.walk gv f_a0 (impl_UnderOpaque.eq a0 a1 h0 h1)
/-! spec.l06Stops -/
theorem spec_l06Stops.calls {w : World} {a0 : Rec} :
  Calls Tryz.prog 208 #[.agg (encRec a0).toArray] w (Rt (RP w (.bool (stopsR a0)))) := by
 have H := spec_l06Stops.eq a0
 generalize (stopsR a0) = r at H ⊢
 unfold spec_l06Stops.sh at H
 refine calls_of_W Tryz.func208 rfl (Nat.le_of_ble_eq_true rfl) Tryz.ntmps208 rfl ?_
 refine wr <| L_box (.plain rfl) rfl (ltb rfl) rfl rfl <| fun b1 w2 z3 z4 e5 k6 => lp rfl rfl (xa (.bool false) rfl) <| nx <| wr <| lp rfl rfl (X_fieldAddr Tryz.underlying58 rfl Tryz.sizeOf3 rfl rfl) <| lp rfl rfl (X_loadB Tryz.isAgg3 k6 rfl rfl) <| lp rfl rfl (X_neq rfl rfl) <| lp rfl rfl (xm (.bool (!decide (a0.kind = 3))) rfl) <| L_grp 3 [(7, 10)] 9 (.bool ((!decide (a0.kind = 3)) || a0.opq)) ?_ ?_
 ·rcases bool_two (!decide (a0.kind = 3)) with b6_ | b6_
  ·exact ls rfl rfl rfl (cb b6_) rfl <| ls rfl rfl rfl (cb b6_) rfl <| lp rfl rfl (X_pick (b := true) (v := (.bool true)) (cb b6_) rfl) <| nx ⟨(ku3 kz rfl), (or_t b6_), er⟩
  ·exact lg rfl rfl rfl rfl (cb b6_) (X_fieldAddr Tryz.underlying58 rfl Tryz.sizeOf4 rfl rfl) <| lg rfl rfl rfl rfl (cb b6_) (X_loadB Tryz.isAgg4 k6 rfl rfl) <| lp rfl rfl (X_pick (b := false) (v := (.bool a0.opq)) (cb b6_) rfl) <| nx ⟨(ku3 kz rfl), (or_f b6_), er⟩
 intro s12 w8 K9 h10 e11
 refine lp rfl rfl (X_assign h10) <| nx <| W_ret <| fin_r ?_
 obtain rfl := si H
 exact fin1 rfl (e5.t e11)
/-! spec.l06Cuts -/
theorem spec_l06Cuts.calls {w : World} {a0 : List Rec} {a1 : List UInt8} {v_a0 : Value} (f_a0 : Rd 5 encRec w v_a0 a0) (h0 : a0.length ≤ 1048576) (h1 : a1.length ≤ 1048576) :
  Calls Tryz.prog 123 #[v_a0, S a1] w (Rt (RP w (.bool (cutsR a0 a1)))) := by
 obtain ⟨k, H⟩ := spec_l06Cuts.eq a0 a1 h0 h1
 generalize (cutsR a0 a1) = r at H ⊢
 unfold spec_l06Cuts.sh at H
 refine calls_of_W Tryz.func123 rfl (Nat.le_of_ble_eq_true rfl) Tryz.ntmps123 rfl ?_
 refine wr <| lp rfl rfl (xa (.bool false) rfl) <| nx <| W_seq <| wr <| lp rfl rfl (xm (S a1) rfl) ?_
 obtain ⟨c1, H⟩ := bif_some H
 refine lc rfl rfl rfl Tryz.call161 (spec_l01Parent.calls (w := w) (a0 := a1) (od c1)) rfl <| fun w2 e3 => lp rfl rfl (xa (S (parentP a1)) rfl) <| nx ?_
 obtain ⟨z5, L6, C7⟩ := bind_some H
 clear H
 refine  W_cutQ (fun s0 sQ wQ => Kp [(4, 7), (9, 25)] s0 sQ ∧ Ext w2 wQ ∧ z5 = .inr ()) ?_ ?_
 ·refine W_block <| W_loopI (fun s0 kk sQ wQ => ∃ (x5_4 : List UInt8), Kp [(4, 7), (9, 25)] s0 sQ ∧ sQ 5 = S x5_4 ∧ Ext w2 wQ ∧ loopF (spec_l06Cuts.b1 a0) kk x5_4 = some z5) k ⟨(parentP a1), kz, rfl, er, L6⟩ ?_
  rintro k12 s13 w14 ⟨x5_4, K15, h18, e16, L17⟩
  cases k12 with
  | zero => exact absurd L17 (by simp [loopF])
  | succ k12 =>
   obtain ⟨t19, H, S20⟩ := loopF_succ L17
   clear L17
   unfold spec_l06Cuts.b1 at H
   refine W_seq <| wr <| lp rfl rfl (X_move h18) <| lp rfl rfl (X_sne rfl rfl) <| nx ?_
   rcases bif_two H with ⟨q21, H⟩ | ⟨q21, H⟩
   ·refine W_true (cb q21) <| W_skip <| thn_n <| W_seq <| W_block <| wr <| lp rfl rfl (xm v_a0 (K15 0 rfl)) <| lp rfl rfl (X_move h18) ?_
    obtain ⟨c22, H⟩ := bif_some H
    refine lc rfl rfl rfl Tryz.call145 (spec_l03At.calls (w := w14) (a0 := a0) (a1 := x5_4) (Rd.ext f_a0 (e3.t e16)) (od c22)) rfl <| fun w23 e24 => lp rfl rfl (xa (.int .i64 (findR a0 x5_4)) rfl) <| nx <| wr <| lp rfl rfl (xm (.int .i64 (findR a0 x5_4)) rfl) <| lp rfl rfl (X_geq rfl rfl) <| lp rfl rfl (xm (.bool (decide (0 ≤ (findR a0 x5_4)))) rfl) ?_
    obtain ⟨z26, x27, H⟩ := bind_some H
    refine L_grpE 6 [(19, 25)] 24 (fun q => q = z26) ?_ ?_
    ·rcases bif_two x27 with ⟨b24_, H⟩ | ⟨b24_, H⟩
     ·refine lg rfl rfl rfl rfl (cb b24_) (xm v_a0 (K15 0 rfl)) <| lg rfl rfl rfl rfl (cb b24_) (xm (.int .i64 (findR a0 x5_4)) rfl) ?_
      obtain ⟨c26, H⟩ := bif_some H
      refine L_idx (tg rfl rfl rfl (cb b24_)) rfl (ltb rfl) rfl Tryz.underlying35 Tryz.sizeOf58 rfl (Rd.ext f_a0 ((e3.t e16).t e24)) rfl c26 <| fun p27 h28 => lg rfl rfl rfl rfl (cb b24_) (X_loadS Tryz.isAgg58 Tryz.sizeOf58 rfl rfl h28) <| L_callP (tg rfl rfl rfl (cb b24_)) rfl (ltb rfl) rfl Tryz.call208 (spec_l06Stops.calls (w := w23) (a0 := gt a0 (findR a0 x5_4))) rfl <| fun w29 e30 => lp rfl rfl (X_pick (b := true) (v := (.bool (stopsR (gt a0 (findR a0 x5_4))))) (cb b24_) rfl) ?_
      obtain rfl := si H
      exact nx ⟨(ku2 (ku4 kz rfl) rfl), ⟨_, rfl, rfl⟩, e30⟩
     ·refine ls rfl rfl rfl (cb b24_) rfl <| ls rfl rfl rfl (cb b24_) rfl <| ls rfl rfl rfl (cb b24_) rfl <| ls rfl rfl rfl (cb b24_) rfl <| ls rfl rfl rfl (cb b24_) rfl <| lp rfl rfl (X_pick (b := false) (v := (.bool false)) (cb b24_) rfl) ?_
      obtain rfl := si H
      exact nx ⟨(ku2 (ku4 kz rfl) rfl), ⟨_, rfl, rfl⟩, er⟩
    intro s32 w28 z33 K29 hq h30 e31
    rw [hq] at h30; clear hq
    refine nx ?_
    rcases bif_two H with ⟨q34, H⟩ | ⟨q34, H⟩
    ·refine W_true (h30.trans (cb q34)) <| wr <| lp rfl rfl (xa (.bool true) rfl) <| nx <| W_ret <| blk_r <| thn_r <| thn_r <| blk_r <| thn_r <| thn_r <| fin_r ?_
     obtain rfl := si H
     obtain rfl := si S20
     have H := C7
     obtain rfl := si H
     exact fin1 rfl (((e3.t e16).t e24).t e31)
    ·refine W_false (h30.trans (cb q34)) <| W_skip <| blk_n <| thn_n <| W_reg <| lp rfl rfl (xm (S x5_4) ((K29 5 rfl).trans h18)) ?_
     obtain ⟨c35, H⟩ := bif_some H
     refine lc rfl rfl rfl Tryz.call161 (spec_l01Parent.calls (w := w28) (a0 := x5_4) (od c35)) rfl <| fun w36 e37 => lp rfl rfl (xa (S (parentP x5_4)) rfl) <| nx ?_
     obtain rfl := si H
     exact ⟨_, Nat.lt_succ_self _, (parentP x5_4), (ku3 (Kp.cut (ku1 (ku8 K15 rfl) rfl) K29 rfl) rfl), rfl, (((e16.t e24).t e31).t e37), S20⟩
   ·refine W_false (cb q21) <| W_exit <| thn_x <| thn_x <| blk_x <| thn_n ?_
    obtain rfl := si H
    obtain rfl := si S20
    exact ⟨(ku2 K15 rfl), e16, rfl⟩
 ·rintro s9 w8 ⟨K10, e11, y38⟩
  rw [y38] at C7
  have H := C7
  replace H : _ = some _ := H
  refine thn_n <| wr <| lp rfl rfl (xa (.bool false) rfl) <| nx <| W_ret <| fin_r ?_
  obtain rfl := si H
  exact fin1 rfl (e3.t e11)
/-! spec.Cuts -/
theorem spec_Cuts.walk {w : World} {a0 : List Rec} {a1 : List UInt8} {v_a0 : Value} (f_a0 : Rd 5 encRec w v_a0 a0) {r : Bool × Int} (H : spec_Cuts.sh a0 a1 = some r) :
  Calls Tryz.prog 47 #[v_a0, S a1] w (Rt (RP w (.tuple #[.bool r.1, .int .i64 r.2]))) := by
 unfold spec_Cuts.sh at H
 refine calls_of_W Tryz.func47 rfl (Nat.le_of_ble_eq_true rfl) Tryz.ntmps47 rfl ?_
 refine wr <| lp rfl rfl (xa (.bool false) rfl) <| lp rfl rfl (xa (.int .i64 0) rfl) <| nx <| W_seq <| wr <| lp rfl rfl (xm v_a0 rfl) <| lp rfl rfl (X_lenR Tryz.underlying35 rfl f_a0) <| lp rfl rfl (X_gtr rfl rfl) <| lp rfl rfl (xm (.bool (decide (4096 < (a0.length : Int)))) rfl) <| L_grp 4 [(10, 14)] 13 (.bool ((decide (4096 < (a0.length : Int))) || (decide (65536 < (a1.length : Int))))) ?_ ?_
 ·rcases bool_two (decide (4096 < (a0.length : Int))) with b0_ | b0_
  ·exact ls rfl rfl rfl (cb b0_) rfl <| ls rfl rfl rfl (cb b0_) rfl <| ls rfl rfl rfl (cb b0_) rfl <| lp rfl rfl (X_pick (b := true) (v := (.bool true)) (cb b0_) rfl) <| nx ⟨(ku4 kz rfl), (or_t b0_), er⟩
  ·exact lg rfl rfl rfl rfl (cb b0_) (xm (S a1) rfl) <| lg rfl rfl rfl rfl (cb b0_) (X_lenS Tryz.underlying9 rfl) <| lg rfl rfl rfl rfl (cb b0_) (X_gtr rfl rfl) <| lp rfl rfl (X_pick (b := false) (v := (.bool (decide (65536 < (a1.length : Int))))) (cb b0_) rfl) <| nx ⟨(ku4 kz rfl), (or_f b0_), er⟩
 intro s6 w2 K3 h4 e5
 refine nx ?_
 rcases bif_two H with ⟨q7, H⟩ | ⟨q7, H⟩
 ·refine W_true (h4.trans (cb q7)) <| wr <| lp rfl rfl (xa (.bool false) rfl) <| lp rfl rfl (xa (.int .i64 2) rfl) <| nx <| W_ret <| thn_r <| fin_r ?_
  obtain rfl := si H
  exact fin2 rfl rfl e5
 ·refine W_false (h4.trans (cb q7)) <| W_skip <| thn_n <| W_seq <| wr <| lp rfl rfl (xm v_a0 (K3 0 rfl)) ?_
  obtain ⟨c8, H⟩ := bif_some H
  obtain ⟨c9, H⟩ := bif_some H
  refine lc rfl rfl rfl Tryz.call120 (spec_l03OK.calls (w := w2) (a0 := a0) (Rd.ext f_a0 e5) (od c8) (od c9)) rfl <| fun w10 e11 => lp rfl rfl (X_not rfl) <| nx ?_
  rcases bif_two H with ⟨q12, H⟩ | ⟨q12, H⟩
  ·refine W_true (cb q12) <| wr <| lp rfl rfl (xa (.bool false) rfl) <| lp rfl rfl (xa (.int .i64 1) rfl) <| nx <| W_ret <| thn_r <| fin_r ?_
   obtain rfl := si H
   exact fin2 rfl rfl (e5.t e11)
  ·refine W_false (cb q12) <| W_skip <| thn_n <| W_seq <| wr <| lp rfl rfl (xm (S a1) (K3 1 rfl)) <| lc rfl rfl rfl Tryz.call146 (spec_l01OK.calls (w := w10) (a0 := a1)) rfl <| fun w13 e14 => lp rfl rfl (X_not rfl) <| nx ?_
   rcases bif_two H with ⟨q15, H⟩ | ⟨q15, H⟩
   ·refine W_true (cb q15) <| wr <| lp rfl rfl (xa (.bool false) rfl) <| lp rfl rfl (xa (.int .i64 10) rfl) <| nx <| W_ret <| thn_r <| fin_r ?_
    obtain rfl := si H
    exact fin2 rfl rfl ((e5.t e11).t e14)
   ·refine W_false (cb q15) <| W_skip <| thn_n <| wr <| lp rfl rfl (xm v_a0 (K3 0 rfl)) <| lp rfl rfl (xm (S a1) (K3 1 rfl)) ?_
    obtain ⟨c16, H⟩ := bif_some H
    obtain ⟨c17, H⟩ := bif_some H
    refine lc rfl rfl rfl Tryz.call123 (spec_l06Cuts.calls (w := w13) (a0 := a0) (a1 := a1) (Rd.ext f_a0 ((e5.t e11).t e14)) (od c16) (od c17)) rfl <| fun w18 e19 => lp rfl rfl (xa (.bool (cutsR a0 a1)) rfl) <| lp rfl rfl (xa (.int .i64 0) rfl) <| nx <| W_ret <| fin_r ?_
    obtain rfl := si H
    exact fin2 rfl rfl (((e5.t e11).t e14).t e19)
theorem spec_Cuts.calls {w : World} {a0 : List Rec} {a1 : List UInt8} {v_a0 : Value} (f_a0 : Rd 5 encRec w v_a0 a0) (h0 : a0.length ≤ 1048576) (h1 : ∀ x ∈ a0, x.path.length ≤ 1048576) :
  Calls Tryz.prog 47 #[v_a0, S a1] w (Rt (RP w (.tuple #[.bool ((cutsOf a0 a1).1), .int .i64 ((cutsOf a0 a1).2)]))) := spec_Cuts.walk f_a0 (spec_Cuts.eq a0 a1 h0 h1)
/-! impl.stops -/
theorem impl_stops.calls {w : World} {a0 : Rec} :
  Calls Tryz.prog 204 #[.agg (encRec a0).toArray] w (Rt (RP w (.bool (stopsR a0)))) := by
 have H := impl_stops.eq a0
 generalize (stopsR a0) = r at H ⊢
 unfold impl_stops.sh at H
 refine calls_of_W Tryz.func204 rfl (Nat.le_of_ble_eq_true rfl) Tryz.ntmps204 rfl ?_
 refine wr <| L_box (.plain rfl) rfl (ltb rfl) rfl rfl <| fun b1 w2 z3 z4 e5 k6 => lp rfl rfl (xa (.bool false) rfl) <| nx <| wr <| lp rfl rfl (X_fieldAddr Tryz.underlying58 rfl Tryz.sizeOf3 rfl rfl) <| lp rfl rfl (X_loadB Tryz.isAgg3 k6 rfl rfl) <| lp rfl rfl (X_neq rfl rfl) <| lp rfl rfl (xm (.bool (!decide (a0.kind = 3))) rfl) <| L_grp 3 [(7, 10)] 9 (.bool ((!decide (a0.kind = 3)) || a0.opq)) ?_ ?_
 ·rcases bool_two (!decide (a0.kind = 3)) with b6_ | b6_
  ·exact ls rfl rfl rfl (cb b6_) rfl <| ls rfl rfl rfl (cb b6_) rfl <| lp rfl rfl (X_pick (b := true) (v := (.bool true)) (cb b6_) rfl) <| nx ⟨(ku3 kz rfl), (or_t b6_), er⟩
  ·exact lg rfl rfl rfl rfl (cb b6_) (X_fieldAddr Tryz.underlying58 rfl Tryz.sizeOf4 rfl rfl) <| lg rfl rfl rfl rfl (cb b6_) (X_loadB Tryz.isAgg4 k6 rfl rfl) <| lp rfl rfl (X_pick (b := false) (v := (.bool a0.opq)) (cb b6_) rfl) <| nx ⟨(ku3 kz rfl), (or_f b6_), er⟩
 intro s12 w8 K9 h10 e11
 refine lp rfl rfl (X_assign h10) <| nx <| W_ret <| fin_r ?_
 obtain rfl := si H
 exact fin1 rfl (e5.t e11)
/-! impl.cuts -/
theorem impl_cuts.calls {w : World} {a0 : List Rec} {a1 : List UInt8} {v_a0 : Value} (f_a0 : Rd 5 encRec w v_a0 a0) (h0 : a0.length ≤ 1048576) (h1 : a1.length ≤ 1048576) :
  Calls Tryz.prog 122 #[v_a0, S a1] w (Rt (RP w (.bool (cutsR a0 a1)))) := by
 have H := impl_cuts.eq a0 a1 h0 h1
 generalize (cutsR a0 a1) = r at H ⊢
 unfold impl_cuts.sh at H
 refine calls_of_W Tryz.func122 rfl (Nat.le_of_ble_eq_true rfl) Tryz.ntmps122 rfl ?_
 refine wr <| lp rfl rfl (xa (.bool false) rfl) <| nx <| wr <| lp rfl rfl (xm v_a0 rfl) <| lp rfl rfl (xm (S a1) rfl) ?_
 obtain ⟨c5, H⟩ := bif_some H
 obtain ⟨c6, H⟩ := bif_some H
 obtain ⟨z7, x8, H⟩ := bind_some H
 refine lc rfl rfl rfl Tryz.call207 (impl_above.calls (w := w) (a0 := a0) (a1 := a1) (a2 := (fun (x0_ : Rec) => some (stopsR x0_))) f_a0 (fun x0_ r h => by have h := si h; subst h; exact FnAt.mk Tryz.call204 (by rfl) fun w3 k4 => impl_stops.calls (w := w3) (a0 := x0_)) rfl (od c5) (od c6) x8) rfl <| fun w9 e10 => lp rfl rfl (xa (.bool z7) rfl) <| nx <| W_ret <| fin_r ?_
 obtain rfl := si H
 exact fin1 rfl e10
/-! impl.Cuts -/
theorem impl_Cuts.walk {w : World} {a0 : List Rec} {a1 : List UInt8} (gv : GV 0 w) {v_a0 : Value} (f_a0 : Rd 5 encRec w v_a0 a0) {r : Bool × Int} (H : impl_Cuts.sh a0 a1 = some r) :
  Calls Tryz.prog 56 #[v_a0, S a1] w (Rt (RP w (.tuple #[.bool r.1, .int .i64 r.2]))) := by
 unfold impl_Cuts.sh at H
 refine calls_of_W Tryz.func56 rfl (Nat.le_of_ble_eq_true rfl) Tryz.ntmps56 rfl ?_
 refine wr <| lp rfl rfl (xa (.bool false) rfl) <| lp rfl rfl (xa (.int .i64 0) rfl) <| nx <| W_seq <| wr <| lp rfl rfl (xm (S a1) rfl) <| L_lit (.plain rfl) rfl (ltb rfl) rfl Tryz.underlying42 Tryz.sizeOf9 Tryz.zeroValue9 rfl rfl rfl (vs := [(S a1)]) rfl (lit_all rfl) <| fun b1 w2 z3 z4 e5 k6 => ?_
 obtain ⟨c7, H⟩ := bif_some H
 refine lc rfl rfl rfl Tryz.call149 (impl_isLong.calls (w := w2) (a0 := ([a1] : List (List UInt8))) (Ow.rd (Ow.new (xs := [a1]) (sz := 1) (enc := encS) (base := w.heap.size) k6 (Nat.le_of_eq z3) rfl (fun _ _ => by rfl) (Nat.le_of_ble_eq_true rfl))) (od c7)) rfl <| fun w8 e9 => lp rfl rfl (X_move rfl) <| L_grp 3 [(11, 14)] 13 (.bool ((([a1] : List (List UInt8)).any fun t => decide (65536 < t.length)) || (decide (4096 < a0.length)))) ?_ ?_
 ·rcases bool_two (([a1] : List (List UInt8)).any fun t => decide (65536 < t.length)) with b9_ | b9_
  ·exact ls rfl rfl rfl (cb b9_) rfl <| ls rfl rfl rfl (cb b9_) rfl <| lp rfl rfl (X_pick (b := true) (v := (.bool true)) (cb b9_) rfl) <| nx ⟨(ku3 kz rfl), (or_t b9_), er⟩
  ·exact lg rfl rfl rfl rfl (cb b9_) (xm v_a0 rfl) <| L_callP (tg rfl rfl rfl (cb b9_)) rfl (ltb rfl) rfl Tryz.call126 (impl_isLongListR.calls (w := w8) (a0 := a0) (Rd.ext f_a0 (e5.t e9))) rfl <| fun w11 e12 => lp rfl rfl (X_pick (b := false) (v := (.bool (decide (4096 < a0.length)))) (cb b9_) rfl) <| nx ⟨(ku3 kz rfl), (or_f b9_), e12⟩
 intro s15 w11 K12 h13 e14
 refine lp rfl rfl (X_mkiface Tryz.underlying4 rfl h13) <| lp rfl rfl (X_mkiface Tryz.underlying3 rfl rfl) <| lp rfl rfl (xm v_a0 (K12 0 rfl)) ?_
 obtain ⟨c16, H⟩ := bif_some H
 obtain ⟨c17, H⟩ := bif_some H
 refine lc rfl rfl rfl Tryz.call50 (impl_LayerOK.calls (w := w11) (a0 := a0) (GV.ext gv ((e5.t e9).t e14)) (Rd.ext f_a0 ((e5.t e9).t e14)) (od c16) (od c17)) rfl <| fun w18 e19 => lp rfl rfl (X_not rfl) <| lp rfl rfl (X_mkiface Tryz.underlying4 rfl rfl) <| lp rfl rfl (X_mkiface Tryz.underlying3 rfl rfl) <| lp rfl rfl (xm (S a1) (K12 1 rfl)) <| lc rfl rfl rfl Tryz.call150 (impl_PathOK.calls (w := w18) (a0 := a1) (GV.ext gv (((e5.t e9).t e14).t e19))) rfl <| fun w20 e21 => lp rfl rfl (X_not rfl) <| lp rfl rfl (X_mkiface Tryz.underlying4 rfl rfl) <| lp rfl rfl (X_mkiface Tryz.underlying3 rfl rfl) <| L_lit (.plain rfl) rfl (ltb rfl) rfl Tryz.underlying171 Tryz.sizeOf20 Tryz.zeroValue20 rfl rfl rfl (vs := [(.iface 4 (.bool ((([a1] : List (List UInt8)).any fun t => decide (65536 < t.length)) || (decide (4096 < a0.length))))), (.iface 3 (.int .i64 2)), (.iface 4 (.bool (!(decide ((layerFaultL a0).2 = 0))))), (.iface 3 (.int .i64 1)), (.iface 4 (.bool (!(pathOK a1)))), (.iface 3 (.int .i64 10))]) rfl (lit_all rfl) <| fun b22 w23 z24 z25 e26 k27 => ?_
 obtain ⟨c28, H⟩ := bif_some H
 obtain ⟨z31, x32, H⟩ := bind_some H
 replace x32 := si x32
 refine lc rfl rfl rfl Tryz.call125 (impl_first.calls (w := w23) (a0 := ([.inl ((([a1] : List (List UInt8)).any fun t => decide (65536 < t.length)) || (decide (4096 < a0.length))), .inr 2, .inl (!(decide ((layerFaultL a0).2 = 0))), .inr 1, .inl (!(pathOK a1)), .inr 10] : List (Bool ⊕ Int))) (Ow.rd (Ow.new (xs := [.inl ((([a1] : List (List UInt8)).any fun t => decide (65536 < t.length)) || (decide (4096 < a0.length))), .inr 2, .inl (!(decide ((layerFaultL a0).2 = 0))), .inr 1, .inl (!(pathOK a1)), .inr 10]) (sz := 1) (enc := (encAny 4 3)) (base := w20.heap.size) k27 (Nat.le_of_eq z24) rfl (fun _ _ => by first | rfl | exact encAny_len _ _ _) (Nat.le_of_ble_eq_true rfl))) (od c28)) rfl <| fun w29 e30 => lp rfl rfl (xa (.int .i64 z31) (congrArg (Value.int .i64) x32)) <| nx <| wr <| lp rfl rfl (xm (.int .i64 z31) rfl) <| lp rfl rfl (X_neq rfl rfl) <| nx ?_
 rcases bif_two H with ⟨q33, H⟩ | ⟨q33, H⟩
 ·refine W_true (cb q33) <| wr <| lp rfl rfl (xm (.int .i64 z31) rfl) <| lp rfl rfl (xa (.bool false) rfl) <| lp rfl rfl (xa (.int .i64 z31) rfl) <| nx <| W_ret <| thn_r <| fin_r ?_
  obtain rfl := si H
  exact fin2 rfl rfl ((((((e5.t e9).t e14).t e19).t e21).t e26).t e30)
 ·refine W_false (cb q33) <| W_skip <| thn_n <| wr <| lp rfl rfl (xm v_a0 (K12 0 rfl)) <| lp rfl rfl (xm (S a1) (K12 1 rfl)) ?_
  obtain ⟨c34, H⟩ := bif_some H
  obtain ⟨c35, H⟩ := bif_some H
  refine lc rfl rfl rfl Tryz.call122 (impl_cuts.calls (w := w29) (a0 := a0) (a1 := a1) (Rd.ext f_a0 ((((((e5.t e9).t e14).t e19).t e21).t e26).t e30)) (od c34) (od c35)) rfl <| fun w36 e37 => lp rfl rfl (xa (.bool (cutsR a0 a1)) rfl) <| lp rfl rfl (xa (.int .i64 0) rfl) <| nx <| W_ret <| fin_r ?_
  obtain rfl := si H
  exact fin2 rfl rfl (((((((e5.t e9).t e14).t e19).t e21).t e26).t e30).t e37)
theorem impl_Cuts.calls {w : World} {a0 : List Rec} {a1 : List UInt8} (gv : GV 0 w) {v_a0 : Value} (f_a0 : Rd 5 encRec w v_a0 a0) (h0 : a0.length ≤ 1048576) (h1 : ∀ x ∈ a0, x.path.length ≤ 1048576) :
  Calls Tryz.prog 56 #[v_a0, S a1] w (Rt (RP w (.tuple #[.bool ((cutsOf a0 a1).1), .int .i64 ((cutsOf a0 a1).2)]))) := impl_Cuts.walk gv f_a0 (impl_Cuts.eq a0 a1 h0 h1)
/-! impl.isLongList(impl.Node) -/
theorem impl_isLongListN.calls {w : World} {a0 : List Nd} {v_a0 : Value} (f_a0 : Rd 4 encNd w v_a0 a0) :
  Calls Tryz.prog 127 #[v_a0] w (Rt (RP w (.bool (decide (4096 < a0.length))))) := by
 have H := impl_isLongListN.eq a0
 generalize (decide (4096 < a0.length)) = r at H ⊢
 unfold impl_isLongListN.sh at H
 refine calls_of_W Tryz.func127 rfl (Nat.le_of_ble_eq_true rfl) Tryz.ntmps127 rfl ?_
 refine wr <| lp rfl rfl (xa (.bool false) rfl) <| nx <| wr <| lp rfl rfl (xm v_a0 rfl) <| lp rfl rfl (X_lenR Tryz.underlying29 rfl f_a0) <| lp rfl rfl (X_gtr rfl rfl) <| lp rfl rfl (xa (.bool (decide (4096 < (a0.length : Int)))) rfl) <| nx <| W_ret <| fin_r ?_
 obtain rfl := si H
 exact fin1 rfl er
/-! spec.l03Canon -/
theorem spec_l03Canon.calls {w : World} {a0 : List Rec} {v_a0 : Value} (f_a0 : Rd 5 encRec w v_a0 a0) (h0 : a0.length ≤ 1048576) (h1 : ∀ x ∈ a0, pathOK x.path = true) :
  Calls Tryz.prog 124 #[v_a0] w (Rt (RO 58 5 encRec w (canonL a0))) := by
 obtain ⟨k, H⟩ := spec_l03Canon.eq a0 h0 h1
 generalize (canonL a0) = r at H ⊢
 unfold spec_l03Canon.sh at H
 refine calls_of_W Tryz.func124 rfl (Nat.le_of_ble_eq_true rfl) Tryz.ntmps124 rfl ?_
 refine wr <| lp rfl rfl (xa (.slice none 0 0) rfl) <| nx <| wr <| L_lit (.plain rfl) rfl (ltb rfl) rfl Tryz.underlying35 Tryz.sizeOf58 Tryz.zeroValue58 rfl rfl rfl (vs := []) rfl (lit_all rfl) <| fun b1 w2 z3 z4 e5 k6 => lp rfl rfl (xa (.slice (some ⟨b1, 0, none⟩) 0 0) rfl) <| nx <| W_seq <| wr <| lp rfl rfl (xa (.int .i64 0) rfl) <| nx ?_
 obtain ⟨z10, L11, C12⟩ := bind_some H
 clear H
 refine  W_cutQ (fun s0 sQ wQ => ∃ (x3_13 : List Rec) (v14 : Value), Kp [(3, 6), (7, 44)] s0 sQ ∧ sQ 3 = v14 ∧ Ow 58 5 encRec w2.heap.size wQ v14 x3_13 ∧ Ext w2 wQ ∧ z10 = .inr x3_13) ?_ ?_
 ·refine W_block <| W_loopI (fun s0 kk sQ wQ => ∃ (x3_7 : List Rec) (v8 : Value) (x4_9 : Int), Kp [(3, 6), (7, 44)] s0 sQ ∧ sQ 3 = v8 ∧ Ow 58 5 encRec w2.heap.size wQ v8 x3_7 ∧ sQ 4 = .int .i64 x4_9 ∧ Ext w2 wQ ∧ loopF (spec_l03Canon.b1 a0) kk (x3_7, x4_9) = some z10) k ⟨([] : List Rec), (.slice (some ⟨b1, 0, none⟩) 0 0), 0, kz, rfl, (Ow.zero), rfl, er, L11⟩ ?_
  rintro k19 s20 w21 ⟨x3_7, v8, x4_9, K22, h25, h26, h27, e23, L24⟩
  cases k19 with
  | zero => exact absurd L24 (by simp [loopF])
  | succ k19 =>
   obtain ⟨t28, H, S29⟩ := loopF_succ L24
   clear L24
   unfold spec_l03Canon.b1 at H
   refine W_seq <| wr <| lp rfl rfl (X_move h27) <| lp rfl rfl (xm v_a0 (K22 0 rfl)) <| lp rfl rfl (X_lenR Tryz.underlying35 rfl (Rd.ext f_a0 (e5.t e23))) <| lp rfl rfl (X_lss rfl rfl) <| nx ?_
   rcases bif_two H with ⟨q30, H⟩ | ⟨q30, H⟩
   ·refine W_true (cb q30) <| W_skip <| thn_n <| W_seq <| W_block <| wr <| lp rfl rfl (xm v_a0 (K22 0 rfl)) <| lp rfl rfl (X_move h27) ?_
    obtain ⟨c31, H⟩ := bif_some H
    refine L_idx (.plain rfl) rfl (ltb rfl) rfl Tryz.underlying35 Tryz.sizeOf58 rfl (Rd.ext f_a0 (e5.t e23)) rfl c31 <| fun p32 h33 => lp rfl rfl (X_loadS Tryz.isAgg58 Tryz.sizeOf58 rfl rfl h33) <| L_alloc (.plain rfl) rfl (ltb rfl) rfl Tryz.zeroValue58 <| fun b34 w35 z36 z37 e38 k39 => L_storeA (.plain rfl) rfl rfl Tryz.sizeOf58 rfl rfl rfl rfl rfl k39 <| fun w40 h41 k42 => nx <| W_seq <| wr <| lp rfl rfl (xm v_a0 (K22 0 rfl)) <| lp rfl rfl (X_fieldAddr Tryz.underlying58 rfl Tryz.sizeOf9 rfl rfl) <| lp rfl rfl (X_loadB Tryz.isAgg9 k42 rfl rfl) ?_
    obtain ⟨c43, H⟩ := bif_some H
    obtain ⟨c44, H⟩ := bif_some H
    refine lc rfl rfl rfl Tryz.call152 (spec_l03Under.calls (w := w40) (a0 := a0) (a1 := (gt a0 x4_9).path) (Rd.ext f_a0 ((e5.t e23).t (Below.trans e38 (Wr.below h41 (Nat.le_of_eq z36))))) (od c43) (od c44)) rfl <| fun w45 e46 => lp rfl rfl (X_not rfl) <| nx ?_
    rcases bif_two H with ⟨q47, H⟩ | ⟨q47, H⟩
    ·refine W_true (cb q47) <| wr <| lp rfl rfl (X_fieldAddr Tryz.underlying58 rfl Tryz.sizeOf4 rfl rfl) <| lp rfl rfl (X_loadB Tryz.isAgg4 (Blk.ext k42 e46) rfl rfl) <| lp rfl rfl (xm (.bool ((gt a0 x4_9).opq)) rfl) ?_
     obtain ⟨z49, x50, H⟩ := bind_some H
     refine L_grpE 6 [(25, 31)] 30 (fun q => q = z49) ?_ ?_
     ·rcases bif_two x50 with ⟨b47_, H⟩ | ⟨b47_, H⟩
      ·refine lg rfl rfl rfl rfl (cb b47_) (X_fieldAddr Tryz.underlying58 rfl Tryz.sizeOf9 rfl rfl) <| lg rfl rfl rfl rfl (cb b47_) (X_loadB Tryz.isAgg9 (Blk.ext k42 e46) rfl rfl) ?_
       obtain ⟨c49, H⟩ := bif_some H
       refine L_callO (tg rfl rfl rfl (cb b47_)) rfl (ltb rfl) rfl Tryz.call209 (spec_l00Cut.calls (w := w45) (a0 := (gt a0 x4_9).path) (a1 := 47) (od c49)) rfl <| fun v52 w50 e51 o53 => lg rfl rfl rfl rfl (cb b47_) (X_lenR Tryz.underlying42 rfl (Ow.rd o53)) <| lg rfl rfl rfl rfl (cb b47_) (X_lss rfl rfl) <| lp rfl rfl (X_pick (b := true) (v := (.bool (decide (((cut 47 ((gt a0 x4_9).path)).length : Int) < 4)))) (cb b47_) rfl) ?_
       obtain rfl := si H
       exact nx ⟨(ku2 (ku4 kz rfl) rfl), ⟨_, rfl, rfl⟩, e51⟩
      ·refine ls rfl rfl rfl (cb b47_) rfl <| ls rfl rfl rfl (cb b47_) rfl <| ls rfl rfl rfl (cb b47_) rfl <| ls rfl rfl rfl (cb b47_) rfl <| ls rfl rfl rfl (cb b47_) rfl <| lp rfl rfl (X_pick (b := false) (v := (.bool false)) (cb b47_) rfl) ?_
       obtain rfl := si H
       exact nx ⟨(ku2 (ku4 kz rfl) rfl), ⟨_, rfl, rfl⟩, er⟩
     intro s55 w51 z56 K52 hq h53 e54
     rw [hq] at h53; clear hq
     refine lp rfl rfl (X_fieldAddr Tryz.underlying58 rfl Tryz.sizeOf4 rfl (K52 5 rfl)) <| L_store1 (.plain rfl) rfl rfl Tryz.sizeOf4 rfl h53 rfl (Blk.ext k42 (e46.t e54)) (ltb rfl) <| fun w57 h58 k59 => nx <| wr <| lp rfl rfl (xm v8 ((K52 3 rfl).trans h25)) <| lp rfl rfl (X_loadS Tryz.isAgg58 Tryz.sizeOf58 rfl (K52 5 rfl) (Blk.at0 k59)) <| L_lit (.plain rfl) rfl (ltb rfl) rfl Tryz.underlying35 Tryz.sizeOf58 Tryz.zeroValue58 rfl rfl rfl (vs := [(.agg #[(.int .i64 ((gt a0 x4_9).kind)), (S ((gt a0 x4_9).path)), (S ((gt a0 x4_9).body)), (.int .i64 ((gt a0 x4_9).mode)), (.bool z49)])]) rfl (lit_all rfl) <| fun b60 w61 z62 z63 e64 k65 => ?_
     obtain ⟨c66, H⟩ := bif_some H
     refine L_append (enc := encRec) (.plain rfl) rfl (ltb rfl) rfl El.t35 rfl rfl (Ow.ext h26 (Ext.trans (Below.trans (Ext.trans (Ext.trans (Below.trans e38 (Wr.below h41 (Nat.le_of_eq z36))) e46) e54) (Wr.below h58 (Nat.le_of_eq z36))) e64)) (Ow.rd (Ow.new (xs := [(⟨(gt a0 x4_9).kind, (gt a0 x4_9).path, (gt a0 x4_9).body, (gt a0 x4_9).mode, z49⟩ : Rec)]) (sz := 5) (enc := encRec) (base := w57.heap.size) k65 (Nat.le_of_eq z62) rfl (fun _ _ => by rfl) (Nat.le_of_ble_eq_true rfl))) (ones_Rec _) (od c66) (((e23.t (Below.trans (Ext.trans (Ext.trans (Below.trans e38 (Wr.below h41 (Nat.le_of_eq z36))) e46) e54) (Wr.below h58 (Nat.le_of_eq z36)))).t e64)).size <| fun v67 w68 o69 z70 g71 => lp rfl rfl (xa v67 rfl) <| nx <| W_exit <| thn_x <| blk_x <| thn_n <| W_reg <| lp rfl rfl (xm (.int .i64 x4_9) ((K52 4 rfl).trans h27)) <| lp rfl rfl (X_add rfl rfl) <| lp rfl rfl (xa (.int .i64 (IntKind.wrap .i64 (x4_9 + 1))) rfl) <| nx ?_
     obtain rfl := si H
     exact ⟨_, Nat.lt_succ_self _, x3_7 ++ ([(⟨(gt a0 x4_9).kind, (gt a0 x4_9).path, (gt a0 x4_9).body, (gt a0 x4_9).mode, z49⟩ : Rec)] : List Rec), v67, IntKind.wrap .i64 (x4_9 + 1), (ku1 (ku8 (Kp.cut (ku1 (ku8 (ku8 K22 rfl) rfl) rfl) K52 rfl) rfl) rfl), rfl, o69, rfl, (g71 _ ((e23.t (Below.trans (Ext.trans (Ext.trans (Below.trans e38 (Wr.below h41 (Nat.le_of_eq z36))) e46) e54) (Wr.below h58 (Nat.le_of_eq z36)))).t e64)), S29⟩
    ·refine W_false (cb q47) <| W_skip <| thn_n <| wr <| lp rfl rfl (X_fieldAddr Tryz.underlying58 rfl Tryz.sizeOf4 rfl rfl) <| L_store1 (.plain rfl) rfl rfl Tryz.sizeOf4 rfl rfl rfl (Blk.ext k42 e46) (ltb rfl) <| fun w72 h73 k74 => nx <| wr <| lp rfl rfl (X_fieldAddr Tryz.underlying58 rfl Tryz.sizeOf3 rfl rfl) <| lp rfl rfl (X_loadB Tryz.isAgg3 k74 rfl rfl) <| lp rfl rfl (X_neq rfl rfl) <| nx ?_
     rcases bif_two H with ⟨q75, H⟩ | ⟨q75, H⟩
     ·refine W_true (cb q75) <| W_reg <| lp rfl rfl (X_move h25) <| lp rfl rfl (X_loadS Tryz.isAgg58 Tryz.sizeOf58 rfl rfl (Blk.at0 k74)) <| L_lit (.plain rfl) rfl (ltb rfl) rfl Tryz.underlying35 Tryz.sizeOf58 Tryz.zeroValue58 rfl rfl rfl (vs := [(.agg #[(.int .i64 ((gt a0 x4_9).kind)), (S ((gt a0 x4_9).path)), (S ((gt a0 x4_9).body)), (.int .i64 ((gt a0 x4_9).mode)), (.bool false)])]) rfl (lit_all rfl) <| fun b76 w77 z78 z79 e80 k81 => ?_
      obtain ⟨c82, H⟩ := bif_some H
      refine L_append (enc := encRec) (.plain rfl) rfl (ltb rfl) rfl El.t35 rfl rfl (Ow.ext h26 (Ext.trans (Below.trans (Ext.trans (Below.trans e38 (Wr.below h41 (Nat.le_of_eq z36))) e46) (Wr.below h73 (Nat.le_of_eq z36))) e80)) (Ow.rd (Ow.new (xs := [(⟨(gt a0 x4_9).kind, (gt a0 x4_9).path, (gt a0 x4_9).body, (gt a0 x4_9).mode, false⟩ : Rec)]) (sz := 5) (enc := encRec) (base := w72.heap.size) k81 (Nat.le_of_eq z78) rfl (fun _ _ => by rfl) (Nat.le_of_ble_eq_true rfl))) (ones_Rec _) (od c82) (((e23.t (Below.trans (Ext.trans (Below.trans e38 (Wr.below h41 (Nat.le_of_eq z36))) e46) (Wr.below h73 (Nat.le_of_eq z36)))).t e80)).size <| fun v83 w84 o85 z86 g87 => lp rfl rfl (xa v83 rfl) <| L_nil <| blk_n <| thn_n <| W_reg <| lp rfl rfl (X_move h27) <| lp rfl rfl (X_add rfl rfl) <| lp rfl rfl (xa (.int .i64 (IntKind.wrap .i64 (x4_9 + 1))) rfl) <| nx ?_
      obtain rfl := si H
      exact ⟨_, Nat.lt_succ_self _, x3_7 ++ ([(⟨(gt a0 x4_9).kind, (gt a0 x4_9).path, (gt a0 x4_9).body, (gt a0 x4_9).mode, false⟩ : Rec)] : List Rec), v83, IntKind.wrap .i64 (x4_9 + 1), (ku2 (ku8 (ku8 (ku8 K22 rfl) rfl) rfl) rfl), rfl, o85, rfl, (g87 _ ((e23.t (Below.trans (Ext.trans (Below.trans e38 (Wr.below h41 (Nat.le_of_eq z36))) e46) (Wr.below h73 (Nat.le_of_eq z36)))).t e80)), S29⟩
     ·refine W_false (cb q75) <| W_skip <| blk_n <| thn_n <| W_reg <| lp rfl rfl (X_move h27) <| lp rfl rfl (X_add rfl rfl) <| lp rfl rfl (xa (.int .i64 (IntKind.wrap .i64 (x4_9 + 1))) rfl) <| nx ?_
      obtain rfl := si H
      exact ⟨_, Nat.lt_succ_self _, x3_7, v8, IntKind.wrap .i64 (x4_9 + 1), (ku1 (ku4 (ku8 (ku8 K22 rfl) rfl) rfl) rfl), h25, (Ow.ext h26 (Below.trans (Ext.trans (Below.trans e38 (Wr.below h41 (Nat.le_of_eq z36))) e46) (Wr.below h73 (Nat.le_of_eq z36)))), rfl, (e23.t (Below.trans (Ext.trans (Below.trans e38 (Wr.below h41 (Nat.le_of_eq z36))) e46) (Wr.below h73 (Nat.le_of_eq z36)))), S29⟩
   ·refine W_false (cb q30) <| W_exit <| thn_x <| thn_x <| blk_x <| thn_n ?_
    obtain rfl := si H
    obtain rfl := si S29
    exact ⟨x3_7, v8, (ku4 K22 rfl), h25, h26, e23, rfl⟩
 ·rintro s16 w15 ⟨x3_13, v14, K17, h88, h89, e18, y90⟩
  rw [y90] at C12
  have H := C12
  replace H : _ = some _ := H
  refine thn_n <| wr <| lp rfl rfl (X_move h88) <| lp rfl rfl (xa v14 rfl) <| nx <| W_ret <| fin_r ?_
  obtain rfl := si H
  exact fin1o rfl (e5.t e18) h89 (e5).size
/-! spec.IsCanonical -/
theorem spec_IsCanonical.calls {w : World} {a0 : List Rec} {v_a0 : Value} (f_a0 : Rd 5 encRec w v_a0 a0) (h0 : a0.length ≤ 1048576) (h1 : ∀ x ∈ a0, x.path.length ≤ 1048576) :
  Calls Tryz.prog 51 #[v_a0] w (Rt (RP w (.bool (isCanon a0)))) := by
 have H := spec_IsCanonical.eq a0 h0 h1
 generalize (isCanon a0) = r at H ⊢
 unfold spec_IsCanonical.sh at H
 refine calls_of_W Tryz.func51 rfl (Nat.le_of_ble_eq_true rfl) Tryz.ntmps51 rfl ?_
 refine wr <| lp rfl rfl (xa (.bool false) rfl) <| nx <| W_seq <| wr <| lp rfl rfl (xm v_a0 rfl) <| lp rfl rfl (X_lenR Tryz.underlying35 rfl f_a0) <| lp rfl rfl (X_gtr rfl rfl) <| nx ?_
 rcases bif_two H with ⟨q1, H⟩ | ⟨q1, H⟩
 ·refine W_true (cb q1) <| wr <| lp rfl rfl (xa (.bool false) rfl) <| nx <| W_ret <| thn_r <| fin_r ?_
  obtain rfl := si H
  exact fin1 rfl er
 ·refine W_false (cb q1) <| W_skip <| thn_n <| wr <| lp rfl rfl (xm v_a0 rfl) ?_
  obtain ⟨c2, H⟩ := bif_some H
  obtain ⟨c3, H⟩ := bif_some H
  refine lc rfl rfl rfl Tryz.call120 (spec_l03OK.calls (w := w) (a0 := a0) f_a0 (od c2) (od c3)) rfl <| fun w4 e5 => lp rfl rfl (xm (.bool (decide ((layerFault a0).2 = 0))) rfl) ?_
  obtain ⟨z7, x8, H⟩ := bind_some H
  refine L_grpE 5 [(9, 14)] 13 (fun q => q = z7) ?_ ?_
  ·rcases bif_two x8 with ⟨b5_, H⟩ | ⟨b5_, H⟩
   ·refine lg rfl rfl rfl rfl (cb b5_) (xm v_a0 rfl) <| lg rfl rfl rfl rfl (cb b5_) (xm v_a0 rfl) ?_
    obtain ⟨c7, H⟩ := bif_some H
    obtain ⟨c8, H⟩ := bif_some H
    refine L_callO (tg rfl rfl rfl (cb b5_)) rfl (ltb rfl) rfl Tryz.call124 (spec_l03Canon.calls (w := w4) (a0 := a0) (Rd.ext f_a0 e5) (od c7) (od c8)) rfl <| fun v11 w9 e10 o12 => ?_
    obtain ⟨c13, H⟩ := bif_some H
    refine L_callP (tg rfl rfl rfl (cb b5_)) rfl (ltb rfl) rfl Tryz.call133 (spec_l03Same.calls (w := w9) (a0 := a0) (a1 := (canonL a0)) (Rd.ext f_a0 (e5.t e10)) (Ow.rd o12) (od c13)) rfl <| fun w14 e15 => lp rfl rfl (X_pick (b := true) (v := (.bool (decide (a0 = (canonL a0))))) (cb b5_) rfl) ?_
    obtain rfl := si H
    exact nx ⟨(ku1 (ku4 kz rfl) rfl), ⟨_, rfl, rfl⟩, (e10.t e15)⟩
   ·refine ls rfl rfl rfl (cb b5_) rfl <| ls rfl rfl rfl (cb b5_) rfl <| ls rfl rfl rfl (cb b5_) rfl <| ls rfl rfl rfl (cb b5_) rfl <| lp rfl rfl (X_pick (b := false) (v := (.bool false)) (cb b5_) rfl) ?_
    obtain rfl := si H
    exact nx ⟨(ku1 (ku4 kz rfl) rfl), ⟨_, rfl, rfl⟩, er⟩
  intro s16 w9 z17 K10 hq h11 e12
  rw [hq] at h11; clear hq
  refine lp rfl rfl (X_assign h11) <| nx <| W_ret <| fin_r ?_
  obtain rfl := si H
  exact fin1 rfl (e5.t e12)
/-! impl.canonical -/
theorem impl_canonical.calls {w : World} {a0 : List Rec} (gv : GV 0 w) {v_a0 : Value} (f_a0 : Rd 5 encRec w v_a0 a0) (h0 : a0.length ≤ 1048576) (h1 : ∀ x ∈ a0, pathOK x.path = true) :
  Calls Tryz.prog 132 #[v_a0] w (Rt (RO 58 5 encRec w (canonL a0))) := by
 obtain ⟨k, H⟩ := impl_canonical.eq a0 h0 h1
 generalize (canonL a0) = r at H ⊢
 unfold impl_canonical.sh at H
 refine calls_of_W Tryz.func132 rfl (Nat.le_of_ble_eq_true rfl) Tryz.ntmps132 rfl ?_
 refine wr <| lp rfl rfl (xa (.slice none 0 0) rfl) <| nx <| wr <| L_lit (.plain rfl) rfl (ltb rfl) rfl Tryz.underlying35 Tryz.sizeOf58 Tryz.zeroValue58 rfl rfl rfl (vs := []) rfl (lit_all rfl) <| fun b1 w2 z3 z4 e5 k6 => lp rfl rfl (xa (.slice (some ⟨b1, 0, none⟩) 0 0) rfl) <| nx <| W_seq <| wr <| lp rfl rfl (xm v_a0 rfl) <| lp rfl rfl (X_lenR Tryz.underlying35 rfl (Rd.ext f_a0 e5)) <| lp rfl rfl (xm (.int .i64 0) rfl) <| nx ?_
 obtain ⟨z10, L11, C12⟩ := bind_some H
 clear H
 refine  W_cutQ (fun s0 sQ wQ => ∃ (x3_13 : List Rec) (v14 : Value), Kp [(3, 4), (5, 7), (10, 38)] s0 sQ ∧ sQ 3 = v14 ∧ Ow 58 5 encRec w2.heap.size wQ v14 x3_13 ∧ Ext w2 wQ ∧ z10 = .inr x3_13) ?_ ?_
 ·refine W_block <| W_loopI (fun s0 kk sQ wQ => ∃ (x3_7 : List Rec) (v8 : Value) (x10_9 : Int), Kp [(3, 4), (5, 7), (10, 38)] s0 sQ ∧ sQ 3 = v8 ∧ Ow 58 5 encRec w2.heap.size wQ v8 x3_7 ∧ sQ 10 = .int .i64 x10_9 ∧ Ext w2 wQ ∧ loopF (impl_canonical.b1 a0) kk (x3_7, x10_9) = some z10) k ⟨([] : List Rec), (.slice (some ⟨b1, 0, none⟩) 0 0), 0, kz, rfl, (Ow.zero), rfl, er, L11⟩ ?_
  rintro k19 s20 w21 ⟨x3_7, v8, x10_9, K22, h25, h26, h27, e23, L24⟩
  cases k19 with
  | zero => exact absurd L24 (by simp [loopF])
  | succ k19 =>
   obtain ⟨t28, H, S29⟩ := loopF_succ L24
   clear L24
   unfold impl_canonical.b1 at H
   refine wr <| lp rfl rfl (X_lss h27 (K22 9 rfl)) <| nx <| W_seq ?_
   rcases bif_two H with ⟨q30, H⟩ | ⟨q30, H⟩
   ·refine W_true (cb q30) <| W_skip <| thn_n <| W_seq <| W_block <| wr ?_
    obtain ⟨c31, H⟩ := bif_some H
    refine L_idx (.plain rfl) rfl (ltb rfl) rfl Tryz.underlying35 Tryz.sizeOf58 (K22 8 rfl) (Rd.ext f_a0 (e5.t e23)) h27 c31 <| fun p32 h33 => lp rfl rfl (X_loadS Tryz.isAgg58 Tryz.sizeOf58 rfl rfl h33) <| L_alloc (.plain rfl) rfl (ltb rfl) rfl Tryz.zeroValue58 <| fun b34 w35 z36 z37 e38 k39 => L_storeA (.plain rfl) rfl rfl Tryz.sizeOf58 rfl rfl rfl rfl rfl k39 <| fun w40 h41 k42 => nx <| wr <| lp rfl rfl (xm v_a0 (K22 0 rfl)) <| lp rfl rfl (X_fieldAddr Tryz.underlying58 rfl Tryz.sizeOf9 rfl rfl) <| lp rfl rfl (X_loadB Tryz.isAgg9 k42 rfl rfl) ?_
    obtain ⟨c43, H⟩ := bif_some H
    obtain ⟨c44, H⟩ := bif_some H
    refine lc rfl rfl rfl Tryz.call151 (impl_underOpaque.calls (w := w40) (a0 := a0) (a1 := (gt a0 x10_9).path) (Rd.ext f_a0 ((e5.t e23).t (Below.trans e38 (Wr.below h41 (Nat.le_of_eq z36))))) (od c43) (od c44)) rfl <| fun w45 e46 => lp rfl rfl (xa (.bool (underO a0 ((gt a0 x10_9).path))) rfl) <| nx <| W_seq <| wr <| lp rfl rfl (xm (.bool (underO a0 ((gt a0 x10_9).path))) rfl) <| lp rfl rfl (xm (.bool (underO a0 ((gt a0 x10_9).path))) rfl) <| L_grp 4 [(20, 24)] 23 (.bool ((underO a0 ((gt a0 x10_9).path)) && (decide (((gt a0 x10_9).kind) = 4)))) ?_ ?_
    ·rcases bool_two (underO a0 ((gt a0 x10_9).path)) with b46_ | b46_
     ·exact lg rfl rfl rfl rfl (cb b46_) (X_fieldAddr Tryz.underlying58 rfl Tryz.sizeOf3 rfl rfl) <| lg rfl rfl rfl rfl (cb b46_) (X_loadB Tryz.isAgg3 (Blk.ext k42 e46) rfl rfl) <| lg rfl rfl rfl rfl (cb b46_) (X_eql rfl rfl) <| lp rfl rfl (X_pick (b := true) (v := (.bool (decide (((gt a0 x10_9).kind) = 4)))) (cb b46_) rfl) <| nx ⟨(ku4 kz rfl), (and_t b46_), er⟩
     ·exact ls rfl rfl rfl (cb b46_) rfl <| ls rfl rfl rfl (cb b46_) rfl <| ls rfl rfl rfl (cb b46_) rfl <| lp rfl rfl (X_pick (b := false) (v := (.bool false)) (cb b46_) rfl) <| nx ⟨(ku4 kz rfl), (and_f b46_), er⟩
    intro s52 w48 K49 h50 e51
    refine nx ?_
    rcases bif_two H with ⟨q53, H⟩ | ⟨q53, H⟩
    ·refine W_true (h50.trans (cb q53)) <| W_exit <| thn_x <| blk_x <| thn_n <| W_reg <| lp rfl rfl (X_add ((K49 10 rfl).trans h27) rfl) <| lp rfl rfl (xm (.int .i64 (IntKind.wrap .i64 (x10_9 + 1))) rfl) <| nx ?_
     obtain rfl := si H
     exact ⟨_, Nat.lt_succ_self _, x3_7, v8, IntKind.wrap .i64 (x10_9 + 1), (ku2 (Kp.cut (ku3 (ku8 K22 rfl) rfl) K49 rfl) rfl), ((K49 3 rfl).trans h25), (Ow.ext h26 (Ext.trans (Ext.trans (Below.trans e38 (Wr.below h41 (Nat.le_of_eq z36))) e46) e51)), rfl, (((e23.t (Below.trans e38 (Wr.below h41 (Nat.le_of_eq z36)))).t e46).t e51), S29⟩
    ·refine W_false (h50.trans (cb q53)) <| W_skip <| thn_n <| W_seq <| wr <| lp rfl rfl (xm (.bool (underO a0 ((gt a0 x10_9).path))) (K49 6 rfl)) <| lp rfl rfl (xm (.bool (underO a0 ((gt a0 x10_9).path))) rfl) ?_
     obtain ⟨z55, x56, H⟩ := bind_some H
     refine L_grpE 6 [(26, 32)] 31 (fun q => q = z55) ?_ ?_
     ·rcases bif_two x56 with ⟨b53_, H⟩ | ⟨b53_, H⟩
      ·refine ls rfl rfl rfl (cb b53_) rfl <| ls rfl rfl rfl (cb b53_) rfl <| ls rfl rfl rfl (cb b53_) rfl <| ls rfl rfl rfl (cb b53_) rfl <| ls rfl rfl rfl (cb b53_) rfl <| lp rfl rfl (X_pick (b := true) (v := (.bool true)) (cb b53_) rfl) ?_
       obtain rfl := si H
       exact nx ⟨(ku2 (ku4 kz rfl) rfl), ⟨_, rfl, rfl⟩, er⟩
      ·refine lg rfl rfl rfl rfl (cb b53_) (X_fieldAddr Tryz.underlying58 rfl Tryz.sizeOf9 rfl (K49 5 rfl)) <| lg rfl rfl rfl rfl (cb b53_) (X_loadB Tryz.isAgg9 (Blk.ext k42 (e46.t e51)) rfl rfl) ?_
       obtain ⟨c55, H⟩ := bif_some H
       refine L_callO (tg rfl rfl rfl (cb b53_)) rfl (ltb rfl) rfl Tryz.call212 (impl_parts.calls (w := w48) (a0 := (gt a0 x10_9).path) (GV.ext gv ((((e5.t e23).t (Below.trans e38 (Wr.below h41 (Nat.le_of_eq z36)))).t e46).t e51)) (od c55)) rfl <| fun v58 w56 e57 o59 => lg rfl rfl rfl rfl (cb b53_) (X_lenR Tryz.underlying42 rfl (Ow.rd o59)) <| lg rfl rfl rfl rfl (cb b53_) (X_eql rfl rfl) <| lp rfl rfl (X_pick (b := false) (v := (.bool (decide (((cut 47 ((gt a0 x10_9).path)).length : Int) = 4)))) (cb b53_) rfl) ?_
       obtain rfl := si H
       exact nx ⟨(ku2 (ku4 kz rfl) rfl), ⟨_, rfl, rfl⟩, e57⟩
     intro s61 w57 z62 K58 hq h59 e60
     rw [hq] at h59; clear hq
     refine nx ?_
     rcases bif_two H with ⟨q63, H⟩ | ⟨q63, H⟩
     ·refine W_true (h59.trans (cb q63)) <| W_reg <| lp rfl rfl (X_fieldAddr Tryz.underlying58 rfl Tryz.sizeOf4 rfl ((K58 5 rfl).trans (K49 5 rfl))) <| L_store1 (.plain rfl) rfl rfl Tryz.sizeOf4 rfl rfl rfl (Blk.ext k42 ((e46.t e51).t e60)) (ltb rfl) <| fun w64 h65 k66 => nx <| W_reg <| lp rfl rfl (xm v8 ((K58 3 rfl).trans ((K49 3 rfl).trans h25))) <| lp rfl rfl (X_loadS Tryz.isAgg58 Tryz.sizeOf58 rfl ((K58 5 rfl).trans (K49 5 rfl)) (Blk.at0 k66)) <| L_lit (.plain rfl) rfl (ltb rfl) rfl Tryz.underlying35 Tryz.sizeOf58 Tryz.zeroValue58 rfl rfl rfl (vs := [(.agg #[(.int .i64 ((gt a0 x10_9).kind)), (S ((gt a0 x10_9).path)), (S ((gt a0 x10_9).body)), (.int .i64 ((gt a0 x10_9).mode)), (.bool false)])]) rfl (lit_all rfl) <| fun b67 w68 z69 z70 e71 k72 => ?_
      obtain ⟨c73, H⟩ := bif_some H
      refine L_append (enc := encRec) (.plain rfl) rfl (ltb rfl) rfl El.t35 rfl rfl (Ow.ext h26 (Ext.trans (Below.trans (Ext.trans (Ext.trans (Ext.trans (Below.trans e38 (Wr.below h41 (Nat.le_of_eq z36))) e46) e51) e60) (Wr.below h65 (Nat.le_of_eq z36))) e71)) (Ow.rd (Ow.new (xs := [(⟨(gt a0 x10_9).kind, (gt a0 x10_9).path, (gt a0 x10_9).body, (gt a0 x10_9).mode, false⟩ : Rec)]) (sz := 5) (enc := encRec) (base := w64.heap.size) k72 (Nat.le_of_eq z69) rfl (fun _ _ => by rfl) (Nat.le_of_ble_eq_true rfl))) (ones_Rec _) (od c73) (((e23.t (Below.trans (Ext.trans (Ext.trans (Ext.trans (Below.trans e38 (Wr.below h41 (Nat.le_of_eq z36))) e46) e51) e60) (Wr.below h65 (Nat.le_of_eq z36)))).t e71)).size <| fun v74 w75 o76 z77 g78 => lp rfl rfl (xa v74 rfl) <| L_nil <| blk_n <| thn_n <| W_reg <| lp rfl rfl (X_add ((K58 10 rfl).trans ((K49 10 rfl).trans h27)) rfl) <| lp rfl rfl (xm (.int .i64 (IntKind.wrap .i64 (x10_9 + 1))) rfl) <| nx ?_
      obtain rfl := si H
      exact ⟨_, Nat.lt_succ_self _, x3_7 ++ ([(⟨(gt a0 x10_9).kind, (gt a0 x10_9).path, (gt a0 x10_9).body, (gt a0 x10_9).mode, false⟩ : Rec)] : List Rec), v74, IntKind.wrap .i64 (x10_9 + 1), (ku8 (Kp.cut (ku2 (Kp.cut (ku3 (ku8 K22 rfl) rfl) K49 rfl) rfl) K58 rfl) rfl), rfl, o76, rfl, (g78 _ ((e23.t (Below.trans (Ext.trans (Ext.trans (Ext.trans (Below.trans e38 (Wr.below h41 (Nat.le_of_eq z36))) e46) e51) e60) (Wr.below h65 (Nat.le_of_eq z36)))).t e71)), S29⟩
     ·refine W_false (h59.trans (cb q63)) <| W_skip <| thn_n <| W_reg <| lp rfl rfl (xm v8 ((K58 3 rfl).trans ((K49 3 rfl).trans h25))) <| lp rfl rfl (X_loadS Tryz.isAgg58 Tryz.sizeOf58 rfl ((K58 5 rfl).trans (K49 5 rfl)) (Blk.at0 (Blk.ext k42 ((e46.t e51).t e60)))) <| L_lit (.plain rfl) rfl (ltb rfl) rfl Tryz.underlying35 Tryz.sizeOf58 Tryz.zeroValue58 rfl rfl rfl (vs := [(.agg #[(.int .i64 ((gt a0 x10_9).kind)), (S ((gt a0 x10_9).path)), (S ((gt a0 x10_9).body)), (.int .i64 ((gt a0 x10_9).mode)), (.bool ((gt a0 x10_9).opq))])]) rfl (lit_all rfl) <| fun b79 w80 z81 z82 e83 k84 => ?_
      obtain ⟨c85, H⟩ := bif_some H
      refine L_append (enc := encRec) (.plain rfl) rfl (ltb rfl) rfl El.t35 rfl rfl (Ow.ext h26 (Ext.trans (Ext.trans (Ext.trans (Ext.trans (Below.trans e38 (Wr.below h41 (Nat.le_of_eq z36))) e46) e51) e60) e83)) (Ow.rd (Ow.new (xs := [(gt a0 x10_9)]) (sz := 5) (enc := encRec) (base := w57.heap.size) k84 (Nat.le_of_eq z81) rfl (fun _ _ => by rfl) (Nat.le_of_ble_eq_true rfl))) (ones_Rec _) (od c85) ((((((e23.t (Below.trans e38 (Wr.below h41 (Nat.le_of_eq z36)))).t e46).t e51).t e60).t e83)).size <| fun v86 w87 o88 z89 g90 => lp rfl rfl (xa v86 rfl) <| L_nil <| blk_n <| thn_n <| W_reg <| lp rfl rfl (X_add ((K58 10 rfl).trans ((K49 10 rfl).trans h27)) rfl) <| lp rfl rfl (xm (.int .i64 (IntKind.wrap .i64 (x10_9 + 1))) rfl) <| nx ?_
      obtain rfl := si H
      exact ⟨_, Nat.lt_succ_self _, x3_7 ++ ([(gt a0 x10_9)] : List Rec), v86, IntKind.wrap .i64 (x10_9 + 1), (ku3 (ku4 (Kp.cut (ku2 (Kp.cut (ku3 (ku8 K22 rfl) rfl) K49 rfl) rfl) K58 rfl) rfl) rfl), rfl, o88, rfl, (g90 _ (((((e23.t (Below.trans e38 (Wr.below h41 (Nat.le_of_eq z36)))).t e46).t e51).t e60).t e83)), S29⟩
   ·refine W_false (cb q30) <| W_exit <| thn_x <| thn_x <| blk_x <| thn_n ?_
    obtain rfl := si H
    obtain rfl := si S29
    exact ⟨x3_7, v8, (ku1 K22 rfl), h25, h26, e23, rfl⟩
 ·rintro s16 w15 ⟨x3_13, v14, K17, h91, h92, e18, y93⟩
  rw [y93] at C12
  have H := C12
  replace H : _ = some _ := H
  refine thn_n <| wr <| lp rfl rfl (X_move h91) <| lp rfl rfl (xa v14 rfl) <| nx <| W_ret <| fin_r ?_
  obtain rfl := si H
  exact fin1o rfl (e5.t e18) h92 (e5).size
/-! impl.IsCanonical -/
theorem impl_IsCanonical.calls {w : World} {a0 : List Rec} (gv : GV 0 w) {v_a0 : Value} (f_a0 : Rd 5 encRec w v_a0 a0) (h0 : a0.length ≤ 1048576) (h1 : ∀ x ∈ a0, x.path.length ≤ 1048576) :
  Calls Tryz.prog 37 #[v_a0] w (Rt (RP w (.bool (isCanon a0)))) := by
 have H := impl_IsCanonical.eq a0 h0 h1
 generalize (isCanon a0) = r at H ⊢
 unfold impl_IsCanonical.sh at H
 refine calls_of_W Tryz.func37 rfl (Nat.le_of_ble_eq_true rfl) Tryz.ntmps37 rfl ?_
 refine wr <| lp rfl rfl (xa (.bool false) rfl) <| nx <| wr <| lp rfl rfl (xm v_a0 rfl) ?_
 obtain ⟨c1, H⟩ := bif_some H
 obtain ⟨c2, H⟩ := bif_some H
 refine lc rfl rfl rfl Tryz.call50 (impl_LayerOK.calls (w := w) (a0 := a0) gv f_a0 (od c1) (od c2)) rfl <| fun w3 e4 => lp rfl rfl (xm (.bool (decide ((layerFaultL a0).2 = 0))) rfl) ?_
 obtain ⟨z6, x7, H⟩ := bind_some H
 refine L_grpE 5 [(6, 11)] 10 (fun q => q = z6) ?_ ?_
 ·rcases bif_two x7 with ⟨b4_, H⟩ | ⟨b4_, H⟩
  ·refine lg rfl rfl rfl rfl (cb b4_) (xm v_a0 rfl) ?_
   obtain ⟨c6, H⟩ := bif_some H
   obtain ⟨c7, H⟩ := bif_some H
   refine L_callO (tg rfl rfl rfl (cb b4_)) rfl (ltb rfl) rfl Tryz.call132 (impl_canonical.calls (w := w3) (a0 := a0) (GV.ext gv e4) (Rd.ext f_a0 e4) (od c6) (od c7)) rfl <| fun v10 w8 e9 o11 => lg rfl rfl rfl rfl (cb b4_) (xm v_a0 rfl) ?_
   obtain ⟨c12, H⟩ := bif_some H
   refine L_callP (tg rfl rfl rfl (cb b4_)) rfl (ltb rfl) rfl Tryz.call131 (slices_EqualR.calls (w := w8) (a0 := (canonL a0)) (a1 := a0) (Ow.rd o11) (Rd.ext f_a0 (e4.t e9)) (od c12)) rfl <| fun w13 e14 => lp rfl rfl (X_pick (b := true) (v := (.bool (decide ((canonL a0) = a0)))) (cb b4_) rfl) ?_
   obtain rfl := si H
   exact nx ⟨(ku1 (ku4 kz rfl) rfl), ⟨_, rfl, rfl⟩, (e9.t e14)⟩
  ·refine ls rfl rfl rfl (cb b4_) rfl <| ls rfl rfl rfl (cb b4_) rfl <| ls rfl rfl rfl (cb b4_) rfl <| ls rfl rfl rfl (cb b4_) rfl <| lp rfl rfl (X_pick (b := false) (v := (.bool false)) (cb b4_) rfl) ?_
   obtain rfl := si H
   exact nx ⟨(ku1 (ku4 kz rfl) rfl), ⟨_, rfl, rfl⟩, er⟩
 intro s15 w8 z16 K9 hq h10 e11
 rw [hq] at h10; clear hq
 refine lp rfl rfl (X_assign h10) <| nx <| W_ret <| fin_r ?_
 obtain rfl := si H
 exact fin1 rfl (e4.t e11)
/-! spec.Canonical -/
theorem spec_Canonical.walk {w : World} {a0 : List Rec} {v_a0 : Value} (f_a0 : Rd 5 encRec w v_a0 a0) {r : List Rec × Int} (H : spec_Canonical.sh a0 = some r) :
  Calls Tryz.prog 33 #[v_a0] w (Rt (RT 58 5 encRec w r.1 (.int .i64 r.2))) := by
 unfold spec_Canonical.sh at H
 refine calls_of_W Tryz.func33 rfl (Nat.le_of_ble_eq_true rfl) Tryz.ntmps33 rfl ?_
 refine wr <| lp rfl rfl (xa (.slice none 0 0) rfl) <| lp rfl rfl (xa (.int .i64 0) rfl) <| nx <| W_seq <| wr <| lp rfl rfl (xm v_a0 rfl) <| lp rfl rfl (X_lenR Tryz.underlying35 rfl f_a0) <| lp rfl rfl (X_gtr rfl rfl) <| nx ?_
 rcases bif_two H with ⟨q1, H⟩ | ⟨q1, H⟩
 ·refine W_true (cb q1) <| wr <| L_lit (.plain rfl) rfl (ltb rfl) rfl Tryz.underlying35 Tryz.sizeOf58 Tryz.zeroValue58 rfl rfl rfl (vs := []) rfl (lit_all rfl) <| fun b2 w3 z4 z5 e6 k7 => lp rfl rfl (xa (.slice (some ⟨b2, 0, none⟩) 0 0) rfl) <| lp rfl rfl (xa (.int .i64 2) rfl) <| nx <| W_ret <| thn_r <| fin_r ?_
  obtain rfl := si H
  exact fin2o rfl rfl e6 (Ow.zero (base := w.heap.size)) (Nat.le_refl _)
 ·refine W_false (cb q1) <| W_skip <| thn_n <| W_seq <| wr <| lp rfl rfl (xm v_a0 rfl) ?_
  obtain ⟨c8, H⟩ := bif_some H
  obtain ⟨c9, H⟩ := bif_some H
  refine lc rfl rfl rfl Tryz.call120 (spec_l03OK.calls (w := w) (a0 := a0) f_a0 (od c8) (od c9)) rfl <| fun w10 e11 => lp rfl rfl (X_not rfl) <| nx ?_
  rcases bif_two H with ⟨q12, H⟩ | ⟨q12, H⟩
  ·refine W_true (cb q12) <| wr <| L_lit (.plain rfl) rfl (ltb rfl) rfl Tryz.underlying35 Tryz.sizeOf58 Tryz.zeroValue58 rfl rfl rfl (vs := []) rfl (lit_all rfl) <| fun b13 w14 z15 z16 e17 k18 => lp rfl rfl (xa (.slice (some ⟨b13, 0, none⟩) 0 0) rfl) <| lp rfl rfl (xa (.int .i64 1) rfl) <| nx <| W_ret <| thn_r <| fin_r ?_
   obtain rfl := si H
   exact fin2o rfl rfl (e11.t e17) (Ow.zero (base := w.heap.size)) (Nat.le_refl _)
  ·refine W_false (cb q12) <| W_skip <| thn_n <| wr <| lp rfl rfl (xm v_a0 rfl) ?_
   obtain ⟨c19, H⟩ := bif_some H
   obtain ⟨c20, H⟩ := bif_some H
   refine L_callO (.plain rfl) rfl (ltb rfl) rfl Tryz.call124 (spec_l03Canon.calls (w := w10) (a0 := a0) (Rd.ext f_a0 e11) (od c19) (od c20)) rfl <| fun v23 w21 e22 o24 => lp rfl rfl (xa v23 rfl) <| lp rfl rfl (xa (.int .i64 0) rfl) <| nx <| W_ret <| fin_r ?_
   obtain rfl := si H
   exact fin2o rfl rfl (e11.t e22) o24 (e11).size
theorem spec_Canonical.calls {w : World} {a0 : List Rec} {v_a0 : Value} (f_a0 : Rd 5 encRec w v_a0 a0) (h0 : a0.length ≤ 1048576) (h1 : ∀ x ∈ a0, x.path.length ≤ 1048576) :
  Calls Tryz.prog 33 #[v_a0] w (Rt (RT 58 5 encRec w ((canonOf a0).1) (.int .i64 ((canonOf a0).2)))) := spec_Canonical.walk f_a0 (spec_Canonical.eq a0 h0 h1)
/-! impl.Canonical -/
theorem impl_Canonical.walk {w : World} {a0 : List Rec} (gv : GV 0 w) {v_a0 : Value} (f_a0 : Rd 5 encRec w v_a0 a0) {r : List Rec × Int} (H : impl_Canonical.sh a0 = some r) :
  Calls Tryz.prog 49 #[v_a0] w (Rt (RT 58 5 encRec w r.1 (.int .i64 r.2))) := by
 unfold impl_Canonical.sh at H
 refine calls_of_W Tryz.func49 rfl (Nat.le_of_ble_eq_true rfl) Tryz.ntmps49 rfl ?_
 refine wr <| lp rfl rfl (xa (.slice none 0 0) rfl) <| lp rfl rfl (xa (.int .i64 0) rfl) <| nx <| W_seq <| wr <| lp rfl rfl (xm v_a0 rfl) <| lc rfl rfl rfl Tryz.call126 (impl_isLongListR.calls (w := w) (a0 := a0) f_a0) rfl <| fun w1 e2 => lp rfl rfl (X_mkiface Tryz.underlying4 rfl rfl) <| lp rfl rfl (X_mkiface Tryz.underlying3 rfl rfl) <| lp rfl rfl (xm v_a0 rfl) ?_
 obtain ⟨c3, H⟩ := bif_some H
 obtain ⟨c4, H⟩ := bif_some H
 refine lc rfl rfl rfl Tryz.call50 (impl_LayerOK.calls (w := w1) (a0 := a0) (GV.ext gv e2) (Rd.ext f_a0 e2) (od c3) (od c4)) rfl <| fun w5 e6 => lp rfl rfl (X_not rfl) <| lp rfl rfl (X_mkiface Tryz.underlying4 rfl rfl) <| lp rfl rfl (X_mkiface Tryz.underlying3 rfl rfl) <| L_lit (.plain rfl) rfl (ltb rfl) rfl Tryz.underlying171 Tryz.sizeOf20 Tryz.zeroValue20 rfl rfl rfl (vs := [(.iface 4 (.bool (decide (4096 < a0.length)))), (.iface 3 (.int .i64 2)), (.iface 4 (.bool (!(decide ((layerFaultL a0).2 = 0))))), (.iface 3 (.int .i64 1))]) rfl (lit_all rfl) <| fun b7 w8 z9 z10 e11 k12 => ?_
 obtain ⟨c13, H⟩ := bif_some H
 obtain ⟨z16, x17, H⟩ := bind_some H
 replace x17 := si x17
 refine lc rfl rfl rfl Tryz.call125 (impl_first.calls (w := w8) (a0 := ([.inl (decide (4096 < a0.length)), .inr 2, .inl (!(decide ((layerFaultL a0).2 = 0))), .inr 1] : List (Bool ⊕ Int))) (Ow.rd (Ow.new (xs := [.inl (decide (4096 < a0.length)), .inr 2, .inl (!(decide ((layerFaultL a0).2 = 0))), .inr 1]) (sz := 1) (enc := (encAny 4 3)) (base := w5.heap.size) k12 (Nat.le_of_eq z9) rfl (fun _ _ => by first | rfl | exact encAny_len _ _ _) (Nat.le_of_ble_eq_true rfl))) (od c13)) rfl <| fun w14 e15 => lp rfl rfl (xa (.int .i64 z16) (congrArg (Value.int .i64) x17)) <| nx <| wr <| lp rfl rfl (xm (.int .i64 z16) rfl) <| lp rfl rfl (X_neq rfl rfl) <| nx ?_
 rcases bif_two H with ⟨q18, H⟩ | ⟨q18, H⟩
 ·refine W_true (cb q18) <| wr <| lp rfl rfl (xm (.int .i64 z16) rfl) <| lp rfl rfl (xa (.slice none 0 0) rfl) <| lp rfl rfl (xa (.int .i64 z16) rfl) <| nx <| W_ret <| thn_r <| fin_r ?_
  obtain rfl := si H
  exact fin2o rfl rfl (((e2.t e6).t e11).t e15) (Ow.zero (base := w.heap.size)) (Nat.le_refl _)
 ·refine W_false (cb q18) <| W_skip <| thn_n <| wr <| lp rfl rfl (xm v_a0 rfl) ?_
  obtain ⟨c19, H⟩ := bif_some H
  obtain ⟨c20, H⟩ := bif_some H
  refine L_callO (.plain rfl) rfl (ltb rfl) rfl Tryz.call132 (impl_canonical.calls (w := w14) (a0 := a0) (GV.ext gv (((e2.t e6).t e11).t e15)) (Rd.ext f_a0 (((e2.t e6).t e11).t e15)) (od c19) (od c20)) rfl <| fun v23 w21 e22 o24 => lp rfl rfl (xa v23 rfl) <| lp rfl rfl (xa (.int .i64 0) rfl) <| nx <| W_ret <| fin_r ?_
  obtain rfl := si H
  exact fin2o rfl rfl ((((e2.t e6).t e11).t e15).t e22) o24 ((((e2.t e6).t e11).t e15)).size
theorem impl_Canonical.calls {w : World} {a0 : List Rec} (gv : GV 0 w) {v_a0 : Value} (f_a0 : Rd 5 encRec w v_a0 a0) (h0 : a0.length ≤ 1048576) (h1 : ∀ x ∈ a0, x.path.length ≤ 1048576) :
  Calls Tryz.prog 49 #[v_a0] w (Rt (RT 58 5 encRec w ((canonOf a0).1) (.int .i64 ((canonOf a0).2)))) := impl_Canonical.walk gv f_a0 (impl_Canonical.eq a0 h0 h1)
/-! spec.l04Without -/
theorem spec_l04Without.calls {w : World} {a0 : List Nd} {a1 : List UInt8} {a2 : Bool} {v_a0 : Value} (f_a0 : Rd 4 encNd w v_a0 a0) (h0 : a0.length ≤ 1048576) :
  Calls Tryz.prog 170 #[v_a0, S a1, .bool a2] w (Rt (RO 60 4 encNd w (without a0 a1 a2))) := by
 obtain ⟨k, H⟩ := spec_l04Without.eq a0 a1 a2 h0
 generalize (without a0 a1 a2) = r at H ⊢
 unfold spec_l04Without.sh at H
 refine calls_of_W Tryz.func170 rfl (Nat.le_of_ble_eq_true rfl) Tryz.ntmps170 rfl ?_
 refine wr <| lp rfl rfl (xa (.slice none 0 0) rfl) <| nx <| wr <| L_lit (.plain rfl) rfl (ltb rfl) rfl Tryz.underlying29 Tryz.sizeOf60 Tryz.zeroValue60 rfl rfl rfl (vs := []) rfl (lit_all rfl) <| fun b1 w2 z3 z4 e5 k6 => lp rfl rfl (xa (.slice (some ⟨b1, 0, none⟩) 0 0) rfl) <| nx <| W_seq <| wr <| lp rfl rfl (xa (.int .i64 0) rfl) <| nx ?_
 obtain ⟨z10, L11, C12⟩ := bind_some H
 clear H
 refine  W_cutQ (fun s0 sQ wQ => ∃ (x7_13 : List Nd) (v14 : Value), Kp [(7, 9), (10, 44)] s0 sQ ∧ sQ 7 = v14 ∧ Ow 60 4 encNd w2.heap.size wQ v14 x7_13 ∧ Ext w2 wQ ∧ z10 = .inr x7_13) ?_ ?_
 ·refine W_block <| W_loopI (fun s0 kk sQ wQ => ∃ (x7_7 : List Nd) (v8 : Value) (x8_9 : Int), Kp [(7, 9), (10, 44)] s0 sQ ∧ sQ 7 = v8 ∧ Ow 60 4 encNd w2.heap.size wQ v8 x7_7 ∧ sQ 8 = .int .i64 x8_9 ∧ Ext w2 wQ ∧ loopF (spec_l04Without.b1 a0 a1 a2) kk (x7_7, x8_9) = some z10) k ⟨([] : List Nd), (.slice (some ⟨b1, 0, none⟩) 0 0), 0, kz, rfl, (Ow.zero), rfl, er, L11⟩ ?_
  rintro k19 s20 w21 ⟨x7_7, v8, x8_9, K22, h25, h26, h27, e23, L24⟩
  cases k19 with
  | zero => exact absurd L24 (by simp [loopF])
  | succ k19 =>
   obtain ⟨t28, H, S29⟩ := loopF_succ L24
   clear L24
   unfold spec_l04Without.b1 at H
   refine W_seq <| wr <| lp rfl rfl (X_move h27) <| lp rfl rfl (xm v_a0 (K22 0 rfl)) <| lp rfl rfl (X_lenR Tryz.underlying29 rfl (Rd.ext f_a0 (e5.t e23))) <| lp rfl rfl (X_lss rfl rfl) <| nx ?_
   rcases bif_two H with ⟨q30, H⟩ | ⟨q30, H⟩
   ·refine W_true (cb q30) <| W_skip <| thn_n <| W_seq <| W_block <| wr <| lp rfl rfl (xm v_a0 (K22 0 rfl)) <| lp rfl rfl (X_move h27) ?_
    obtain ⟨c31, H⟩ := bif_some H
    refine L_idx (.plain rfl) rfl (ltb rfl) rfl Tryz.underlying29 Tryz.sizeOf60 rfl (Rd.ext f_a0 (e5.t e23)) rfl c31 <| fun p32 h33 => lp rfl rfl (X_fieldAddr Tryz.underlying60 rfl Tryz.sizeOf9 rfl rfl) <| lp rfl rfl (X_loadF Tryz.isAgg9 (j := 1) h33 rfl rfl) <| lp rfl rfl (xm (S a1) (K22 1 rfl)) <| lc rfl rfl rfl Tryz.call171 (spec_l01Below.calls (w := w21) (a0 := (gt a0 x8_9).path) (a1 := a1)) rfl <| fun w34 e35 => lp rfl rfl (X_not rfl) <| lp rfl rfl (X_move rfl) ?_
    obtain ⟨z37, x38, H⟩ := bind_some H
    refine L_grpE 12 [(25, 37)] 36 (fun q => q = z37) ?_ ?_
    ·rcases bif_two x38 with ⟨b35_, H⟩ | ⟨b35_, H⟩
     ·refine lg rfl rfl rfl rfl (cb b35_) (xm (.bool a2) (K22 2 rfl)) <| lg rfl rfl rfl rfl (cb b35_) (X_not rfl) <| lg rfl rfl rfl rfl (cb b35_) (xm (.bool (!a2)) rfl) ?_
      obtain ⟨z38, x39, H⟩ := bind_some H
      refine L_grpE 8 [(28, 36)] 35 (fun q => q = z38) ?_ ?_
      ·rcases bif_two x39 with ⟨b36_, H⟩ | ⟨b36_, H⟩
       ·refine ls rfl rfl rfl (cb b36_) rfl <| ls rfl rfl rfl (cb b36_) rfl <| ls rfl rfl rfl (cb b36_) rfl <| ls rfl rfl rfl (cb b36_) rfl <| ls rfl rfl rfl (cb b36_) rfl <| ls rfl rfl rfl (cb b36_) rfl <| ls rfl rfl rfl (cb b36_) rfl <| lg rfl rfl rfl rfl (cb b35_) (X_pick (b := true) (v := (.bool true)) (cb b36_) rfl) ?_
        obtain rfl := si H
        exact nx ⟨(ku8 kz rfl), ⟨_, rfl, rfl⟩, er⟩
       ·refine lg rfl rfl rfl rfl (cb b36_) (xm v_a0 (K22 0 rfl)) <| lg rfl rfl rfl rfl (cb b36_) (X_move h27) ?_
        obtain ⟨c38, H⟩ := bif_some H
        refine L_idx (tg rfl rfl rfl (cb b36_)) rfl (ltb rfl) rfl Tryz.underlying29 Tryz.sizeOf60 rfl (Rd.ext f_a0 ((e5.t e23).t e35)) rfl c38 <| fun p39 h40 => lg rfl rfl rfl rfl (cb b36_) (X_fieldAddr Tryz.underlying60 rfl Tryz.sizeOf9 rfl rfl) <| lg rfl rfl rfl rfl (cb b36_) (X_loadF Tryz.isAgg9 (j := 1) h40 rfl rfl) <| lg rfl rfl rfl rfl (cb b36_) (xm (S a1) (K22 1 rfl)) <| lg rfl rfl rfl rfl (cb b36_) (X_sne rfl rfl) <| lg rfl rfl rfl rfl (cb b35_) (X_pick (b := false) (v := (.bool (!decide (((gt a0 x8_9).path) = a1)))) (cb b36_) rfl) ?_
        obtain rfl := si H
        exact nx ⟨(ku8 kz rfl), ⟨_, rfl, rfl⟩, er⟩
      intro s44 w40 z45 K41 hq h42 e43
      rw [hq] at h42; clear hq
      refine lp rfl rfl (X_pick (b := true) (v := (.bool z38)) ((K41 24 rfl).trans (cb b35_)) h42) ?_
      obtain rfl := si H
      exact nx ⟨(ku1 (Kp.cut (ku3 kz rfl) K41 rfl) rfl), ⟨_, rfl, rfl⟩, e43⟩
     ·refine ls rfl rfl rfl (cb b35_) rfl <| ls rfl rfl rfl (cb b35_) rfl <| ls rfl rfl rfl (cb b35_) rfl <| lu rfl rfl rfl rfl rfl <| lu rfl rfl rfl rfl rfl <| lu rfl rfl rfl rfl rfl <| lu rfl rfl rfl rfl rfl <| lu rfl rfl rfl rfl rfl <| lu rfl rfl rfl rfl rfl <| lu rfl rfl rfl rfl rfl <| ls rfl rfl rfl (cb b35_) rfl <| lp rfl rfl (X_pick (b := false) (v := (.bool false)) (cb b35_) rfl) ?_
      obtain rfl := si H
      exact nx ⟨(ku4 (ku8 kz rfl) rfl), ⟨_, rfl, rfl⟩, er⟩
    intro s46 w39 z47 K40 hq h41 e42
    rw [hq] at h41; clear hq
    refine nx ?_
    rcases bif_two H with ⟨q48, H⟩ | ⟨q48, H⟩
    ·refine W_true (h41.trans (cb q48)) <| W_reg <| lp rfl rfl (xm v8 ((K40 7 rfl).trans h25)) <| lp rfl rfl (xm v_a0 ((K40 0 rfl).trans (K22 0 rfl))) <| lp rfl rfl (xm (.int .i64 x8_9) ((K40 8 rfl).trans h27)) ?_
     obtain ⟨c49, H⟩ := bif_some H
     refine L_idx (.plain rfl) rfl (ltb rfl) rfl Tryz.underlying29 Tryz.sizeOf60 rfl (Rd.ext f_a0 (((e5.t e23).t e35).t e42)) rfl c49 <| fun p50 h51 => lp rfl rfl (X_loadS Tryz.isAgg60 Tryz.sizeOf60 rfl rfl h51) <| L_lit (.plain rfl) rfl (ltb rfl) rfl Tryz.underlying29 Tryz.sizeOf60 Tryz.zeroValue60 rfl rfl rfl (vs := [(.agg (encNd (gt a0 x8_9)).toArray)]) rfl (lit_all rfl) <| fun b52 w53 z54 z55 e56 k57 => ?_
     obtain ⟨c58, H⟩ := bif_some H
     refine L_append (enc := encNd) (.plain rfl) rfl (ltb rfl) rfl El.t29 rfl rfl (Ow.ext h26 ((e35.t e42).t e56)) (Ow.rd (Ow.new (xs := [gt a0 x8_9]) (sz := 4) (enc := encNd) (base := w39.heap.size) k57 (Nat.le_of_eq z54) rfl (fun _ _ => by rfl) (Nat.le_of_ble_eq_true rfl))) (ones_Nd _) (od c58) ((((e23.t e35).t e42).t e56)).size <| fun v59 w60 o61 z62 g63 => lp rfl rfl (xa v59 rfl) <| L_nil <| blk_n <| thn_n <| W_reg <| lp rfl rfl (xm (.int .i64 x8_9) ((K40 8 rfl).trans h27)) <| lp rfl rfl (X_add rfl rfl) <| lp rfl rfl (xa (.int .i64 (IntKind.wrap .i64 (x8_9 + 1))) rfl) <| nx ?_
     obtain rfl := si H
     exact ⟨_, Nat.lt_succ_self _, x7_7 ++ ([gt a0 x8_9] : List Nd), v59, IntKind.wrap .i64 (x8_9 + 1), (ku3 (ku8 (Kp.cut (ku1 (ku4 (ku8 K22 rfl) rfl) rfl) K40 rfl) rfl) rfl), rfl, o61, rfl, (g63 _ (((e23.t e35).t e42).t e56)), S29⟩
    ·refine W_false (h41.trans (cb q48)) <| W_skip <| blk_n <| thn_n <| W_reg <| lp rfl rfl (xm (.int .i64 x8_9) ((K40 8 rfl).trans h27)) <| lp rfl rfl (X_add rfl rfl) <| lp rfl rfl (xa (.int .i64 (IntKind.wrap .i64 (x8_9 + 1))) rfl) <| nx ?_
     obtain rfl := si H
     exact ⟨_, Nat.lt_succ_self _, x7_7, v8, IntKind.wrap .i64 (x8_9 + 1), (ku3 (Kp.cut (ku1 (ku4 (ku8 K22 rfl) rfl) rfl) K40 rfl) rfl), ((K40 7 rfl).trans h25), (Ow.ext h26 (e35.t e42)), rfl, ((e23.t e35).t e42), S29⟩
   ·refine W_false (cb q30) <| W_exit <| thn_x <| thn_x <| blk_x <| thn_n ?_
    obtain rfl := si H
    obtain rfl := si S29
    exact ⟨x7_7, v8, (ku4 K22 rfl), h25, h26, e23, rfl⟩
 ·rintro s16 w15 ⟨x7_13, v14, K17, h64, h65, e18, y66⟩
  rw [y66] at C12
  have H := C12
  replace H : _ = some _ := H
  refine thn_n <| wr <| lp rfl rfl (X_move h64) <| lp rfl rfl (xa v14 rfl) <| nx <| W_ret <| fin_r ?_
  obtain rfl := si H
  exact fin1o rfl (e5.t e18) h65 (e5).size
/-! slices.Clone(()impl.Node,impl.Node), by text -/
theorem slices_CloneN.calls {w : World} {a0 : List Nd} {v_a0 : Value} (f_a0 : Rd 4 encNd w v_a0 a0) (h0 : a0.length ≤ 1048576) :
    Calls Tryz.prog 156 #[v_a0] w (Rt (RO 60 4 encNd w a0)) := by
  obtain ⟨A, c, hv⟩ := f_a0.shape
  refine calls_of_W Tryz.func156 rfl (Nat.le_of_ble_eq_true rfl) Tryz.ntmps156 rfl ?_
  refine wr <| lp rfl rfl (X_assign (v := .slice none 0 0) rfl) <| nx <| W_seq <| wr <| lp rfl rfl (xm v_a0 rfl) <| lp rfl rfl (X_eqNil Tryz.underlying29 (by kernel_rfl) hv rfl) <| nx ?_
  cases A with
  | none =>
    have hn : a0 = [] := by
      obtain ⟨A', c', hv', ⟨hn, hz, _⟩, _⟩ := f_a0
      rw [hv] at hv'; injection hv' with e1 e2 e3
      have := hz e1.symm
      exact List.eq_nil_of_length_eq_zero (by omega)
    subst hn
    refine W_true rfl <| wr <| lp rfl rfl (X_assign (v := .slice none 0 0) rfl) <| nx <| W_ret <| thn_r <| fin_r ?_
    exact fin1o rfl er (Ow.zero (base := w.heap.size)) (Nat.le_refl _)
  | some a =>
    refine W_false rfl <| W_skip <| thn_n <| wr <| L_lit (.plain rfl) rfl (ltb rfl) rfl Tryz.underlying29 Tryz.sizeOf60 Tryz.zeroValue60 rfl rfl rfl (vs := []) rfl (lit_all rfl) <| fun b w1 z1 z2 e1 k1 => lp rfl rfl (xm v_a0 rfl) <|
      L_append (enc := encNd) (.plain rfl) rfl (ltb rfl) rfl El.t29 rfl rfl (Ow.zero (base := w1.heap.size) (w := w1)) (Rd.ext f_a0 e1) (ones_Nd _) (by simp; omega) (Nat.le_refl _) <| fun v2 w2 o2 z3 g2 => lp rfl rfl (xa v2 rfl) <| nx <| W_ret <| fin_r ?_
    have e2 : Ext w w2 := Ext.trans e1 (g2 _ er)
    have o3 : Ow 60 4 encNd w1.heap.size w2 v2 a0 := by simpa using o2
    exact fin1o rfl e2 o3 e1.size

/-! impl.removed$1 -/
theorem impl_removed_1.calls {w : World} {a0 : Nd} {a1 : List UInt8} {b_a1 : Nat} (k_a1 : Blk w b_a1 #[(S a1)] 9) (h0 : a1.length ≤ 1048576) :
  Calls Tryz.prog 243 #[.agg (encNd a0).toArray, .pointer (some ⟨b_a1, 0, none⟩)] w (Rt (RP w (.bool (decide (a0.path = a1) || (decide (a1 = []) || belowP a0.path a1))))) := by
 have H := impl_removed_1.eq a0 a1 h0
 generalize (decide (a0.path = a1) || (decide (a1 = []) || belowP a0.path a1)) = r at H ⊢
 unfold impl_removed_1.sh at H
 refine calls_of_W Tryz.func243 rfl (Nat.le_of_ble_eq_true rfl) Tryz.ntmps243 rfl ?_
 refine wr <| L_box (.plain rfl) rfl (ltb rfl) rfl rfl <| fun b1 w2 z3 z4 e5 k6 => lp rfl rfl (xa (.bool false) rfl) <| nx <| wr <| lp rfl rfl (X_fieldAddr Tryz.underlying60 rfl Tryz.sizeOf9 rfl rfl) <| lp rfl rfl (X_loadB Tryz.isAgg9 k6 rfl rfl) <| lp rfl rfl (X_loadB Tryz.isAgg9 (Blk.ext k_a1 e5) rfl rfl) <| lp rfl rfl (X_seq rfl rfl) <| lp rfl rfl (xm (.bool (decide (a0.path = a1))) rfl) ?_
 obtain ⟨z8, x9, H⟩ := bind_some H
 refine L_grpE 5 [(9, 14)] 13 (fun q => q = z8) ?_ ?_
 ·rcases bif_two x9 with ⟨b6_, H⟩ | ⟨b6_, H⟩
  ·refine ls rfl rfl rfl (cb b6_) rfl <| ls rfl rfl rfl (cb b6_) rfl <| ls rfl rfl rfl (cb b6_) rfl <| ls rfl rfl rfl (cb b6_) rfl <| lp rfl rfl (X_pick (b := true) (v := (.bool true)) (cb b6_) rfl) ?_
   obtain rfl := si H
   exact nx ⟨(ku1 (ku4 kz rfl) rfl), ⟨_, rfl, rfl⟩, er⟩
  ·refine lg rfl rfl rfl rfl (cb b6_) (X_fieldAddr Tryz.underlying60 rfl Tryz.sizeOf9 rfl rfl) <| lg rfl rfl rfl rfl (cb b6_) (X_loadB Tryz.isAgg9 k6 rfl rfl) <| lg rfl rfl rfl rfl (cb b6_) (X_loadB Tryz.isAgg9 (Blk.ext k_a1 e5) rfl rfl) ?_
   obtain ⟨c8, H⟩ := bif_some H
   refine L_callP (tg rfl rfl rfl (cb b6_)) rfl (ltb rfl) rfl Tryz.call244 (impl_below.calls (w := w2) (a0 := a0.path) (a1 := a1) (od c8)) rfl <| fun w9 e10 => lp rfl rfl (X_pick (b := false) (v := (.bool (decide (a1 = []) || belowP a0.path a1))) (cb b6_) rfl) ?_
   obtain rfl := si H
   exact nx ⟨(ku1 (ku4 kz rfl) rfl), ⟨_, rfl, rfl⟩, e10⟩
 intro s14 w10 z15 K11 hq h12 e13
 rw [hq] at h12; clear hq
 refine lp rfl rfl (X_assign h12) <| nx <| W_ret <| fin_r ?_
 obtain rfl := si H
 exact fin1 rfl (e5.t e13)
/-! slices.DeleteFunc(()impl.Node,impl.Node), by text -/
theorem slices_DeleteFuncN.calls {w wF : World} {B : Nat} {v : Value} {xs : List Nd} (hO : Ow 60 4 encNd B w v xs) (kF : Ext wF w) (hF : wF.heap.size ≤ B) (hl : xs.length ≤ 1048576) {u : Value} {q : Nd → Bool}
    (hf : ∀ x, FnAt Tryz.prog wF u [.agg (encNd x).toArray] (.bool (q x))) (hu : u.cells = #[u]) :
    Calls Tryz.prog 242 #[v, u] w (Rt (fun r w' => Ext wF w' ∧ Ow 60 4 encNd B w' r (xs.filter fun x => !q x))) := by
  obtain ⟨A, c, hv⟩ := hO.rd.shape
  have hidx := idxO_some (p := fun x => some (q x)) (q := q) (l := xs) (fun _ _ => rfl)
  refine calls_of_W Tryz.func242 rfl (Nat.le_of_ble_eq_true rfl) Tryz.ntmps242 rfl ?_
  refine wr <| lp rfl rfl (X_assign (v := .slice none 0 0) rfl) <| nx <| wr <| lp rfl rfl (xm v rfl) <| lp rfl rfl (xm u rfl) <|
    lc rfl rfl rfl Tryz.call261 (slices_IndexFuncN.calls (w := w) (a0 := xs) (a1 := fun x => some (q x)) hO.rd (fun x r h => by have h := si h; subst h; exact (hf x).ext kF) hu (by omega) hidx) rfl <| fun w1 e1 => lp rfl rfl (X_assign (v := .int .i64 (findI q xs)) rfl) <| nx <|
    W_seq <| wr <| lp rfl rfl (X_move (v := .int .i64 (findI q xs)) rfl) <| lp rfl rfl (X_eql rfl rfl) <| nx ?_
  have hge := findI_ge q xs
  by_cases hm : findI q xs = -1
  · have hnone : ∀ x ∈ xs, q x = false := by
      have := findI_any q xs
      rw [hm] at this
      intro x hx
      rcases bool_two (q x) with h | h
      · have h2 : xs.any q = true := List.any_eq_true.2 ⟨x, hx, h⟩
        rw [h2] at this; cases this
      · exact h
    have hfil : (xs.filter fun x => !q x) = xs := List.filter_eq_self.2 fun x hx => by rw [hnone x hx]; rfl
    refine W_true (cb (decide_eq_true hm)) <| wr <| lp rfl rfl (xm v rfl) <| lp rfl rfl (xa v rfl) <| nx <| W_ret <| thn_r <| fin_r ?_
    rw [hfil]
    exact ⟨_, rfl, Ext.trans kF e1, hO.ext e1⟩
  · obtain ⟨hin, hq0⟩ := findI_get q xs (by omega)
    obtain ⟨i0, hi0⟩ : ∃ i0 : Nat, findI q xs = i0 := ⟨(findI q xs).toNat, by omega⟩
    rw [hi0] at hin hq0 ⊢
    have hlt0 : i0 < xs.length := by have := inR_hi hin; omega
    have hpre : (xs.take (i0 + 1)).filter (fun x => !q x) = xs.take i0 := by
      have hfst := findI_first q xs i0 hi0
      rw [List.take_succ_eq_append_getElem hlt0, List.filter_append]
      have h1 : (xs.take i0).filter (fun x => !q x) = xs.take i0 := List.filter_eq_self.2 fun x hx => by rw [hfst x hx]; rfl
      have h2 : q xs[i0] = true := by rw [getD_gt, getD_el hlt0] at hq0; exact hq0
      rw [h1]; simp [h2]
    have hpl : ((xs.take (i0 + 1)).filter (fun x => !q x)).length = i0 := by rw [hpre]; simp; omega
    have hwi : IntKind.wrap .i64 ((i0 : Int) + 1) = ((i0 + 1 : Nat) : Int) := by rw [Int.natCast_add, Int.natCast_one]; exact Go.UL.wrap_small (by omega) (by omega)
    refine W_false (cb (decide_eq_false (by omega))) <| W_skip <| thn_n <| W_seq <| wr <| lp rfl rfl (X_move (v := .int .i64 (i0 : Int)) rfl) <| lp rfl rfl (X_add rfl rfl) <|
      lp rfl rfl (X_assign (v := .int .i64 ((i0 + 1 : Nat) : Int)) (congrArg (Value.int .i64) hwi)) <| nx ?_
    refine W_cutQ (fun s0 σ W' => σ 0 = v ∧ Ext wF W' ∧ ∃ ys : List Nd, ys.length = xs.length ∧ σ 5 = .int .i64 ((xs.filter fun x => !q x).length : Int) ∧ Ow 60 4 encNd B W' v ys ∧ ys.take (xs.filter fun x => !q x).length = xs.filter fun x => !q x) ?_ ?_
    · refine W_block <| W_loopI (fun s0 m σ W' => σ 0 = v ∧ σ 1 = u ∧ Ext wF W' ∧ ∃ (j : Nat) (ys : List Nd), j + m = xs.length ∧ i0 < j ∧ σ 6 = .int .i64 (j : Int) ∧ ys.length = xs.length ∧ σ 5 = .int .i64 (((xs.take j).filter fun x => !q x).length : Int) ∧ ((xs.take j).filter fun x => !q x).length < j ∧ Ow 60 4 encNd B W' v ys ∧ ys.take ((xs.take j).filter fun x => !q x).length = (xs.take j).filter (fun x => !q x) ∧ ys.drop j = xs.drop j) (xs.length - (i0 + 1))
        ⟨rfl, rfl, Ext.trans kF e1, i0 + 1, xs, by omega, by omega, rfl, rfl, (congrArg (fun n : Nat => Value.int .i64 (n : Int)) hpl).symm, by omega, hO.ext e1, by rw [hpl, hpre], rfl⟩ ?_
      rintro m s1 W1 ⟨h0, h1, k1, j, ys, hjm, hij, h6, hyl, h5, hlt, hO1, htk, hdr⟩
      refine W_seq <| wr <| lp rfl rfl (X_move h6) <| lp rfl rfl (X_move h0) <| lp rfl rfl (X_lenR Tryz.underlying29 rfl hO1.rd) <| lp rfl rfl (X_lss rfl rfl) <| nx ?_
      by_cases hjl : j < xs.length
      · have hjy : j < ys.length := by omega
        have hinj : inR (j : Int) ys.length = true := inR_nat hjy
        have hyj : gt ys (j : Int) = xs[j] := by
          rw [getD_gt, getD_el hjy]
          have h2 : (ys.drop j)[0]? = (xs.drop j)[0]? := by rw [hdr]
          simp only [List.getElem?_drop, Nat.add_zero, List.getElem?_eq_getElem hjy, List.getElem?_eq_getElem hjl] at h2
          exact si h2
        refine W_true (cb (decide_eq_true (by omega))) <| W_skip <| thn_n <| W_seq <| W_block <| wr <| lp rfl rfl (X_move h0) <| lp rfl rfl (X_move h6) <| L_idx (.plain rfl) rfl (ltb rfl) rfl Tryz.underlying29 Tryz.sizeOf60 rfl hO1.rd rfl hinj <| fun p hA =>
          lp rfl rfl (X_loadS (cs := encNd (gt ys (j : Int))) Tryz.isAgg60 Tryz.sizeOf60 rfl rfl hA) <| L_alloc (.plain rfl) rfl (ltb rfl) rfl Tryz.zeroValue60 <| fun b7 W2 z1 z2 e2 k2 => L_storeA (.plain rfl) rfl rfl Tryz.sizeOf60 rfl rfl rfl rfl rfl k2 <| fun W3 hw3 k3 => nx ?_
        have e3 : Ext W1 W3 := Ext.wr e2 hw3 (Nat.le_of_eq z1) (Nat.le_refl _)
        have hO3 := hO1.ext e3
        have kF3 : Ext wF W3 := Ext.trans k1 e3
        refine wr <| lp rfl rfl (X_move h1) <| lp rfl rfl (X_loadS (cs := encNd (gt ys (j : Int))) Tryz.isAgg60 Tryz.sizeOf60 rfl rfl (Blk.at0 k3)) <| L_callF (.plain rfl) rfl (ltb rfl) rfl rfl ((hf (gt ys (j : Int))).ext kF3) rfl <| fun W4 e4 => lp rfl rfl (X_not rfl) <| nx ?_
        have hO4 := hO3.ext e4
        have kF4 := Ext.trans kF3 e4
        have hstep : (xs.take (j + 1)).filter (fun x => !q x) = (xs.take j).filter (fun x => !q x) ++ (if q xs[j] then [] else [xs[j]]) := by
          rw [List.take_succ_eq_append_getElem hjl, List.filter_append]
          congr 1
          rcases bool_two (q xs[j]) with h | h <;> simp [h]
        have hwj : IntKind.wrap .i64 ((j : Int) + 1) = ((j + 1 : Nat) : Int) := by rw [Int.natCast_add, Int.natCast_one]; exact Go.UL.wrap_small (by omega) (by omega)
        have hdr1 : ys.drop (j + 1) = xs.drop (j + 1) := by
          have := congrArg (List.drop 1) hdr
          simpa [List.drop_drop, Nat.add_comm] using this
        have h6' := h6
        rcases bool_two (q (gt ys (j : Int))) with hq | hq
        · refine W_false (cb (by rw [hq]; rfl)) <| W_skip <| blk_n <| thn_n <| W_reg <| lp rfl rfl (X_move h6) <| lp rfl rfl (X_add rfl rfl) <| lp rfl rfl (X_assign (v := .int .i64 ((j + 1 : Nat) : Int)) (congrArg (Value.int .i64) hwj)) <| nx ?_
          rw [hyj] at hq
          rw [hq] at hstep
          simp only [if_true, List.append_nil] at hstep
          refine ⟨m - 1, by omega, h0, h1, kF4, j + 1, ys, by omega, by omega, rfl, hyl, by rw [hstep]; exact h5, by rw [hstep]; omega, hO4, by rw [hstep]; exact htk, hdr1⟩
        · refine W_true (cb (by rw [hq]; rfl)) <| wr <| lp rfl rfl (X_move h0) <| lp rfl rfl (X_move h5) <| lp rfl rfl (X_loadS (cs := encNd (gt ys (j : Int))) Tryz.isAgg60 Tryz.sizeOf60 rfl rfl (Blk.at0 (k3.ext e4))) <|
            L_idxO (.plain rfl) rfl (ltb rfl) rfl Tryz.underlying29 Tryz.sizeOf60 rfl hO4 rfl (inR_nat (show ((xs.take j).filter fun x => !q x).length < ys.length by omega)) <| fun p9 h9 => ?_
          refine L_storeO (a := gt ys (j : Int)) (u := .agg (encNd (gt ys (j : Int))).toArray) (vs := encNd (gt ys (j : Int))) (off := 0) (.plain rfl) rfl rfl Tryz.sizeOf60 rfl h9 rfl rfl rfl rfl (by simp [encNd]) rfl <| fun b9 W5 hb9 hB9 hw9 hO5 => nx ?_
          have kF5 : Ext wF W5 := Ext.wr kF4 hw9 (Nat.le_trans hF hB9) (Nat.le_refl _)
          rw [hyj] at hq
          rw [hq] at hstep
          simp only [Bool.false_eq_true, if_false] at hstep
          have hw5 : IntKind.wrap .i64 ((((xs.take j).filter fun x => !q x).length : Int) + 1) = ((((xs.take j).filter fun x => !q x).length + 1 : Nat) : Int) := by rw [Int.natCast_add, Int.natCast_one]; exact Go.UL.wrap_small (by omega) (by omega)
          refine W_reg <| lp rfl rfl (X_move h5) <| lp rfl rfl (X_add rfl rfl) <| lp rfl rfl (X_assign (v := .int .i64 ((((xs.take j).filter fun x => !q x).length + 1 : Nat) : Int)) (congrArg (Value.int .i64) hw5)) <| L_nil <| blk_n <| thn_n <|
            W_reg <| lp rfl rfl (X_move h6') <| lp rfl rfl (X_add rfl rfl) <| lp rfl rfl (X_assign (v := .int .i64 ((j + 1 : Nat) : Int)) (congrArg (Value.int .i64) hwj)) <| nx ?_
          refine ⟨m - 1, by omega, h0, h1, kF5, j + 1, _, by omega, by omega, rfl, by rw [setI_len]; exact hyl, by rw [hstep]; simp; rfl, by rw [hstep]; simp; omega, hO5, ?_, ?_⟩
          · rw [hstep, hyj]
            simp only [setI, Int.toNat_natCast, List.length_append, List.length_cons, List.length_nil]
            rw [List.take_set_succ (by omega), htk]
          · simp only [setI, Int.toNat_natCast]
            rw [List.drop_set_of_lt (by omega)]; exact hdr1
      · have hje : j = xs.length := by omega
        subst hje
        rw [List.take_length] at h5 htk
        refine W_false (cb (decide_eq_false (by omega))) <| W_exit <| thn_x <| thn_x <| blk_x <| thn_n ?_
        exact ⟨h0, k1, ys, hyl, h5, hO1, htk⟩
    · rintro s2 W2 ⟨h0, k2, ys, hyl, h5, hO2, htk⟩
      have hli : (xs.filter fun x => !q x).length ≤ ys.length := by rw [hyl]; exact List.length_filter_le _ _
      have hv2 : v = .slice A ys.length c := by rw [hyl]; exact hv
      have hcap : ys.length ≤ c := by obtain ⟨A', c', hv', ⟨hn, _⟩, _⟩ := hO2.rd; rw [hv2] at hv'; injection hv' with _ _ e; omega
      refine thn_n <| wr <| lp rfl rfl (X_move h0) <| lp rfl rfl (X_move h5) <|
        lp rfl rfl (X_sliceSl (A := A) (n := ys.length) (c := c) (l := ((xs.filter fun x => !q x).length : Int)) (h := (ys.length : Int)) Tryz.underlying29 Tryz.sizeOf60 hv2 ⟨_, rfl⟩ rfl (by omega) (by omega) (by omega)) <|
        L_clearO (enc := encNd) (zr := (⟨0, [], [], 0⟩ : Nd)) (i := (xs.filter fun x => !q x).length) (.plain rfl) rfl rfl El.t29 Tryz.zeroValue60 rfl rfl hO2 hv2 hli rfl <| fun W3 hg3 hz3 hO3 => nx ?_
      have k3 : Ext wF W3 := Below.mono (hg3 W2 (Below.refl _ _)) hF |> Below.trans k2
      have hlz : (xs.filter fun x => !q x).length ≤ (ys.take (xs.filter fun x => !q x).length ++ List.replicate (ys.length - (xs.filter fun x => !q x).length) (⟨0, [], [], 0⟩ : Nd)).length := by simp; omega
      refine wr <| lp rfl rfl (X_move h0) <| lp rfl rfl (X_move h5) <| L_takeO (.plain rfl) rfl (ltb rfl) rfl Tryz.underlying29 Tryz.sizeOf60 rfl hO3 rfl hlz <| fun r hr => lp rfl rfl (xa r rfl) <| nx <| W_ret <| fin_r ?_
      refine ⟨_, rfl, k3, ?_⟩
      have hx : (ys.take (xs.filter fun x => !q x).length ++ List.replicate (ys.length - (xs.filter fun x => !q x).length) (⟨0, [], [], 0⟩ : Nd)).take (xs.filter fun x => !q x).length = xs.filter fun x => !q x := by
        rw [htk, List.take_left]
      rw [hx] at hr
      exact hr

/-! impl.removed, by text -/
theorem impl_removed.calls {w : World} {a0 : List Nd} {a1 : List UInt8} {v_a0 : Value} (f_a0 : Rd 4 encNd w v_a0 a0) (h0 : a0.length ≤ 1048576) (h1 : a1.length ≤ 1048576) :
    Calls Tryz.prog 169 #[v_a0, S a1] w (Rt (RO 60 4 encNd w (without a0 a1 true))) := by
  refine calls_of_W Tryz.func169 rfl (Nat.le_of_ble_eq_true rfl) Tryz.ntmps169 rfl ?_
  refine wr <| L_box (.plain rfl) rfl (ltb rfl) rfl rfl <| fun b w1 z1 z2 e1 k1 => lp rfl rfl (X_assign (v := .slice none 0 0) rfl) <| nx <| wr <| lp rfl rfl (xm v_a0 rfl) <|
    L_callO (.plain rfl) rfl (ltb rfl) rfl Tryz.call156 (slices_CloneN.calls (w := w1) (a0 := a0) (f_a0.ext e1) h0) rfl <| fun v2 w2 e2 o2 => lp rfl rfl (X_makeFunc (vs := #[]) (us := #[.pointer (some ⟨b, 0, none⟩)]) rfl rfl) <|
    L_callA (.plain rfl) rfl (ltb rfl) rfl Tryz.call242 (slices_DeleteFuncN.calls (w := w2) (wF := w1) (B := w1.heap.size) (xs := a0) (q := fun x => decide (x.path = a1) || (decide (a1 = []) || belowP x.path a1)) o2 e2 (Nat.le_refl _) h0
      (fun x => FnAt.mk Tryz.call243 (by rfl) fun w9 k9 => impl_removed_1.calls (w := w9) (a0 := x) (a1 := a1) (k1.ext k9) h1) rfl) rfl <| fun v3 w3 h3 => ?_
  obtain ⟨e3, o3⟩ := h3
  refine lp rfl rfl (xa v3 rfl) <| nx <| W_ret <| fin_r ?_
  rw [without_impl]
  exact fin1o rfl (e1.t e3) o3 e1.size

/-! slices.BinarySearchFunc(()impl.Node,impl.Node,impl.Node) -/
theorem slices_BinSearchN.walk {k : Nat} {w : World} {a0 : List Nd} {a1 : Nd} {a2 : Nd → Nd → Option Int} {v_a0 : Value} (f_a0 : Rd 4 encNd w v_a0 a0) {v_a2 : Value} (f_a2 : ∀ (x0 : Nd) (x1 : Nd) (r : Int), a2 x0 x1 = some r → FnAt Tryz.prog w v_a2 [(.agg (encNd x0).toArray), (.agg (encNd x1).toArray)] (.int .i64 r)) (g_a2 : v_a2.cells = #[v_a2]) {r : Int × Bool} (H : slices_BinSearchN.sh k a0 a1 a2 = some r) :
  Calls Tryz.prog 238 #[v_a0, .agg (encNd a1).toArray, v_a2] w (Rt (RP w (.tuple #[.int .i64 r.1, .bool r.2]))) := by
 unfold slices_BinSearchN.sh at H
 refine calls_of_W Tryz.func238 rfl (Nat.le_of_ble_eq_true rfl) Tryz.ntmps238 rfl ?_
 refine wr <| L_box (.plain rfl) rfl (ltb rfl) rfl rfl <| fun b1 w2 z3 z4 e5 k6 => lp rfl rfl (xa (.int .i64 0) rfl) <| lp rfl rfl (xa (.bool false) rfl) <| nx <| wr <| lp rfl rfl (xm v_a0 rfl) <| lp rfl rfl (X_lenR Tryz.underlying29 rfl (Rd.ext f_a0 e5)) <| lp rfl rfl (xa (.int .i64 (a0.length : Int)) rfl) <| nx <| wr <| lp rfl rfl (xm (.int .i64 (a0.length : Int)) rfl) <| lp rfl rfl (xa (.int .i64 0) rfl) <| lp rfl rfl (xa (.int .i64 (a0.length : Int)) rfl) <| nx <| W_seq ?_
 obtain ⟨z9, L10, C11⟩ := bind_some H
 clear H
 refine  W_cutQ (fun s0 sQ wQ => ∃ (x9_12 : Int), Kp [(9, 12), (15, 35)] s0 sQ ∧ sQ 9 = .int .i64 x9_12 ∧ Ext w2 wQ ∧ z9 = .inr x9_12) ?_ ?_
 ·refine W_block <| W_loopI (fun s0 kk sQ wQ => ∃ (x9_7 : Int) (x10_8 : Int), Kp [(9, 12), (15, 35)] s0 sQ ∧ sQ 9 = .int .i64 x9_7 ∧ sQ 10 = .int .i64 x10_8 ∧ Ext w2 wQ ∧ loopF (slices_BinSearchN.b1 a0 a1 a2) kk (x9_7, x10_8) = some z9) k ⟨0, (a0.length : Int), kz, rfl, rfl, er, L10⟩ ?_
  rintro k17 s18 w19 ⟨x9_7, x10_8, K20, h23, h24, e21, L22⟩
  cases k17 with
  | zero => exact absurd L22 (by simp [loopF])
  | succ k17 =>
   obtain ⟨t25, H, S26⟩ := loopF_succ L22
   clear L22
   unfold slices_BinSearchN.b1 at H
   refine W_seq <| wr <| lp rfl rfl (X_move h23) <| lp rfl rfl (X_move h24) <| lp rfl rfl (X_lss rfl rfl) <| nx ?_
   rcases bif_two H with ⟨q27, H⟩ | ⟨q27, H⟩
   ·refine W_true (cb q27) <| W_skip <| thn_n <| W_block <| wr <| lp rfl rfl (X_move h23) <| lp rfl rfl (X_move h24) <| lp rfl rfl (X_add rfl rfl) <| lp rfl rfl (X_convInt Tryz.underlying3 Tryz.underlying214 rfl) <| lp rfl rfl (X_shr (n := 1) rfl rfl rfl) <| lp rfl rfl (X_convInt Tryz.underlying214 Tryz.underlying3 rfl) <| lp rfl rfl (X_assign rfl) <| nx <| W_seq ?_
    obtain ⟨c28, H⟩ := bif_some H
    obtain ⟨z31, x32, H⟩ := bind_some H
    refine W_dM [LEq v_a2, LEq v_a0, LEq (.int .i64 (IntKind.wrap .i64 ((IntKind.wrap .u64 (IntKind.wrap .i64 (x9_7 + x10_8))).fdiv (2 ^ 1)))), LAt0 (encNd (gt a0 (IntKind.wrap .i64 ((IntKind.wrap .u64 (IntKind.wrap .i64 (x9_7 + x10_8))).fdiv (2 ^ 1))))), LEq (.agg (encNd (gt a0 (IntKind.wrap .i64 ((IntKind.wrap .u64 (IntKind.wrap .i64 (x9_7 + x10_8))).fdiv (2 ^ 1))))).toArray), LEq (.agg #[(.int .i64 a1.kind), (S a1.path), (S a1.body), (.int .i64 a1.mode)]), LEq (.int .i64 z31), LEq (.bool (decide (z31 < 0)))] (by kernel_rfl) (by kernel_rfl) ⟨qm, qm, qm, LAt0.mono, qm, qm, qm, qm, trivial⟩ ⟨?_, ?_, ?_, ?_, ?_, ?_, ?_, ?_, trivial⟩ ?_
    ·exact fun s x e f d u => lp rfl rfl (xm v_a2 ((f 2 rfl).trans (K20 2 rfl))) <| se rfl rfl
    ·exact fun s x e f d u => lp rfl rfl (xm v_a0 ((f 0 rfl).trans (K20 0 rfl))) <| se rfl rfl
    ·exact fun s x e f d u => lp rfl rfl (X_move (f 11 rfl)) <| se rfl rfl
    ·exact fun s x e f d u => L_idx (.plain rfl) rfl (ltb rfl) rfl Tryz.underlying29 Tryz.sizeOf60 (d 1 rfl) (Rd.ext f_a0 ((e5.t e21).t e)) (d 2 rfl) c28 <| fun p36 h37 => se rfl ⟨_, rfl, h37⟩
    ·intro s x e f d u
     obtain ⟨p38, h39, h40⟩ := (d 3 rfl)
     exact lp rfl rfl (X_loadS Tryz.isAgg60 Tryz.sizeOf60 rfl h39 h40) <| se rfl rfl
    ·exact fun s x e f d u => lp rfl rfl (X_loadS Tryz.isAgg60 Tryz.sizeOf60 rfl ((f 4 rfl).trans (K20 4 rfl)) (Blk.at0 (Blk.ext k6 (e21.t e)))) <| se rfl rfl
    ·exact fun s x e f d u => L_callF (.plain rfl) rfl (ltb rfl) rfl (d 0 rfl) (FnAt.ext (f_a2 _ _ _ x32) ((e5.t e21).t e)) (cons2 (d 4 rfl) (cons2 (d 5 rfl) rfl)) <| fun w43 e44 => sx rfl e44 rfl
    ·exact fun s x e f d u => lp rfl rfl (X_lss (d 6 rfl) rfl) <| se rfl rfl
    intro s45 w46 e47 hf48 ha49
    have K50 := Kp.ofD (kp := [(24, 32)]) rfl hf48
    have d51 : s45 31 = (.bool (decide (z31 < 0))) := ha49 7 rfl
    clear ha49 hf48
    refine thn_n ?_
    rcases bif_two H with ⟨q52, H⟩ | ⟨q52, H⟩
    ·refine W_true (d51.trans (cb q52)) <| W_reg <| lp rfl rfl (X_move (K50 11 rfl)) <| lp rfl rfl (X_add rfl rfl) <| lp rfl rfl (X_assign rfl) <| L_nil <| blk_n <| thn_n ?_
     obtain rfl := si H
     exact ⟨_, Nat.lt_succ_self _, IntKind.wrap .i64 ((IntKind.wrap .i64 ((IntKind.wrap .u64 (IntKind.wrap .i64 (x9_7 + x10_8))).fdiv (2 ^ 1))) + 1), x10_8, (ku3 (Kp.cut (ku2 (ku8 K20 rfl) rfl) K50 rfl) rfl), rfl, ((K50 10 rfl).trans h24), (e21.t e47), S26⟩
    ·refine W_false (d51.trans (cb q52)) <| W_reg <| lp rfl rfl (X_move (K50 11 rfl)) <| lp rfl rfl (X_assign rfl) <| L_nil <| blk_n <| thn_n ?_
     obtain rfl := si H
     exact ⟨_, Nat.lt_succ_self _, x9_7, IntKind.wrap .i64 ((IntKind.wrap .u64 (IntKind.wrap .i64 (x9_7 + x10_8))).fdiv (2 ^ 1)), (ku2 (Kp.cut (ku2 (ku8 K20 rfl) rfl) K50 rfl) rfl), ((K50 9 rfl).trans h23), rfl, (e21.t e47), S26⟩
   ·refine W_false (cb q27) <| W_exit <| thn_x <| thn_x <| blk_x <| thn_n ?_
    obtain rfl := si H
    obtain rfl := si S26
    exact ⟨x9_7, (ku3 K20 rfl), h23, e21, rfl⟩
 ·rintro s14 w13 ⟨x9_12, K15, h53, e16, y54⟩
  rw [y54] at C11
  have H := C11
  replace H : _ = some _ := H
  refine thn_n <| W_seq ?_
  obtain ⟨c55, H⟩ := bif_some H
  obtain ⟨z58, x59, H⟩ := bind_some H
  refine W_dM [LEq (.int .i64 x9_12), LEq (.int .i64 x9_12), LEq (.int .i64 (a0.length : Int)), LEq (.bool (decide (x9_12 < (a0.length : Int)))), LEq (.bool (decide (x9_12 < (a0.length : Int)))), LIf (decide (x9_12 < (a0.length : Int))) (LEq v_a2), LIf (decide (x9_12 < (a0.length : Int))) (LEq v_a0), LIf (decide (x9_12 < (a0.length : Int))) (LEq (.int .i64 x9_12)), LIf (decide (x9_12 < (a0.length : Int))) (LAt0 (encNd (gt a0 x9_12))), LIf (decide (x9_12 < (a0.length : Int))) (LEq (.agg (encNd (gt a0 x9_12)).toArray)), LIf (decide (x9_12 < (a0.length : Int))) (LEq (.agg #[(.int .i64 a1.kind), (S a1.path), (S a1.body), (.int .i64 a1.mode)])), LIf (decide (x9_12 < (a0.length : Int))) (LEq (.int .i64 z58)), LIf (decide (x9_12 < (a0.length : Int))) (LEq (.bool (decide (z58 = 0)))), LEq (.bool ((decide (x9_12 < (a0.length : Int))) && (decide (z58 = 0)))), LEq (.int .i64 x9_12), LEq (.bool ((decide (x9_12 < (a0.length : Int))) && (decide (z58 = 0))))] (by kernel_rfl) (by kernel_rfl) ⟨qm, qm, qm, qm, qm, lm, lm, lm, (LIf.mono LAt0.mono), lm, lm, lm, lm, qm, qm, qm, trivial⟩ ⟨?_, ?_, ?_, ?_, ?_, ?_, ?_, ?_, ?_, ?_, ?_, ?_, ?_, ?_, ?_, ?_, trivial⟩ ?_
  ·exact fun s x e f d u => lp rfl rfl (xm (.int .i64 x9_12) ((f 9 rfl).trans h53)) <| se rfl rfl
  ·exact fun s x e f d u => lp rfl rfl (xm (.int .i64 x9_12) ((f 9 rfl).trans h53)) <| se rfl rfl
  ·exact fun s x e f d u => lp rfl rfl (xm (.int .i64 (a0.length : Int)) ((f 8 rfl).trans (K15 8 rfl))) <| se rfl rfl
  ·exact fun s x e f d u => lp rfl rfl (X_lss (d 1 rfl) (d 2 rfl)) <| se rfl rfl
  ·exact fun s x e f d u => lp rfl rfl (X_move (d 3 rfl)) <| se rfl rfl
  ·exact fun s x e f d u => gT rfl rfl rfl rfl (d 4 rfl) rfl fun b t => lt t rfl rfl (xm v_a2 ((f 2 rfl).trans (K15 2 rfl))) <| sg rfl rfl b rfl
  ·exact fun s x e f d u => gT rfl rfl rfl rfl (d 4 rfl) rfl fun b t => lt t rfl rfl (xm v_a0 ((f 0 rfl).trans (K15 0 rfl))) <| sg rfl rfl b rfl
  ·exact fun s x e f d u => gT rfl rfl rfl rfl (d 4 rfl) rfl fun b t => lt t rfl rfl (xm (.int .i64 x9_12) ((f 9 rfl).trans h53)) <| sg rfl rfl b rfl
  ·exact fun s x e f d u => gT rfl rfl rfl rfl (d 4 rfl) rfl fun b t => L_idx t rfl (ltb rfl) rfl Tryz.underlying29 Tryz.sizeOf60 ((d 6 rfl).1 b) (Rd.ext f_a0 ((e5.t e16).t e)) ((d 7 rfl).1 b) (imp_take b c55) <| fun p63 h64 => sg rfl rfl b ⟨_, rfl, h64⟩
  ·intro s x e f d u
   refine gT rfl rfl rfl rfl (d 4 rfl) rfl fun b t => ?_
   obtain ⟨p65, h66, h67⟩ := ((d 8 rfl).1 b)
   exact lt t rfl rfl (X_loadS Tryz.isAgg60 Tryz.sizeOf60 rfl h66 h67) <| sg rfl rfl b rfl
  ·exact fun s x e f d u => gT rfl rfl rfl rfl (d 4 rfl) rfl fun b t => lt t rfl rfl (X_loadS Tryz.isAgg60 Tryz.sizeOf60 rfl ((f 4 rfl).trans (K15 4 rfl)) (Blk.at0 (Blk.ext k6 (e16.t e)))) <| sg rfl rfl b rfl
  ·exact fun s x e f d u => gT rfl rfl rfl rfl (d 4 rfl) rfl fun b t => L_callF t rfl (ltb rfl) rfl ((d 5 rfl).1 b) (FnAt.ext (f_a2 _ _ _ x59) ((e5.t e16).t e)) (cons2 ((d 9 rfl).1 b) (cons2 ((d 10 rfl).1 b) rfl)) <| fun w70 e71 => sgx rfl rfl b e71 rfl
  ·exact fun s x e f d u => gT rfl rfl rfl rfl (d 4 rfl) rfl fun b t => lt t rfl rfl (X_eql ((d 11 rfl).1 b) rfl) <| sg rfl rfl b rfl
  ·exact fun s x e f d u => lp rfl rfl (X_pickA (d 4 rfl) rfl fun h => ((d 12 rfl).1 h)) <| se rfl rfl
  ·exact fun s x e f d u => lp rfl rfl (X_assign (d 0 rfl)) <| se rfl rfl
  ·exact fun s x e f d u => lp rfl rfl (X_assign (d 13 rfl)) <| se rfl rfl
  intro s72 w73 e74 hf75 ha76
  have K77 := Kp.ofD (kp := [(6, 8), (35, 49)]) rfl hf75
  have d78 : s72 6 = (.int .i64 x9_12) := ha76 14 rfl
  have d79 : s72 7 = (.bool ((decide (x9_12 < (a0.length : Int))) && (decide (z58 = 0)))) := ha76 15 rfl
  clear ha76 hf75
  refine thn_n <| W_ret <| fin_r ?_
  obtain rfl := si H
  exact fin2 d78 d79 ((e5.t e16).t e74)
theorem slices_BinSearchN.calls {w : World} {a0 : List Nd} {a1 : Nd} {a2 : Nd → Nd → Option Int} {r : Int × Bool} {v_a0 : Value} (f_a0 : Rd 4 encNd w v_a0 a0) {v_a2 : Value} (f_a2 : ∀ (x0 : Nd) (x1 : Nd) (r : Int), a2 x0 x1 = some r → FnAt Tryz.prog w v_a2 [(.agg (encNd x0).toArray), (.agg (encNd x1).toArray)] (.int .i64 r)) (g_a2 : v_a2.cells = #[v_a2]) (H : (slices_BinSearchN.sh 64 a0 a1 a2) = some r) :
  Calls Tryz.prog 238 #[v_a0, .agg (encNd a1).toArray, v_a2] w (Rt (RP w (.tuple #[.int .i64 r.1, .bool r.2]))) := by
 obtain ⟨k, h⟩ := slices_BinSearchN.eq a0 a1 a2 H
 exact slices_BinSearchN.walk f_a0 f_a2 g_a2 h
/-! impl.place$1 -/
theorem impl_place_1.calls {w : World} {a0 : Nd} {a1 : Nd} (gv : GV 0 w) (h0 : a0.path.length ≤ 1048576) (h1 : a1.path.length ≤ 1048576) :
  Calls Tryz.prog 239 #[.agg (encNd a0).toArray, .agg (encNd a1).toArray] w (Rt (RP w (.int .i64 (cmpL (cut 47 a0.path) (cut 47 a1.path))))) := by
 have H := impl_place_1.eq a0 a1 h0 h1
 generalize (cmpL (cut 47 a0.path) (cut 47 a1.path)) = r at H ⊢
 unfold impl_place_1.sh at H
 refine calls_of_W Tryz.func239 rfl (Nat.le_of_ble_eq_true rfl) Tryz.ntmps239 rfl ?_
 refine wr <| L_box (.plain rfl) rfl (ltb rfl) rfl rfl <| fun b1 w2 z3 z4 e5 k6 => L_box (.plain rfl) rfl (ltb rfl) rfl rfl <| fun b7 w8 z9 z10 e11 k12 => lp rfl rfl (xa (.int .i64 0) rfl) <| nx <| wr <| lp rfl rfl (X_fieldAddr Tryz.underlying60 rfl Tryz.sizeOf9 rfl rfl) <| lp rfl rfl (X_loadB Tryz.isAgg9 (Blk.ext k6 e11) rfl rfl) <| lp rfl rfl (X_fieldAddr Tryz.underlying60 rfl Tryz.sizeOf9 rfl rfl) <| lp rfl rfl (X_loadB Tryz.isAgg9 k12 rfl rfl) ?_
 obtain ⟨c13, H⟩ := bif_some H
 obtain ⟨c14, H⟩ := bif_some H
 refine lc rfl rfl rfl Tryz.call181 (impl_compare.calls (w := w8) (a0 := a0.path) (a1 := a1.path) (GV.ext gv (e5.t e11)) (od c13) (od c14)) rfl <| fun w15 e16 => lp rfl rfl (xa (.int .i64 (cmpL (cut 47 a0.path) (cut 47 a1.path))) rfl) <| nx <| W_ret <| fin_r ?_
 obtain rfl := si H
 exact fin1 rfl ((e5.t e11).t e16)
/-! slices.Insert(()impl.Node,impl.Node), by text -/
theorem slices_InsertN.calls {w : World} {B : Nat} {v : Value} {xs : List Nd} {x : Nd} {i b9 : Nat} (hO : Ow 60 4 encNd B w v xs) (hi : i ≤ xs.length) (hB : B ≤ w.heap.size) (k9 : Blk w b9 (encNd x).toArray 60) (hne : (∃ A, v = .slice A 0 0) ∨ ∀ g, v.ownBlock = some g → b9 ≠ g) (hn : xs.length ≤ 1048576) :
    Calls Tryz.prog 240 #[v, .int .i64 i, .slice (some ⟨b9, 0, none⟩) 1 1] w (Rt (fun r w' => (∀ W, Below B W w → Below B W w') ∧ Ow 60 4 encNd B w' r (insAt xs i x))) := by
  obtain ⟨A0, c0, hv0⟩ := hO.rd.shape
  have hcap : xs.length ≤ c0 := by obtain ⟨A', c', hv', ⟨hn', _⟩, _⟩ := hO.rd; rw [hv0] at hv'; injection hv' with _ _ e9; omega
  have hxl : (encNd x).length = 4 := rfl
  have hR1 : Rd 4 encNd w (.slice (some ⟨b9, 0, none⟩) 1 1) [x] := (Ow.new (xs := [x]) (sz := 4) (enc := encNd) (base := 0) k9 (Nat.zero_le _) (by simp) (fun _ _ => rfl) (Nat.le_of_ble_eq_true rfl)).rd
  refine calls_of_W Tryz.func240 rfl (Nat.le_of_ble_eq_true rfl) Tryz.ntmps240 rfl ?_
  refine wr <| lp rfl rfl (X_assign rfl) <| nx <| wr <| lp rfl rfl (xm v rfl) <| lp rfl rfl (X_move (v := .int .i64 (i : Int)) rfl) <|
    lp rfl rfl (X_sliceSl (A := A0) (n := xs.length) (c := c0) (l := (i : Int)) (h := (xs.length : Int)) Tryz.underlying29 Tryz.sizeOf60 hv0 ⟨_, rfl⟩ rfl (by omega) (by omega) (by omega)) <| nx <|
    wr <| lp rfl rfl (X_move (v := .slice (some ⟨b9, 0, none⟩) 1 1) rfl) <| lp rfl rfl (X_len Tryz.underlying29 rfl) <| lp rfl rfl (X_assign rfl) <| nx <|
    W_seq <| wr <| lp rfl rfl (X_move (v := .int .i64 ((1 : Nat) : Int)) rfl) <| lp rfl rfl (X_eql rfl rfl) <| nx <| W_false (cb (decide_eq_false (by decide))) <| W_skip <| thn_n <|
    wr <| lp rfl rfl (xm v rfl) <| lp rfl rfl (X_len (A := A0) (n := xs.length) (c := c0) Tryz.underlying29 hv0) <| lp rfl rfl (X_assign rfl) <| nx <|
    W_seq <| wr <| lp rfl rfl (X_move (v := .int .i64 (i : Int)) rfl) <| lp rfl rfl (X_move (v := .int .i64 (xs.length : Int)) rfl) <| lp rfl rfl (X_eql rfl rfl) <| nx ?_
  by_cases hie : i = xs.length
  · refine W_true (cb (decide_eq_true (by omega))) <| wr <| lp rfl rfl (xm v rfl) <| lp rfl rfl (X_move (v := .slice (some ⟨b9, 0, none⟩) 1 1) rfl) <|
      L_append (enc := encNd) (.plain rfl) rfl (ltb rfl) rfl El.t29 rfl rfl hO hR1 (ones_Nd _) (by simp; omega) hB <| fun v1 w1 o1 z1 g1 => lp rfl rfl (xa v1 rfl) <| nx <| W_ret <| thn_r <| fin_r ?_
    refine ⟨_, rfl, g1, ?_⟩
    have : insAt xs i x = xs ++ [x] := by simp [insAt, hie]
    rw [this]; exact o1
  obtain ⟨g, cap, cur, hv, hBg, hh, hnc, hcm, hsz, htk⟩ := hO.row (by omega)
  have hcc : A0 = some ⟨g, 0, none⟩ ∧ c0 = cap := by rw [hv] at hv0; injection hv0 with e1 _ e3; exact ⟨e1.symm, e3.symm⟩
  obtain ⟨rfl, rfl⟩ := hcc
  have hlen := hO.2.1
  have hT : ((xs.take i).flatMap encNd).length = i * 4 := by rw [flat_len encNd 4 _ (fun y hy => hlen y (List.mem_of_mem_take hy))]; simp; omega
  have hDl : ((xs.drop i).flatMap encNd).length = (xs.length - i) * 4 := by rw [flat_len encNd 4 _ (fun y hy => hlen y (List.mem_of_mem_drop hy))]; simp
  have hcur : cur.toList = (xs.take i).flatMap encNd ++ (xs.drop i).flatMap encNd ++ cur.toList.drop (xs.length * 4) := by
    rw [← List.flatMap_append, List.take_append_drop, ← htk, List.take_append_drop]
  have hcl : cur.toList.length = c0 * 4 := by simpa using hsz
  have hone1 : ∀ c ∈ encNd x, c.oneCell' = true := fun c hc => ones_Nd [x] x (by simp) c hc
  have honeD : ∀ c ∈ (xs.drop i).flatMap encNd, c.oneCell' = true := fun c hc => by
    obtain ⟨y, hy, hc⟩ := List.mem_flatMap.1 hc
    exact ones_Nd _ y hy c hc
  have hil : (insAt xs i x).length = xs.length + 1 := insAt_len xs i x hi
  have hlen2 : ∀ y ∈ insAt xs i x, (encNd y).length = 4 := fun y _ => rfl
  have hsrcX : ∀ {W : World}, Blk W b9 (encNd x).toArray 60 → ∀ j u, (encNd x)[j]? = some u → W.cell? ((⟨b9, 0, none⟩ : Addr).add j) = some u := fun {W} k j u hj => by
    rw [add_none, Nat.zero_add, k.cell]; simpa using hj
  have hgetD : ∀ j u, ((xs.drop i).flatMap encNd)[j]? = some u → cur.toList[i * 4 + j]? = some u := fun j u hj => by
    have hj' : j < ((xs.drop i).flatMap encNd).length := (List.getElem?_eq_some_iff.1 hj).1
    rw [hcur, List.append_assoc, List.getElem?_append_right (by omega), hT, Nat.add_sub_cancel_left, List.getElem?_append_left hj', hj]
  have hsrcD : ∀ {W : World}, Blk W g cur 60 → ∀ j u, ((xs.drop i).flatMap encNd)[j]? = some u → W.cell? ((⟨g, 0 + i * 4, none⟩ : Addr).add j) = some u := fun {W} k j u hj => by
    rw [add_none, k.cell, Nat.zero_add]
    have := hgetD j u hj
    simpa using this
  have hw : IntKind.wrap .i64 ((xs.length : Int) + ((1 : Nat) : Int)) = ((xs.length + 1 : Nat) : Int) := by rw [Int.natCast_add]; exact Go.UL.wrap_small (by omega) (by omega)
  have hwi : IntKind.wrap .i64 ((i : Int) + ((1 : Nat) : Int)) = ((i + 1 : Nat) : Int) := by rw [Int.natCast_add]; exact Go.UL.wrap_small (by omega) (by omega)
  have hgw : g < w.heap.size := (Array.getElem?_eq_some_iff.1 hh).1
  refine W_false (cb (decide_eq_false (by omega))) <| W_skip <| thn_n <| W_seq <| wr <| lp rfl rfl (X_move (v := .int .i64 (xs.length : Int)) rfl) <| lp rfl rfl (X_move (v := .int .i64 ((1 : Nat) : Int)) rfl) <|
    lp rfl rfl (Ex.cast (X_add rfl rfl) (congrArg (Value.int .i64) hw)) <| lp rfl rfl (xm v rfl) <| lp rfl rfl (X_cap Tryz.underlying29 hv) <| lp rfl rfl (X_gtr rfl rfl) <| nx ?_
  by_cases hroom : c0 < xs.length + 1
  · -- no room: a new block
    obtain ⟨k, hk⟩ : ∃ k, i + k = xs.length + 1 := ⟨xs.length + 1 - i, by omega⟩
    have hw2 : IntKind.wrap .i64 (((xs.length + 1 : Nat) : Int) - (i : Int)) = (k : Int) := by rw [Go.UL.wrap_small (by omega) (by omega)]; omega
    have hc0 : c0 = xs.length := by omega
    refine W_true (cb (decide_eq_true (by omega))) <| wr <| lp rfl rfl (xm v rfl) <| lp rfl rfl (X_move (v := .int .i64 (i : Int)) rfl) <|
      lp rfl rfl (Ex.cast (v' := .slice (some ⟨g, 0, none⟩) i c0) (X_sliceG (l := 0) (h := i) Tryz.underlying29 Tryz.sizeOf60 hv rfl ⟨_, rfl⟩ (.inr rfl) (Nat.zero_le _) (by omega)) (by simp)) <|
      lp rfl rfl (X_move (v := .int .i64 (xs.length : Int)) rfl) <| lp rfl rfl (X_move (v := .int .i64 ((1 : Nat) : Int)) rfl) <| lp rfl rfl (Ex.cast (X_add rfl rfl) (congrArg (Value.int .i64) hw)) <| lp rfl rfl (X_move (v := .int .i64 (i : Int)) rfl) <|
      lp rfl rfl (Ex.cast (X_sub rfl rfl) (congrArg (Value.int .i64) hw2)) <|
      L_appendZ (olds := (xs.take i).flatMap encNd) (.plain rfl) rfl (ltb rfl) rfl El.t29 Tryz.underlying3 rfl rfl (run_firstCells_some w.drew 4 i ⟨g, 0, none⟩ i c0 _ hT (fun j u hj => ?_)) hT (by omega) (by omega) (by omega) <| fun b w1 C zs hb e1 hC1 hC2 hCl k1 => lp rfl rfl (X_assign rfl) <| nx ?_
    · have hj' : j < ((xs.take i).flatMap encNd).length := (List.getElem?_eq_some_iff.1 hj).1
      have kd : Blk w.drew g cur 60 := Blk.ext hh (Ext.drew w)
      rw [add_none, kd.cell, Nat.zero_add]
      have : cur.toList[j]? = some u := by rw [hcur, List.append_assoc, List.getElem?_append_left hj', hj]
      simpa using this
    have hBb : B ≤ b := by omega
    have hgb : g ≠ b := by omega
    have hzl : zs.length = C * 4 - i * 4 := by simp only [List.length_append, hT] at hCl; omega
    have hCs : (xs.length + 1) * 4 ≤ C * 4 := Nat.mul_le_mul_right _ (by omega)
    have hmin1 : Nat.min 1 (i + k - i) = 1 := Nat.min_eq_left (by omega)
    refine wr <| lp rfl rfl (X_move (v := .slice (some ⟨b, 0, none⟩) (i + k) C) rfl) <| lp rfl rfl (X_move (v := .int .i64 (i : Int)) rfl) <|
      lp rfl rfl (X_sliceG (l := i) (h := i + k) Tryz.underlying29 Tryz.sizeOf60 rfl ⟨_, rfl⟩ rfl (.inl (by omega)) (by omega) hC1) <| lp rfl rfl (X_move (v := .slice (some ⟨b9, 0, none⟩) 1 1) rfl) <|
      L_copyB (cs := encNd x) (.plain rfl) rfl (ltb rfl) rfl Tryz.underlying29 Tryz.sizeOf60 k1 rfl rfl (by rw [hmin1]; rfl) (hsrcX (k9.ext e1)) (by simp only [List.size_toArray, hCl, hxl]; omega) hone1 <| fun w2 hw2' k2 => nx ?_
    have e2 : Ext w w2 := Ext.wr e1 hw2' (Nat.le_of_eq hb) (Nat.le_refl _)
    have hh2 : Blk w2 g cur 60 := Blk.ext hh e2
    have hlr : ((List.take (0 + i * 4) ((List.flatMap encNd (List.take i xs)) ++ zs)) ++ encNd x ++ List.drop (0 + i * 4 + (encNd x).length) ((List.flatMap encNd (List.take i xs)) ++ zs)).length = C * 4 := by
      simp only [List.length_append, List.length_take, List.length_drop, hT, hxl, hzl]; omega
    have hmin2 : Nat.min (xs.length - i) (i + k - (i + 1)) = xs.length - i := Nat.min_eq_left (by omega)
    refine W_seq <| W_drawR (B := B) [LEq (.slice (some ⟨b, 0, none⟩) (i + k) C), LEq (.int .i64 (i : Int)), LEq (.int .i64 ((1 : Nat) : Int)), LEq (.int .i64 ((i + 1 : Nat) : Int)), LEq (.slice (some ⟨b, 0 + (i + 1) * 4, none⟩) (i + k - (i + 1)) (C - (i + 1))), LEq v, LEq (.int .i64 (i : Int)), LEq (.slice (some ⟨g, 0 + i * 4, none⟩) (xs.length - i) (c0 - i)),
        fun _ W => ∃ row, Blk W b row 60 ∧ row.toList = (xs.take i).flatMap encNd ++ (encNd x ++ (xs.drop i).flatMap encNd) ++ zs.drop (4 + ((xs.drop i).flatMap encNd).length)]
      [⟨true, true, true, false, []⟩, ⟨true, true, true, false, []⟩, ⟨true, true, true, false, []⟩, ⟨true, true, true, false, [1, 2]⟩, ⟨true, true, true, false, [0, 3]⟩, ⟨true, true, true, false, []⟩, ⟨true, true, true, false, []⟩, ⟨true, true, true, false, [5, 6]⟩, ⟨false, false, true, true, [4, 7]⟩]
      [(8, 0, [4]), (8, 1, [4, 3]), (8, 2, [4, 3]), (8, 3, [4]), (8, 4, []), (8, 5, [7]), (8, 6, [7]), (8, 7, [])] (by kernel_rfl) (by kernel_rfl) (Nat.le_trans hB e2.size)
      ⟨⟨LEq.rig.mono, fun _ => LEq.rig⟩, ⟨LEq.rig.mono, fun _ => LEq.rig⟩, ⟨LEq.rig.mono, fun _ => LEq.rig⟩, ⟨LEq.rig.mono, fun _ => LEq.rig⟩, ⟨LEq.rig.mono, fun _ => LEq.rig⟩, ⟨LEq.rig.mono, fun _ => LEq.rig⟩, ⟨LEq.rig.mono, fun _ => LEq.rig⟩, ⟨LEq.rig.mono, fun _ => LEq.rig⟩, ⟨fun _ _ _ k9 ⟨row, h1, h2⟩ => ⟨row, h1.ext k9, h2⟩, noR⟩, trivial⟩
      ⟨?_, ?_, ?_, ?_, ?_, ?_, ?_, ?_, ?_, trivial⟩ ?_
    · intro s9 w9 hb9 hx9 hf9 hd9 hu9
      exact lp rfl rfl (X_move (hf9 9 rfl)) <| L_nil <| stepS rfl rfl rfl er rfl
    · intro s9 w9 hb9 hx9 hf9 hd9 hu9
      exact lp rfl rfl (X_move (hf9 1 rfl)) <| L_nil <| stepS rfl rfl rfl er rfl
    · intro s9 w9 hb9 hx9 hf9 hd9 hu9
      exact lp rfl rfl (X_move (hf9 7 rfl)) <| L_nil <| stepS rfl rfl rfl er rfl
    · intro s9 w9 hb9 hx9 hf9 hd9 hu9
      exact lp rfl rfl (Ex.cast (X_add (hd9 1 rfl) (hd9 2 rfl)) (congrArg (Value.int .i64) hwi)) <| L_nil <| stepS rfl rfl rfl er rfl
    · intro s9 w9 hb9 hx9 hf9 hd9 hu9
      exact lp rfl rfl (X_sliceG (l := i + 1) (h := i + k) Tryz.underlying29 Tryz.sizeOf60 (hd9 0 rfl) ⟨_, hd9 3 rfl⟩ rfl (.inl (by omega)) (by omega) hC1) <| L_nil <| stepS rfl rfl rfl er rfl
    · intro s9 w9 hb9 hx9 hf9 hd9 hu9
      exact lp rfl rfl (X_move (hf9 0 rfl)) <| L_nil <| stepS rfl rfl rfl er rfl
    · intro s9 w9 hb9 hx9 hf9 hd9 hu9
      exact lp rfl rfl (X_move (hf9 1 rfl)) <| L_nil <| stepS rfl rfl rfl er rfl
    · intro s9 w9 hb9 hx9 hf9 hd9 hu9
      exact lp rfl rfl (X_sliceG (l := i) (h := xs.length) Tryz.underlying29 Tryz.sizeOf60 ((hd9 5 rfl).trans hv) ⟨_, hd9 6 rfl⟩ rfl (.inl (by omega)) hi (by omega)) <| L_nil <| stepS rfl rfl rfl er rfl
    · intro s9 w9 hb9 hx9 hf9 hd9 hu9
      have e9 : Ext w2 w9 := hx9 rfl
      refine L_copyB (cs := (xs.drop i).flatMap encNd) (.plain rfl) rfl (ltb rfl) rfl Tryz.underlying29 Tryz.sizeOf60 (k2.ext e9) (hd9 4 rfl) (hd9 7 rfl) (by rw [hmin2, hDl]) (hsrcD (hh2.ext e9)) (by simp only [List.size_toArray, hlr, hDl]; omega) honeD <| fun w3 hw3 k3 => L_nil <| stepH rfl rfl rfl (hw3.below hBb) ⟨_, k3, ?_⟩
      have hz : 4 ≤ zs.length := by omega
      have := ins_grow (T := (xs.take i).flatMap encNd) (X := encNd x) (D := (xs.drop i).flatMap encNd) (Z := zs) hT hxl hz
      simp only [Nat.zero_add] at this ⊢
      rw [show (i + 1) * 4 = i * 4 + 4 by omega]
      exact this
    · intro s3 w3 hb3 hf3 ha3
      obtain ⟨row, k3, hrow⟩ := ha3 8 rfl rfl
      refine thn_n <| wr <| lp rfl rfl (X_move (v := .slice (some ⟨b, 0, none⟩) (i + k) C) (hf3 9 rfl)) <| lp rfl rfl (X_assign rfl) <| nx <| W_ret <| thn_r <| fin_r ?_
      refine ⟨_, rfl, fun W hW => ?_, ?_⟩
      · exact Below.trans (Below.trans (Below.trans hW (e1.mono hB)) (hw2'.below hBb)) hb3
      · have hrl : row.toList.length = C * 4 := by
          rw [hrow]; simp only [List.length_append, List.length_drop, hT, hxl, hDl, hzl]; omega
        have := Ow.of_row (C := C) (ys := insAt xs i x) (R := zs.drop (4 + ((xs.drop i).flatMap encNd).length)) (row := row.toList) hBb (by simpa using k3) (by rw [ins_flat]; exact hrow) hlen2 (by omega) hC2 hrl
        rw [hil, ← hk] at this
        exact this
  · -- room: in place
    have hw3 : IntKind.wrap .i64 ((xs.length : Int) + ((1 : Nat) : Int)) = ((xs.length + 1 : Nat) : Int) := hw
    have hne9 : b9 ≠ g := by
      rcases hne with ⟨A, hA⟩ | hne
      · rw [hv] at hA; injection hA with _ hl0 _; omega
      · exact hne g (by rw [hv]; rfl)
    refine W_false (cb (decide_eq_false (by omega))) <| W_skip <| thn_n <| wr <| lp rfl rfl (xm v rfl) <| lp rfl rfl (X_move (v := .int .i64 (xs.length : Int)) rfl) <| lp rfl rfl (X_move (v := .int .i64 ((1 : Nat) : Int)) rfl) <|
      lp rfl rfl (Ex.cast (X_add rfl rfl) (congrArg (Value.int .i64) hw)) <| lp rfl rfl (Ex.cast (v' := .slice (some ⟨g, 0, none⟩) (xs.length + 1) c0) (X_sliceG (l := 0) (h := xs.length + 1) Tryz.underlying29 Tryz.sizeOf60 hv rfl ⟨_, rfl⟩ (.inr rfl) (Nat.zero_le _) (by omega)) (by simp)) <|
      lp rfl rfl (X_assign rfl) <| nx <| W_seq <| wr <| lp rfl rfl (X_move (v := .slice (some ⟨b9, 0, none⟩) 1 1) rfl) <| lp rfl rfl (X_move (v := .slice (some ⟨g, 0, none⟩) (xs.length + 1) c0) rfl) <| lp rfl rfl (X_move (v := .int .i64 (i : Int)) rfl) <|
      lp rfl rfl (X_move (v := .int .i64 ((1 : Nat) : Int)) rfl) <| lp rfl rfl (Ex.cast (X_add rfl rfl) (congrArg (Value.int .i64) hwi)) <|
      lp rfl rfl (X_sliceG (l := i + 1) (h := xs.length + 1) Tryz.underlying29 Tryz.sizeOf60 rfl ⟨_, rfl⟩ rfl (.inl (by omega)) (by omega) (by omega)) <|
      lp rfl rfl (X_ext (vs := #[.slice (some ⟨b9, 0, none⟩) 1 1, .slice (some ⟨g, 0 + (i + 1) * 4, none⟩) (xs.length + 1 - (i + 1)) (c0 - (i + 1))]) rfl (v := .bool false) ?_) <|
      lp rfl rfl (X_not rfl) <| nx <| W_true rfl ?_
    · rw [run_callFunc_extern Tryz.func273 (by kernel_rfl) (by kernel_rfl) (by kernel_rfl) (e := Extern.SlicesOverlaps.overlaps #[29, 29] #[4]) (by kernel_rfl),
        Lib.run_overlaps_apart w 29 4 60 Tryz.underlying29 4 Tryz.sizeOf60 ⟨b9, 0, none⟩ ⟨g, 0 + (i + 1) * 4, none⟩ 1 1 _ _ hne9 60 60 _ _ k9.shape (Blk.shape (cs := cur) hh) (by omega) k9.frozen k9.frozen]
      rfl
    have hmin2 : Nat.min (xs.length + 1 - i) (xs.length + 1 - (i + 1)) = xs.length - i := (Nat.min_eq_right (by omega)).trans (by omega)
    have hcs : (xs.length + 1) * 4 ≤ c0 * 4 := Nat.mul_le_mul_right _ (by omega)
    refine W_seq <| W_drawR (B := B) [LEq (.slice (some ⟨g, 0, none⟩) (xs.length + 1) c0), LEq (.int .i64 (i : Int)), LEq (.int .i64 ((1 : Nat) : Int)), LEq (.int .i64 ((i + 1 : Nat) : Int)), LEq (.slice (some ⟨g, 0 + (i + 1) * 4, none⟩) (xs.length + 1 - (i + 1)) (c0 - (i + 1))), LEq (.slice (some ⟨g, 0, none⟩) (xs.length + 1) c0), LEq (.int .i64 (i : Int)), LEq (.slice (some ⟨g, 0 + i * 4, none⟩) (xs.length + 1 - i) (c0 - i)),
        fun _ W => Blk W g (List.take (0 + (i + 1) * 4) cur.toList ++ (xs.drop i).flatMap encNd ++ List.drop (0 + (i + 1) * 4 + ((xs.drop i).flatMap encNd).length) cur.toList).toArray 60 ∧ Blk W b9 (encNd x).toArray 60]
      [⟨true, true, true, false, []⟩, ⟨true, true, true, false, []⟩, ⟨true, true, true, false, []⟩, ⟨true, true, true, false, [1, 2]⟩, ⟨true, true, true, false, [0, 3]⟩, ⟨true, true, true, false, []⟩, ⟨true, true, true, false, []⟩, ⟨true, true, true, false, [5, 6]⟩, ⟨false, false, true, true, [4, 7]⟩]
      [(8, 0, [4]), (8, 1, [4, 3]), (8, 2, [4, 3]), (8, 3, [4]), (8, 4, []), (8, 5, [7]), (8, 6, [7]), (8, 7, [])] (by kernel_rfl) (by kernel_rfl) hB
      ⟨⟨LEq.rig.mono, fun _ => LEq.rig⟩, ⟨LEq.rig.mono, fun _ => LEq.rig⟩, ⟨LEq.rig.mono, fun _ => LEq.rig⟩, ⟨LEq.rig.mono, fun _ => LEq.rig⟩, ⟨LEq.rig.mono, fun _ => LEq.rig⟩, ⟨LEq.rig.mono, fun _ => LEq.rig⟩, ⟨LEq.rig.mono, fun _ => LEq.rig⟩, ⟨LEq.rig.mono, fun _ => LEq.rig⟩, ⟨fun _ _ _ k9 ⟨h1, h2⟩ => ⟨h1.ext k9, h2.ext k9⟩, noR⟩, trivial⟩
      ⟨?_, ?_, ?_, ?_, ?_, ?_, ?_, ?_, ?_, trivial⟩ ?_
    · intro s9 w9 hb9 hx9 hf9 hd9 hu9
      exact lp rfl rfl (X_move (hf9 0 rfl)) <| L_nil <| stepS rfl rfl rfl er rfl
    · intro s9 w9 hb9 hx9 hf9 hd9 hu9
      exact lp rfl rfl (X_move (hf9 1 rfl)) <| L_nil <| stepS rfl rfl rfl er rfl
    · intro s9 w9 hb9 hx9 hf9 hd9 hu9
      exact lp rfl rfl (X_move (hf9 7 rfl)) <| L_nil <| stepS rfl rfl rfl er rfl
    · intro s9 w9 hb9 hx9 hf9 hd9 hu9
      exact lp rfl rfl (Ex.cast (X_add (hd9 1 rfl) (hd9 2 rfl)) (congrArg (Value.int .i64) hwi)) <| L_nil <| stepS rfl rfl rfl er rfl
    · intro s9 w9 hb9 hx9 hf9 hd9 hu9
      exact lp rfl rfl (X_sliceG (l := i + 1) (h := xs.length + 1) Tryz.underlying29 Tryz.sizeOf60 (hd9 0 rfl) ⟨_, hd9 3 rfl⟩ rfl (.inl (by omega)) (by omega) (by omega)) <| L_nil <| stepS rfl rfl rfl er rfl
    · intro s9 w9 hb9 hx9 hf9 hd9 hu9
      exact lp rfl rfl (X_move (hf9 0 rfl)) <| L_nil <| stepS rfl rfl rfl er rfl
    · intro s9 w9 hb9 hx9 hf9 hd9 hu9
      exact lp rfl rfl (X_move (hf9 1 rfl)) <| L_nil <| stepS rfl rfl rfl er rfl
    · intro s9 w9 hb9 hx9 hf9 hd9 hu9
      exact lp rfl rfl (X_sliceG (l := i) (h := xs.length + 1) Tryz.underlying29 Tryz.sizeOf60 (hd9 5 rfl) ⟨_, hd9 6 rfl⟩ rfl (.inl (by omega)) (by omega) (by omega)) <| L_nil <| stepS rfl rfl rfl er rfl
    · intro s9 w9 hb9 hx9 hf9 hd9 hu9
      have e9 : Ext w w9 := hx9 rfl
      exact L_copyB (cs := (xs.drop i).flatMap encNd) (.plain rfl) rfl (ltb rfl) rfl Tryz.underlying29 Tryz.sizeOf60 (Blk.ext hh e9) (hd9 4 rfl) (hd9 7 rfl) (by rw [hmin2, hDl]) (hsrcD (Blk.ext hh e9)) (by rw [hDl, hsz]; omega) honeD <| fun w3 hw3 k3 => L_nil <| stepH rfl rfl rfl (hw3.below hBg) ⟨k3, hw3.blk (k9.ext e9) hne9⟩
    · intro s3 w3 hb3 hf3 ha3
      obtain ⟨k3, k93⟩ := ha3 8 rfl rfl
      have hmin1 : Nat.min 1 (xs.length + 1 - i) = 1 := Nat.min_eq_left (by omega)
      have hsz3 : (List.take (0 + (i + 1) * 4) cur.toList ++ (xs.drop i).flatMap encNd ++ List.drop (0 + (i + 1) * 4 + ((xs.drop i).flatMap encNd).length) cur.toList).length = c0 * 4 := by
        simp only [List.length_append, List.length_take, List.length_drop, hDl, hcl]; omega
      refine thn_n <| wr <| lp rfl rfl (X_move (v := .slice (some ⟨g, 0, none⟩) (xs.length + 1) c0) (hf3 0 rfl)) <| lp rfl rfl (X_move (v := .int .i64 (i : Int)) (hf3 1 rfl)) <|
        lp rfl rfl (X_sliceG (l := i) (h := xs.length + 1) Tryz.underlying29 Tryz.sizeOf60 rfl ⟨_, rfl⟩ rfl (.inl (by omega)) (by omega) (by omega)) <| lp rfl rfl (X_move (v := .slice (some ⟨b9, 0, none⟩) 1 1) (hf3 2 rfl)) <|
        L_copyB (cs := encNd x) (.plain rfl) rfl (ltb rfl) rfl Tryz.underlying29 Tryz.sizeOf60 k3 rfl rfl (by rw [hmin1]; rfl) (hsrcX k93) (by simp only [List.size_toArray, hsz3, hxl]; omega) hone1 <| fun w4 hw4 k4 => nx <|
        wr <| lp rfl rfl (X_move (v := .slice (some ⟨g, 0, none⟩) (xs.length + 1) c0) (hf3 0 rfl)) <| lp rfl rfl (X_assign rfl) <| nx <| W_ret <| thn_r <| fin_r ?_
      refine ⟨_, rfl, fun W hW => ?_, ?_⟩
      · exact Below.trans (Below.trans hW hb3) (hw4.below hBg)
      · have hz : 4 ≤ (cur.toList.drop (xs.length * 4)).length := by simp only [List.length_drop, hcl]; omega
        have h5 := ins_room (T := (xs.take i).flatMap encNd) (X := encNd x) (D := (xs.drop i).flatMap encNd) (R := cur.toList.drop (xs.length * 4)) hT hxl hz
        rw [← hcur, show i * 4 + 4 = (i + 1) * 4 by omega] at h5
        simp only [Nat.zero_add] at k4
        rw [h5] at k4
        have hrl : ((xs.take i).flatMap encNd ++ (encNd x ++ (xs.drop i).flatMap encNd) ++ (cur.toList.drop (xs.length * 4)).drop 4).length = c0 * 4 := by
          simp only [List.length_append, List.length_drop, hT, hxl, hDl, hcl]; omega
        have := Ow.of_row (C := c0) (ys := insAt xs i x) (R := (cur.toList.drop (xs.length * 4)).drop 4) hBg k4 (by rw [ins_flat]) hlen2 (by omega) hcm hrl
        rw [hil] at this
        exact this

/-! impl.place, by text -/
theorem insAt_less {t : List Nd} {n : Nd} (h : riseN t = true) : insAt t (lessC t n.path) n = placeL t n := by
  obtain ⟨h1, h2⟩ := less_split (p := n.path) (riseN_rise h)
  unfold insAt placeL; rw [h1, h2]
theorem impl_place.calls {w : World} {a0 : List Nd} {a1 : Nd} {v_a0 : Value} (gv : GV 0 w) (f_a0 : Rd 4 encNd w v_a0 a0) (h0 : a0.length ≤ 1048575) (h1 : riseN a0 = true) (h2 : ∀ x ∈ a0, x.path.length ≤ 1048576) (h3 : a1.path.length ≤ 1048576) :
    Calls Tryz.prog 157 #[v_a0, .agg (encNd a1).toArray] w (Rt (RO 60 4 encNd w (placeL a0 a1))) := by
  obtain ⟨fd, hbs⟩ := binS_run h0 h1 h2 h3
  have hle := lessC_le a0 a1.path
  refine calls_of_W Tryz.func157 rfl (Nat.le_of_ble_eq_true rfl) Tryz.ntmps157 rfl ?_
  refine wr <| L_box (.plain rfl) rfl (ltb rfl) rfl rfl <| fun b3 w1 z1 z2 e1 k1 => lp rfl rfl (X_assign (v := .slice none 0 0) rfl) <| nx <| wr <| lp rfl rfl (xm v_a0 rfl) <| lp rfl rfl (X_loadS (cs := encNd a1) Tryz.isAgg60 Tryz.sizeOf60 rfl rfl (Blk.at0 k1)) <|
    lc rfl rfl rfl Tryz.call238 (slices_BinSearchN.calls (w := w1) (a0 := a0) (a1 := a1) (a2 := cmpN) (v_a2 := .func (.func 239) #[] #[]) (f_a0.ext e1) (fun x0 x1 r h => ?_) rfl hbs) rfl <| fun w2 e2 => lp rfl rfl (X_move rfl) <| lp rfl rfl (X_extract rfl rfl) <| lp rfl rfl (X_extract rfl rfl) <| lp rfl rfl (X_assign (v := .int .i64 (lessC a0 a1.path : Int)) rfl) <| lp rfl rfl (X_assign rfl) <| nx ?_
  · obtain ⟨q0, q1, rfl⟩ := cmpN_some h
    exact FnAt.mk Tryz.call239 (by rfl) fun w9 k9 => impl_place_1.calls (w := w9) (a0 := x0) (a1 := x1) (GV.ext gv (e1.t k9)) q0 q1
  have f2 : Rd 4 encNd w2 v_a0 a0 := f_a0.ext (e1.t e2)
  have k2 := k1.ext e2
  refine W_seq <| W_drawP (B := w2.heap.size) [LEq v_a0, LOw 60 4 encNd w2.heap.size a0, LEq (.int .i64 (lessC a0 a1.path : Int)), LEq (.agg (encNd a1).toArray), fun v W => ∃ b, v = .slice (some ⟨b, 0, none⟩) 1 1 ∧ Blk W b (encNd a1).toArray 60, LOw 60 4 encNd w2.heap.size (placeL a0 a1), LOw 60 4 encNd w2.heap.size (placeL a0 a1)]
    [⟨true, true, true, false, []⟩, ⟨true, false, true, false, [0]⟩, ⟨true, true, true, false, []⟩, ⟨true, true, true, false, []⟩, ⟨true, false, true, false, [3]⟩, ⟨false, false, true, false, [1, 2, 4]⟩, ⟨true, false, false, true, [5]⟩]
    [(5, 0, [1]), (5, 1, []), (5, 2, []), (5, 3, [4]), (5, 4, []), (6, 5, [])] 1 4 5 Apart (by kernel_rfl) (by kernel_rfl) (by kernel_rfl) (by kernel_rfl) (Nat.le_refl _)
    ⟨⟨LEq.rig.mono, fun _ => LEq.rig⟩, ⟨LOw.mono, noR⟩, ⟨LEq.rig.mono, fun _ => LEq.rig⟩, ⟨LEq.rig.mono, fun _ => LEq.rig⟩, ⟨fun _ _ _ k ⟨b, h1, h2⟩ => ⟨b, h1, h2.ext k⟩, noR⟩, ⟨LOw.mono, noR⟩, ⟨LOw.mono, noR⟩, trivial⟩
    ⟨?_, ?_, ?_, ?_, ?_, ?_, ?_, trivial⟩ ?_
  · intro s9 w9 c9 hb9 hx9 hf9 hd9 hu9 hp9 hq9 hD9
    exact lp rfl rfl (X_move (hf9 0 rfl)) <| L_nil <| stepPS0 rfl rfl rfl er rfl rfl rfl
  · intro s9 w9 c9 hb9 hx9 hf9 hd9 hu9 hp9 hq9 hD9
    have e9 : Ext w2 w9 := hx9 rfl
    have h13 : s9 13 = v_a0 := hd9 0 rfl
    refine L_callO (.plain rfl) rfl (ltb rfl) rfl Tryz.call156 (slices_CloneN.calls (w := w9) (a0 := a0) (f2.ext e9) (by omega)) (cons2 h13 rfl) <| fun v14 w10 e10 o14 => L_nil <| stepPp rfl rfl rfl e10 (Ow.base o14 e9.size) (fun hc => ?_) rfl
    obtain ⟨b, hb, kb⟩ := hp9 rfl hc
    obtain ⟨h9 | ⟨h9, _⟩, _⟩ := o14
    · refine .inr fun g b' hg hb' => ?_
      have hlt := (h9.lt g hg).1
      have hb2 : s9 17 = .slice (some ⟨b, 0, none⟩) 1 1 := hb
      have hb'' : (s9 17).ownBlock = some b' := hb'
      rw [hb2] at hb''
      have : b = b' := si hb''
      have := kb.lt
      omega
    · exact .inl h9
  · intro s9 w9 c9 hb9 hx9 hf9 hd9 hu9 hp9 hq9 hD9
    exact lp rfl rfl (X_move (hf9 5 rfl)) <| L_nil <| stepPS0 rfl rfl rfl er rfl rfl rfl
  · intro s9 w9 c9 hb9 hx9 hf9 hd9 hu9 hp9 hq9 hD9
    have e9 : Ext w2 w9 := hx9 rfl
    exact lp rfl rfl (X_loadS (cs := encNd a1) Tryz.isAgg60 Tryz.sizeOf60 rfl (hf9 3 rfl) (Blk.at0 (k2.ext e9))) <| L_nil <| stepPS0 rfl rfl rfl er rfl rfl rfl
  · intro s9 w9 c9 hb9 hx9 hf9 hd9 hu9 hp9 hq9 hD9
    have e9 : Ext w2 w9 := hx9 rfl
    have h16 : s9 16 = .agg (encNd a1).toArray := hd9 3 rfl
    refine L_lit (.plain rfl) rfl (ltb rfl) rfl Tryz.underlying29 Tryz.sizeOf60 Tryz.zeroValue60 rfl rfl rfl (vs := [.agg (encNd a1).toArray]) (cons2 h16 rfl) (lit_all rfl) <| fun b17 w10 z17 z17' e10 k17 => L_nil <| stepPq rfl rfl rfl e10 ⟨b17, rfl, k17⟩ rfl (fun hc => ?_)
    have o14 : Ow 60 4 encNd w2.heap.size w9 (s9 14) a0 := hq9 rfl hc
    rcases o14.hb with h9 | h9
    · exact .inl h9
    · refine .inr fun g b' hg hb' => ?_
      have hlt := h9 g hg
      have : b17 = b' := si hb'
      omega
  · intro s9 w9 c9 hb9 hx9 hf9 hd9 hu9 hp9 hq9 hD9
    have e9 : Ext w2 w9 := hx9 rfl
    have o14 : Ow 60 4 encNd w2.heap.size w9 (s9 14) a0 := hd9 1 rfl
    have h15 : s9 15 = .int .i64 (lessC a0 a1.path : Int) := hd9 2 rfl
    obtain ⟨b17, h17, k17⟩ := hd9 4 rfl
    have h17' : s9 17 = .slice (some ⟨b17, 0, none⟩) 1 1 := h17
    have hD : Apart (s9 14) (s9 17) := hD9 rfl rfl
    refine L_callA (.plain rfl) rfl (ltb rfl) rfl Tryz.call240 (slices_InsertN.calls (w := w9) (x := a1) (i := lessC a0 a1.path) o14 hle e9.size k17 (hD.imp (fun h => h) fun h g hg => h g b17 hg (by rw [h17']; rfl)) (by omega)) (cons2 rfl (cons2 h15 (cons2 h17' rfl))) <| fun v18 w10 h18 => ?_
    obtain ⟨g18, o18⟩ := h18
    refine L_nil <| stepPH0 rfl rfl rfl (g18 _ (Below.refl _ _)) (show Ow 60 4 encNd w2.heap.size w10 v18 (placeL a0 a1) from ?_) rfl rfl
    rw [← insAt_less h1]; exact o18
  · intro s9 w9 c9 hb9 hx9 hf9 hd9 hu9 hp9 hq9 hD9
    exact lp rfl rfl (X_assign rfl) <| L_nil <| stepPS0 rfl rfl rfl er (hd9 5 rfl) rfl rfl
  · intro s3 w3 hb3 hf3 ha3
    have o4 : Ow 60 4 encNd w2.heap.size w3 (s3 4) (placeL a0 a1) := ha3 6 rfl rfl
    refine thn_n <| W_ret <| fin_r ?_
    have e3 : Ext w w2 := Ext.trans e1 e2
    exact fin1o rfl (e3.t hb3) o4 e3.size

/-! spec.l04Put -/
abbrev spec_l04Put.e1 (a0 : List Nd) (a1 : Nd) (x5_11 : Int) := ((([] : List Nd) ++ (sub a0 0 x5_11)) ++ ([a1] : List Nd))
theorem spec_l04Put.walk {k : Nat} {w : World} {a0 : List Nd} {a1 : Nd} {v_a0 : Value} (f_a0 : Rd 4 encNd w v_a0 a0) {r : List Nd} (H : spec_l04Put.sh k a0 a1 = some r) :
  Calls Tryz.prog 163 #[v_a0, .agg (encNd a1).toArray] w (Rt (RO 60 4 encNd w r)) := by
 unfold spec_l04Put.sh at H
 refine calls_of_W Tryz.func163 rfl (Nat.le_of_ble_eq_true rfl) Tryz.ntmps163 rfl ?_
 refine wr <| L_box (.plain rfl) rfl (ltb rfl) rfl rfl <| fun b1 w2 z3 z4 e5 k6 => lp rfl rfl (xa (.slice none 0 0) rfl) <| nx <| wr <| lp rfl rfl (xa (.int .i64 0) rfl) <| nx <| W_seq ?_
 obtain ⟨z8, L9, C10⟩ := bind_some H
 clear H
 refine  W_cutQ (fun s0 sQ wQ => ∃ (x5_11 : Int), Kp [(5, 6), (7, 23)] s0 sQ ∧ sQ 5 = .int .i64 x5_11 ∧ Ext w2 wQ ∧ z8 = .inr x5_11) ?_ ?_
 ·refine W_block <| W_loopI (fun s0 kk sQ wQ => ∃ (x5_7 : Int), Kp [(5, 6), (7, 23)] s0 sQ ∧ sQ 5 = .int .i64 x5_7 ∧ Ext w2 wQ ∧ loopF (spec_l04Put.b1 a0 a1) kk x5_7 = some z8) k ⟨0, kz, rfl, er, L9⟩ ?_
  rintro k16 s17 w18 ⟨x5_7, K19, h22, e20, L21⟩
  cases k16 with
  | zero => exact absurd L21 (by simp [loopF])
  | succ k16 =>
   obtain ⟨t23, H, S24⟩ := loopF_succ L21
   clear L21
   unfold spec_l04Put.b1 at H
   refine W_seq <| W_seq ?_
   obtain ⟨c25, H⟩ := bif_some H
   obtain ⟨c28, H⟩ := bif_some H
   obtain ⟨c29, H⟩ := bif_some H
   refine W_dM [LEq (.int .i64 x5_7), LEq v_a0, LEq (.int .i64 (a0.length : Int)), LEq (.bool (decide (x5_7 < (a0.length : Int)))), LEq (.bool (decide (x5_7 < (a0.length : Int)))), LIf (decide (x5_7 < (a0.length : Int))) (LEq v_a0), LIf (decide (x5_7 < (a0.length : Int))) (LEq (.int .i64 x5_7)), LIf (decide (x5_7 < (a0.length : Int))) (LAt0 (encNd (gt a0 x5_7))), LIf (decide (x5_7 < (a0.length : Int))) (LAt 1 (encNd (gt a0 x5_7))), LIf (decide (x5_7 < (a0.length : Int))) (LEq (S ((gt a0 x5_7).path))), LIf (decide (x5_7 < (a0.length : Int))) (LEq (.pointer (some ⟨b1, 1, none⟩))), LIf (decide (x5_7 < (a0.length : Int))) (LEq (S a1.path)), LIf (decide (x5_7 < (a0.length : Int))) (LEq (.bool (lessL (cut 47 ((gt a0 x5_7).path)) (cut 47 a1.path)))), LEq (.bool ((decide (x5_7 < (a0.length : Int))) && (lessL (cut 47 ((gt a0 x5_7).path)) (cut 47 a1.path))))] (by kernel_rfl) (by kernel_rfl) ⟨qm, qm, qm, qm, qm, lm, lm, (LIf.mono LAt0.mono), (LIf.mono LAt.mono), lm, lm, lm, lm, qm, trivial⟩ ⟨?_, ?_, ?_, ?_, ?_, ?_, ?_, ?_, ?_, ?_, ?_, ?_, ?_, ?_, trivial⟩ ?_
   ·exact fun s x e f d u => lp rfl rfl (xm (.int .i64 x5_7) ((f 5 rfl).trans h22)) <| se rfl rfl
   ·exact fun s x e f d u => lp rfl rfl (xm v_a0 ((f 0 rfl).trans (K19 0 rfl))) <| se rfl rfl
   ·exact fun s x e f d u => lp rfl rfl (X_lenR Tryz.underlying29 (d 1 rfl) (Rd.ext f_a0 ((e5.t e20).t e))) <| se rfl rfl
   ·exact fun s x e f d u => lp rfl rfl (X_lss (d 0 rfl) (d 2 rfl)) <| se rfl rfl
   ·exact fun s x e f d u => lp rfl rfl (X_move (d 3 rfl)) <| se rfl rfl
   ·exact fun s x e f d u => gT rfl rfl rfl rfl (d 4 rfl) rfl fun b t => lt t rfl rfl (xm v_a0 ((f 0 rfl).trans (K19 0 rfl))) <| sg rfl rfl b rfl
   ·exact fun s x e f d u => gT rfl rfl rfl rfl (d 4 rfl) rfl fun b t => lt t rfl rfl (xm (.int .i64 x5_7) ((f 5 rfl).trans h22)) <| sg rfl rfl b rfl
   ·exact fun s x e f d u => gT rfl rfl rfl rfl (d 4 rfl) rfl fun b t => L_idx t rfl (ltb rfl) rfl Tryz.underlying29 Tryz.sizeOf60 ((d 5 rfl).1 b) (Rd.ext f_a0 ((e5.t e20).t e)) ((d 6 rfl).1 b) (imp_take b c25) <| fun p33 h34 => sg rfl rfl b ⟨_, rfl, h34⟩
   ·intro s x e f d u
    refine gT rfl rfl rfl rfl (d 4 rfl) rfl fun b t => ?_
    obtain ⟨p35, h36, h37⟩ := ((d 7 rfl).1 b)
    exact lt t rfl rfl (X_fieldAddr Tryz.underlying60 rfl Tryz.sizeOf9 rfl h36) <| sg rfl rfl b ⟨_, rfl, h37⟩
   ·intro s x e f d u
    refine gT rfl rfl rfl rfl (d 4 rfl) rfl fun b t => ?_
    obtain ⟨p38, h39, h40⟩ := ((d 8 rfl).1 b)
    exact lt t rfl rfl (X_loadF Tryz.isAgg9 (j := 1) h40 h39 rfl) <| sg rfl rfl b rfl
   ·exact fun s x e f d u => gT rfl rfl rfl rfl (d 4 rfl) rfl fun b t => lt t rfl rfl (X_fieldAddr Tryz.underlying60 rfl Tryz.sizeOf9 rfl ((f 3 rfl).trans (K19 3 rfl))) <| sg rfl rfl b rfl
   ·exact fun s x e f d u => gT rfl rfl rfl rfl (d 4 rfl) rfl fun b t => lt t rfl rfl (X_loadB Tryz.isAgg9 (Blk.ext k6 (e20.t e)) ((d 10 rfl).1 b) rfl) <| sg rfl rfl b rfl
   ·exact fun s x e f d u => gT rfl rfl rfl rfl (d 4 rfl) rfl fun b t => L_callP t rfl (ltb rfl) rfl Tryz.call205 (spec_l01Less.calls (w := x) (a0 := (gt a0 x5_7).path) (a1 := a1.path) (od (imp_take b c28)) (od (imp_take b c29))) (cons2 ((d 9 rfl).1 b) (cons2 ((d 11 rfl).1 b) rfl)) <| fun w43 e44 => sgx rfl rfl b e44 rfl
   ·exact fun s x e f d u => lp rfl rfl (X_pickA (d 4 rfl) rfl fun h => ((d 12 rfl).1 h)) <| se rfl rfl
   intro s45 w46 e47 hf48 ha49
   have K50 := Kp.ofD (kp := [(7, 21)]) rfl hf48
   have d51 : s45 20 = (.bool ((decide (x5_7 < (a0.length : Int))) && (lessL (cut 47 ((gt a0 x5_7).path)) (cut 47 a1.path)))) := ha49 13 rfl
   clear ha49 hf48
   refine thn_n ?_
   rcases bif_two H with ⟨q52, H⟩ | ⟨q52, H⟩
   ·refine W_true (d51.trans (cb q52)) <| W_skip <| thn_n <| W_block <| W_reg <| lp rfl rfl (xm (.int .i64 x5_7) ((K50 5 rfl).trans h22)) <| lp rfl rfl (X_add rfl rfl) <| lp rfl rfl (xa (.int .i64 (IntKind.wrap .i64 (x5_7 + 1))) rfl) <| L_nil <| blk_n <| thn_n ?_
    obtain rfl := si H
    exact ⟨_, Nat.lt_succ_self _, IntKind.wrap .i64 (x5_7 + 1), (ku3 (Kp.cut K19 K50 rfl) rfl), rfl, (e20.t e47), S24⟩
   ·refine W_false (d51.trans (cb q52)) <| W_exit <| thn_x <| thn_x <| blk_x <| thn_n ?_
    obtain rfl := si H
    obtain rfl := si S24
    exact ⟨x5_7, (Kp.cut K19 K50 rfl), ((K50 5 rfl).trans h22), (e20.t e47), rfl⟩
 ·rintro s13 w12 ⟨x5_11, K14, h53, e15, y54⟩
  rw [y54] at C10
  have H := C10
  replace H : _ = some _ := H
  refine thn_n <| wr <| lp rfl rfl (xm v_a0 (K14 0 rfl)) <| lp rfl rfl (X_move h53) ?_
  obtain ⟨c55, H⟩ := bif_some H
  refine L_sub (.plain rfl) rfl (ltb rfl) rfl Tryz.underlying29 Tryz.sizeOf60 rfl (Rd.ext f_a0 (e5.t e15)) (l := x5_11) (h := (a0.length : Int)) ⟨_, rfl⟩ rfl c55 <| fun v56 h57 => lp rfl rfl (xa v56 rfl) <| nx <| W_seq <| W_seq ?_
  obtain ⟨c58, H⟩ := bif_some H
  refine W_dM [LEq (.int .i64 x5_11), LEq v_a0, LEq (.int .i64 (a0.length : Int)), LEq (.bool (decide (x5_11 < (a0.length : Int)))), LEq (.bool (decide (x5_11 < (a0.length : Int)))), LIf (decide (x5_11 < (a0.length : Int))) (LEq v_a0), LIf (decide (x5_11 < (a0.length : Int))) (LEq (.int .i64 x5_11)), LIf (decide (x5_11 < (a0.length : Int))) (LAt0 (encNd (gt a0 x5_11))), LIf (decide (x5_11 < (a0.length : Int))) (LAt 1 (encNd (gt a0 x5_11))), LIf (decide (x5_11 < (a0.length : Int))) (LEq (S ((gt a0 x5_11).path))), LIf (decide (x5_11 < (a0.length : Int))) (LEq (.pointer (some ⟨b1, 1, none⟩))), LIf (decide (x5_11 < (a0.length : Int))) (LEq (S a1.path)), LIf (decide (x5_11 < (a0.length : Int))) (LEq (.bool (decide (((gt a0 x5_11).path) = a1.path)))), LEq (.bool ((decide (x5_11 < (a0.length : Int))) && (decide (((gt a0 x5_11).path) = a1.path))))] (by kernel_rfl) (by kernel_rfl) ⟨qm, qm, qm, qm, qm, lm, lm, (LIf.mono LAt0.mono), (LIf.mono LAt.mono), lm, lm, lm, lm, qm, trivial⟩ ⟨?_, ?_, ?_, ?_, ?_, ?_, ?_, ?_, ?_, ?_, ?_, ?_, ?_, ?_, trivial⟩ ?_
  ·exact fun s x e f d u => lp rfl rfl (xm (.int .i64 x5_11) ((f 5 rfl).trans h53)) <| se rfl rfl
  ·exact fun s x e f d u => lp rfl rfl (xm v_a0 ((f 0 rfl).trans (K14 0 rfl))) <| se rfl rfl
  ·exact fun s x e f d u => lp rfl rfl (X_lenR Tryz.underlying29 (d 1 rfl) (Rd.ext f_a0 ((e5.t e15).t e))) <| se rfl rfl
  ·exact fun s x e f d u => lp rfl rfl (X_lss (d 0 rfl) (d 2 rfl)) <| se rfl rfl
  ·exact fun s x e f d u => lp rfl rfl (X_move (d 3 rfl)) <| se rfl rfl
  ·exact fun s x e f d u => gT rfl rfl rfl rfl (d 4 rfl) rfl fun b t => lt t rfl rfl (xm v_a0 ((f 0 rfl).trans (K14 0 rfl))) <| sg rfl rfl b rfl
  ·exact fun s x e f d u => gT rfl rfl rfl rfl (d 4 rfl) rfl fun b t => lt t rfl rfl (xm (.int .i64 x5_11) ((f 5 rfl).trans h53)) <| sg rfl rfl b rfl
  ·exact fun s x e f d u => gT rfl rfl rfl rfl (d 4 rfl) rfl fun b t => L_idx t rfl (ltb rfl) rfl Tryz.underlying29 Tryz.sizeOf60 ((d 5 rfl).1 b) (Rd.ext f_a0 ((e5.t e15).t e)) ((d 6 rfl).1 b) (imp_take b c58) <| fun p62 h63 => sg rfl rfl b ⟨_, rfl, h63⟩
  ·intro s x e f d u
   refine gT rfl rfl rfl rfl (d 4 rfl) rfl fun b t => ?_
   obtain ⟨p64, h65, h66⟩ := ((d 7 rfl).1 b)
   exact lt t rfl rfl (X_fieldAddr Tryz.underlying60 rfl Tryz.sizeOf9 rfl h65) <| sg rfl rfl b ⟨_, rfl, h66⟩
  ·intro s x e f d u
   refine gT rfl rfl rfl rfl (d 4 rfl) rfl fun b t => ?_
   obtain ⟨p67, h68, h69⟩ := ((d 8 rfl).1 b)
   exact lt t rfl rfl (X_loadF Tryz.isAgg9 (j := 1) h69 h68 rfl) <| sg rfl rfl b rfl
  ·exact fun s x e f d u => gT rfl rfl rfl rfl (d 4 rfl) rfl fun b t => lt t rfl rfl (X_fieldAddr Tryz.underlying60 rfl Tryz.sizeOf9 rfl ((f 3 rfl).trans (K14 3 rfl))) <| sg rfl rfl b rfl
  ·exact fun s x e f d u => gT rfl rfl rfl rfl (d 4 rfl) rfl fun b t => lt t rfl rfl (X_loadB Tryz.isAgg9 (Blk.ext k6 (e15.t e)) ((d 10 rfl).1 b) rfl) <| sg rfl rfl b rfl
  ·exact fun s x e f d u => gT rfl rfl rfl rfl (d 4 rfl) rfl fun b t => lt t rfl rfl (X_seq ((d 9 rfl).1 b) ((d 11 rfl).1 b)) <| sg rfl rfl b rfl
  ·exact fun s x e f d u => lp rfl rfl (X_pickA (d 4 rfl) rfl fun h => ((d 12 rfl).1 h)) <| se rfl rfl
  intro s70 w71 e72 hf73 ha74
  have K75 := Kp.ofD (kp := [(26, 40)]) rfl hf73
  have d76 : s70 39 = (.bool ((decide (x5_11 < (a0.length : Int))) && (decide (((gt a0 x5_11).path) = a1.path)))) := ha74 13 rfl
  clear ha74 hf73
  refine thn_n ?_
  rcases bif_two H with ⟨q77, H⟩ | ⟨q77, H⟩
  ·refine W_true (d76.trans (cb q77)) <| W_reg <| lp rfl rfl (xm v_a0 ((K75 0 rfl).trans (K14 0 rfl))) <| lp rfl rfl (xm (.int .i64 x5_11) ((K75 5 rfl).trans h53)) <| lp rfl rfl (X_add rfl rfl) ?_
   obtain ⟨c78, H⟩ := bif_some H
   refine L_sub (.plain rfl) rfl (ltb rfl) rfl Tryz.underlying29 Tryz.sizeOf60 rfl (Rd.ext f_a0 ((e5.t e15).t e72)) (l := IntKind.wrap .i64 (x5_11 + 1)) (h := (a0.length : Int)) ⟨_, rfl⟩ rfl c78 <| fun v79 h80 => lp rfl rfl (xa v79 rfl) <| nx <| W_seq ?_
   obtain ⟨c87, H⟩ := bif_some H
   obtain ⟨c90, H⟩ := bif_some H
   obtain ⟨c102, H⟩ := bif_some H
   obtain ⟨c108, H⟩ := bif_some H
   refine W_drawR (B := w71.heap.size) [LEmp, LEq v_a0, LEq (.int .i64 x5_11), LRdW w71 4 encNd (sub a0 0 x5_11), LOw 60 4 encNd w71.heap.size (([] : List Nd) ++ (sub a0 0 x5_11)), LEq (.agg #[(.int .i64 a1.kind), (S a1.path), (S a1.body), (.int .i64 a1.mode)]), LRd 4 encNd ([a1] : List Nd), LOw 60 4 encNd w71.heap.size (spec_l04Put.e1 a0 a1 x5_11), LEq v79, LOw 60 4 encNd w71.heap.size ((spec_l04Put.e1 a0 a1 x5_11) ++ (sub a0 (IntKind.wrap .i64 (x5_11 + 1)) (a0.length : Int))), LOw 60 4 encNd w71.heap.size ((spec_l04Put.e1 a0 a1 x5_11) ++ (sub a0 (IntKind.wrap .i64 (x5_11 + 1)) (a0.length : Int)))] [⟨true, true, true, false, []⟩, ⟨true, true, true, false, []⟩, ⟨true, true, true, false, []⟩, ⟨true, true, true, false, [1, 2]⟩, ⟨true, false, true, false, [0, 3]⟩, ⟨true, true, true, false, []⟩, ⟨true, false, true, false, [5]⟩, ⟨false, false, true, false, [4, 6]⟩, ⟨true, true, false, false, []⟩, ⟨false, false, false, false, [7, 8]⟩, ⟨true, false, false, true, [9]⟩] [(7, 0, [4]), (9, 0, [7, 4]), (7, 1, [4, 3]), (9, 1, [7, 4, 3]), (7, 2, [4, 3]), (9, 2, [7, 4, 3]), (7, 3, [4]), (9, 3, [7, 4]), (7, 4, []), (9, 4, [7]), (7, 5, [6]), (9, 5, [7, 6]), (7, 6, []), (9, 6, [7]), (9, 7, []), (10, 7, []), (10, 9, [])] (by kernel_rfl) (by kernel_rfl) (Nat.le_refl _) ⟨⟨LEmp.rig.mono, fun _ => LEmp.rig⟩, ⟨LEq.rig.mono, fun _ => LEq.rig⟩, ⟨LEq.rig.mono, fun _ => LEq.rig⟩, ⟨LRdW.rig.mono, fun _ => LRdW.rig⟩, ⟨LOw.mono, noR⟩, ⟨LEq.rig.mono, fun _ => LEq.rig⟩, ⟨LRd.mono, noR⟩, ⟨LOw.mono, noR⟩, ⟨LEq.rig.mono, fun _ => LEq.rig⟩, ⟨LOw.mono, noR⟩, ⟨LOw.mono, noR⟩, trivial⟩ ⟨?_, ?_, ?_, ?_, ?_, ?_, ?_, ?_, ?_, ?_, ?_, trivial⟩ ?_
   ·intro s114 w115 hb116 hx117 hf118 hd119 hu120
    have e121 : Ext w71 w115 := hx117 rfl
    exact L_lit (.plain rfl) rfl (ltb rfl) rfl Tryz.underlying29 Tryz.sizeOf60 Tryz.zeroValue60 rfl rfl rfl (vs := []) rfl (lit_all rfl) <| fun b122 w123 z124 z125 e126 k127 => L_nil <| stepS rfl rfl rfl e126 ⟨_, rfl⟩
   ·intro s128 w129 hb130 hx131 hf132 hd133 hu134
    have e135 : Ext w71 w129 := hx131 rfl
    exact lp rfl rfl (xm v_a0 ((hf132 0 rfl).trans ((K75 0 rfl).trans (K14 0 rfl)))) <| L_nil <| stepS rfl rfl rfl er rfl
   ·intro s136 w137 hb138 hx139 hf140 hd141 hu142
    have e143 : Ext w71 w137 := hx139 rfl
    exact lp rfl rfl (xm (.int .i64 x5_11) ((hf140 5 rfl).trans ((K75 5 rfl).trans h53))) <| L_nil <| stepS rfl rfl rfl er rfl
   ·intro s144 w145 hb146 hx147 hf148 hd149 hu150
    have e151 : Ext w71 w145 := hx147 rfl
    have d152 : s144 45 = v_a0 := (hd149 1 rfl)
    have d153 : s144 46 = (.int .i64 x5_11) := (hd149 2 rfl)
    have c154 := c87
    exact L_sub (.plain rfl) rfl (ltb rfl) rfl Tryz.underlying29 Tryz.sizeOf60 d152 (Rd.ext f_a0 ((e5.t e15).t e72)) (l := 0) (h := x5_11) rfl ⟨_, d153⟩ c154 <| fun v155 h156 => L_nil <| stepS rfl rfl rfl er h156
   ·intro s157 w158 hb159 hx160 hf161 hd162 hu163
    have e164 : Ext w71 w158 := hx160 rfl
    obtain ⟨b165, h166⟩ := (hd162 0 rfl)
    have d167 : Rd 4 encNd w71 (s157 47) (sub a0 0 x5_11) := (hd162 3 rfl)
    have c168 := c90
    exact L_append (enc := encNd) (.plain rfl) rfl (ltb rfl) rfl El.t29 h166 rfl (Ow.zero (base := w158.heap.size) (w := w158)) (Rd.ext d167 e164) (ones_Nd _) (od c168) (Nat.le_refl _) <| fun v169 w170 o171 z172 g173 => L_nil <| stepS rfl rfl rfl (g173 _ er) (Ow.base o171 e164.size)
   ·intro s174 w175 hb176 hx177 hf178 hd179 hu180
    have e181 : Ext w71 w175 := hx177 rfl
    exact lp rfl rfl (X_loadS Tryz.isAgg60 Tryz.sizeOf60 rfl ((hf178 3 rfl).trans ((K75 3 rfl).trans (K14 3 rfl))) (Blk.at0 (Blk.ext k6 ((e15.t e72).t e181)))) <| L_nil <| stepS rfl rfl rfl er rfl
   ·intro s182 w183 hb184 hx185 hf186 hd187 hu188
    have e189 : Ext w71 w183 := hx185 rfl
    have d190 : s182 49 = (.agg #[(.int .i64 a1.kind), (S a1.path), (S a1.body), (.int .i64 a1.mode)]) := (hd187 5 rfl)
    exact L_lit (.plain rfl) rfl (ltb rfl) rfl Tryz.underlying29 Tryz.sizeOf60 Tryz.zeroValue60 rfl rfl rfl (vs := [(.agg #[(.int .i64 a1.kind), (S a1.path), (S a1.body), (.int .i64 a1.mode)])]) (cons2 d190 rfl) (lit_all rfl) <| fun b191 w192 z193 z194 e195 k196 => L_nil <| stepS rfl rfl rfl e195 (Ow.rd (Ow.new (xs := [a1]) (sz := 4) (enc := encNd) (base := w183.heap.size) k196 (Nat.le_of_eq z193) rfl (fun _ _ => by rfl) (Nat.le_of_ble_eq_true rfl)))
   ·intro s197 w198 hb199 hx200 hf201 hd202 hu203
    have e204 : Ext w71 w198 := hx200 rfl
    have d205 : Ow 60 4 encNd w71.heap.size w198 (s197 48) (([] : List Nd) ++ (sub a0 0 x5_11)) := (hd202 4 rfl)
    have d206 : Rd 4 encNd w198 (s197 50) ([a1] : List Nd) := (hd202 6 rfl)
    have c207 := c102
    exact L_append (enc := encNd) (.plain rfl) rfl (ltb rfl) rfl El.t29 rfl rfl d205 d206 (ones_Nd _) (od c207) (e204).size <| fun v208 w209 o210 z211 g212 => L_nil <| stepH rfl rfl rfl (g212 _ (Below.refl _ _)) o210
   ·intro s213 w214 hb215 hx216 hf217 hd218 hu219
    have e220 : Ext w71 w214 := Below.trans er hb215
    exact lp rfl rfl (xm v79 (hf217 6 rfl)) <| L_nil <| stepS rfl rfl rfl er rfl
   ·intro s221 w222 hb223 hx224 hf225 hd226 hu227
    have e228 : Ext w71 w222 := Below.trans er hb223
    have d229 : Ow 60 4 encNd w71.heap.size w222 (s221 51) (spec_l04Put.e1 a0 a1 x5_11) := (hd226 7 rfl)
    have d230 : s221 52 = v79 := (hd226 8 rfl)
    have c231 := c108
    exact L_append (enc := encNd) (.plain rfl) rfl (ltb rfl) rfl El.t29 rfl d230 d229 (Rd.ext h80 e228) (ones_Nd _) (od c231) (e228).size <| fun v232 w233 o234 z235 g236 => L_nil <| stepH rfl rfl rfl (g236 _ (Below.refl _ _)) o234
   ·intro s237 w238 hb239 hx240 hf241 hd242 hu243
    have e244 : Ext w71 w238 := Below.trans er hb239
    have d245 : Ow 60 4 encNd w71.heap.size w238 (s237 53) ((spec_l04Put.e1 a0 a1 x5_11) ++ (sub a0 (IntKind.wrap .i64 (x5_11 + 1)) (a0.length : Int))) := (hd242 9 rfl)
    exact lp rfl rfl (xa (s237 53) rfl) <| L_nil <| stepS rfl rfl rfl er d245
   intro s246 w247 hb248 hf250 ha251
   have K252 := Kp.ofD (kp := [(4, 5), (44, 54)]) rfl hf250
   have e249 : Ext w71 w247 := hb248
   have d253 : Ow 60 4 encNd w71.heap.size w247 (s246 4) ((spec_l04Put.e1 a0 a1 x5_11) ++ (sub a0 (IntKind.wrap .i64 (x5_11 + 1)) (a0.length : Int))) := ha251 10 rfl rfl
   clear ha251 hf250
   refine thn_n <| W_ret <| fin_r ?_
   obtain rfl := si H
   exact fin1o rfl (((e5.t e15).t e72).t e249) d253 (((e5.t e15).t e72)).size
  ·refine W_false (d76.trans (cb q77)) <| W_skip <| thn_n <| W_seq ?_
   obtain ⟨c260, H⟩ := bif_some H
   obtain ⟨c263, H⟩ := bif_some H
   obtain ⟨c275, H⟩ := bif_some H
   obtain ⟨c281, H⟩ := bif_some H
   refine W_drawR (B := w71.heap.size) [LEmp, LEq v_a0, LEq (.int .i64 x5_11), LRdW w71 4 encNd (sub a0 0 x5_11), LOw 60 4 encNd w71.heap.size (([] : List Nd) ++ (sub a0 0 x5_11)), LEq (.agg #[(.int .i64 a1.kind), (S a1.path), (S a1.body), (.int .i64 a1.mode)]), LRd 4 encNd ([a1] : List Nd), LOw 60 4 encNd w71.heap.size (spec_l04Put.e1 a0 a1 x5_11), LEq v56, LOw 60 4 encNd w71.heap.size ((spec_l04Put.e1 a0 a1 x5_11) ++ (sub a0 x5_11 (a0.length : Int))), LOw 60 4 encNd w71.heap.size ((spec_l04Put.e1 a0 a1 x5_11) ++ (sub a0 x5_11 (a0.length : Int)))] [⟨true, true, true, false, []⟩, ⟨true, true, true, false, []⟩, ⟨true, true, true, false, []⟩, ⟨true, true, true, false, [1, 2]⟩, ⟨true, false, true, false, [0, 3]⟩, ⟨true, true, true, false, []⟩, ⟨true, false, true, false, [5]⟩, ⟨false, false, true, false, [4, 6]⟩, ⟨true, true, false, false, []⟩, ⟨false, false, false, false, [7, 8]⟩, ⟨true, false, false, true, [9]⟩] [(7, 0, [4]), (9, 0, [7, 4]), (7, 1, [4, 3]), (9, 1, [7, 4, 3]), (7, 2, [4, 3]), (9, 2, [7, 4, 3]), (7, 3, [4]), (9, 3, [7, 4]), (7, 4, []), (9, 4, [7]), (7, 5, [6]), (9, 5, [7, 6]), (7, 6, []), (9, 6, [7]), (9, 7, []), (10, 7, []), (10, 9, [])] (by kernel_rfl) (by kernel_rfl) (Nat.le_refl _) ⟨⟨LEmp.rig.mono, fun _ => LEmp.rig⟩, ⟨LEq.rig.mono, fun _ => LEq.rig⟩, ⟨LEq.rig.mono, fun _ => LEq.rig⟩, ⟨LRdW.rig.mono, fun _ => LRdW.rig⟩, ⟨LOw.mono, noR⟩, ⟨LEq.rig.mono, fun _ => LEq.rig⟩, ⟨LRd.mono, noR⟩, ⟨LOw.mono, noR⟩, ⟨LEq.rig.mono, fun _ => LEq.rig⟩, ⟨LOw.mono, noR⟩, ⟨LOw.mono, noR⟩, trivial⟩ ⟨?_, ?_, ?_, ?_, ?_, ?_, ?_, ?_, ?_, ?_, ?_, trivial⟩ ?_
   ·intro s287 w288 hb289 hx290 hf291 hd292 hu293
    have e294 : Ext w71 w288 := hx290 rfl
    exact L_lit (.plain rfl) rfl (ltb rfl) rfl Tryz.underlying29 Tryz.sizeOf60 Tryz.zeroValue60 rfl rfl rfl (vs := []) rfl (lit_all rfl) <| fun b295 w296 z297 z298 e299 k300 => L_nil <| stepS rfl rfl rfl e299 ⟨_, rfl⟩
   ·intro s301 w302 hb303 hx304 hf305 hd306 hu307
    have e308 : Ext w71 w302 := hx304 rfl
    exact lp rfl rfl (xm v_a0 ((hf305 0 rfl).trans ((K75 0 rfl).trans (K14 0 rfl)))) <| L_nil <| stepS rfl rfl rfl er rfl
   ·intro s309 w310 hb311 hx312 hf313 hd314 hu315
    have e316 : Ext w71 w310 := hx312 rfl
    exact lp rfl rfl (xm (.int .i64 x5_11) ((hf313 5 rfl).trans ((K75 5 rfl).trans h53))) <| L_nil <| stepS rfl rfl rfl er rfl
   ·intro s317 w318 hb319 hx320 hf321 hd322 hu323
    have e324 : Ext w71 w318 := hx320 rfl
    have d325 : s317 45 = v_a0 := (hd322 1 rfl)
    have d326 : s317 46 = (.int .i64 x5_11) := (hd322 2 rfl)
    have c327 := c260
    exact L_sub (.plain rfl) rfl (ltb rfl) rfl Tryz.underlying29 Tryz.sizeOf60 d325 (Rd.ext f_a0 ((e5.t e15).t e72)) (l := 0) (h := x5_11) rfl ⟨_, d326⟩ c327 <| fun v328 h329 => L_nil <| stepS rfl rfl rfl er h329
   ·intro s330 w331 hb332 hx333 hf334 hd335 hu336
    have e337 : Ext w71 w331 := hx333 rfl
    obtain ⟨b338, h339⟩ := (hd335 0 rfl)
    have d340 : Rd 4 encNd w71 (s330 47) (sub a0 0 x5_11) := (hd335 3 rfl)
    have c341 := c263
    exact L_append (enc := encNd) (.plain rfl) rfl (ltb rfl) rfl El.t29 h339 rfl (Ow.zero (base := w331.heap.size) (w := w331)) (Rd.ext d340 e337) (ones_Nd _) (od c341) (Nat.le_refl _) <| fun v342 w343 o344 z345 g346 => L_nil <| stepS rfl rfl rfl (g346 _ er) (Ow.base o344 e337.size)
   ·intro s347 w348 hb349 hx350 hf351 hd352 hu353
    have e354 : Ext w71 w348 := hx350 rfl
    exact lp rfl rfl (X_loadS Tryz.isAgg60 Tryz.sizeOf60 rfl ((hf351 3 rfl).trans ((K75 3 rfl).trans (K14 3 rfl))) (Blk.at0 (Blk.ext k6 ((e15.t e72).t e354)))) <| L_nil <| stepS rfl rfl rfl er rfl
   ·intro s355 w356 hb357 hx358 hf359 hd360 hu361
    have e362 : Ext w71 w356 := hx358 rfl
    have d363 : s355 49 = (.agg #[(.int .i64 a1.kind), (S a1.path), (S a1.body), (.int .i64 a1.mode)]) := (hd360 5 rfl)
    exact L_lit (.plain rfl) rfl (ltb rfl) rfl Tryz.underlying29 Tryz.sizeOf60 Tryz.zeroValue60 rfl rfl rfl (vs := [(.agg #[(.int .i64 a1.kind), (S a1.path), (S a1.body), (.int .i64 a1.mode)])]) (cons2 d363 rfl) (lit_all rfl) <| fun b364 w365 z366 z367 e368 k369 => L_nil <| stepS rfl rfl rfl e368 (Ow.rd (Ow.new (xs := [a1]) (sz := 4) (enc := encNd) (base := w356.heap.size) k369 (Nat.le_of_eq z366) rfl (fun _ _ => by rfl) (Nat.le_of_ble_eq_true rfl)))
   ·intro s370 w371 hb372 hx373 hf374 hd375 hu376
    have e377 : Ext w71 w371 := hx373 rfl
    have d378 : Ow 60 4 encNd w71.heap.size w371 (s370 48) (([] : List Nd) ++ (sub a0 0 x5_11)) := (hd375 4 rfl)
    have d379 : Rd 4 encNd w371 (s370 50) ([a1] : List Nd) := (hd375 6 rfl)
    have c380 := c275
    exact L_append (enc := encNd) (.plain rfl) rfl (ltb rfl) rfl El.t29 rfl rfl d378 d379 (ones_Nd _) (od c380) (e377).size <| fun v381 w382 o383 z384 g385 => L_nil <| stepH rfl rfl rfl (g385 _ (Below.refl _ _)) o383
   ·intro s386 w387 hb388 hx389 hf390 hd391 hu392
    have e393 : Ext w71 w387 := Below.trans er hb388
    exact lp rfl rfl (xm v56 ((hf390 6 rfl).trans (K75 6 rfl))) <| L_nil <| stepS rfl rfl rfl er rfl
   ·intro s394 w395 hb396 hx397 hf398 hd399 hu400
    have e401 : Ext w71 w395 := Below.trans er hb396
    have d402 : Ow 60 4 encNd w71.heap.size w395 (s394 51) (spec_l04Put.e1 a0 a1 x5_11) := (hd399 7 rfl)
    have d403 : s394 52 = v56 := (hd399 8 rfl)
    have c404 := c281
    exact L_append (enc := encNd) (.plain rfl) rfl (ltb rfl) rfl El.t29 rfl d403 d402 (Rd.ext h57 (e72.t e401)) (ones_Nd _) (od c404) (e401).size <| fun v405 w406 o407 z408 g409 => L_nil <| stepH rfl rfl rfl (g409 _ (Below.refl _ _)) o407
   ·intro s410 w411 hb412 hx413 hf414 hd415 hu416
    have e417 : Ext w71 w411 := Below.trans er hb412
    have d418 : Ow 60 4 encNd w71.heap.size w411 (s410 53) ((spec_l04Put.e1 a0 a1 x5_11) ++ (sub a0 x5_11 (a0.length : Int))) := (hd415 9 rfl)
    exact lp rfl rfl (xa (s410 53) rfl) <| L_nil <| stepS rfl rfl rfl er d418
   intro s419 w420 hb421 hf423 ha424
   have K425 := Kp.ofD (kp := [(4, 5), (44, 54)]) rfl hf423
   have e422 : Ext w71 w420 := hb421
   have d426 : Ow 60 4 encNd w71.heap.size w420 (s419 4) ((spec_l04Put.e1 a0 a1 x5_11) ++ (sub a0 x5_11 (a0.length : Int))) := ha424 10 rfl rfl
   clear ha424 hf423
   refine thn_n <| W_ret <| fin_r ?_
   obtain rfl := si H
   exact fin1o rfl (((e5.t e15).t e72).t e422) d426 (((e5.t e15).t e72)).size
theorem spec_l04Put.calls {w : World} {a0 : List Nd} {a1 : Nd} {v_a0 : Value} (f_a0 : Rd 4 encNd w v_a0 a0) (h0 : a0.length ≤ 1000000) (h1 : ∀ x ∈ a0, x.path.length ≤ 1048576) (h2 : a1.path.length ≤ 1048576) :
  Calls Tryz.prog 163 #[v_a0, .agg (encNd a1).toArray] w (Rt (RO 60 4 encNd w (putN a0 a1))) := by
 obtain ⟨k, h⟩ := spec_l04Put.eq a0 a1 h0 h1 h2
 exact spec_l04Put.walk f_a0 h
/-! spec.l04Node -/
theorem spec_l04Node.calls {w : World} {a0 : Rec} :
  Calls Tryz.prog 203 #[.agg (encRec a0).toArray] w (Rt (RP w (.agg (encNd (ndOf a0)).toArray))) := by
 have H := spec_l04Node.eq a0
 generalize (ndOf a0) = r at H ⊢
 unfold spec_l04Node.sh at H
 refine calls_of_WG Tryz.func203 rfl (Nat.le_of_ble_eq_true rfl) Tryz.ntmps203 ?_
 refine wr <| L_box (.plain rfl) rfl (ltb rfl) rfl rfl <| fun b1 w2 z3 z4 e5 k6 => L_alloc (.plain rfl) rfl (ltb rfl) rfl Tryz.zeroValue60 <| fun b7 w8 z9 z10 e11 k12 => nx <| wr <| lp rfl rfl (X_fieldAddr Tryz.underlying58 rfl Tryz.sizeOf3 rfl rfl) <| lp rfl rfl (X_loadB Tryz.isAgg3 (Blk.ext k6 e11) rfl rfl) <| lp rfl rfl (X_fieldAddr Tryz.underlying58 rfl Tryz.sizeOf9 rfl rfl) <| lp rfl rfl (X_loadB Tryz.isAgg9 (Blk.ext k6 e11) rfl rfl) <| lp rfl rfl (X_fieldAddr Tryz.underlying58 rfl Tryz.sizeOf9 rfl rfl) <| lp rfl rfl (X_loadB Tryz.isAgg9 (Blk.ext k6 e11) rfl rfl) <| lp rfl rfl (X_fieldAddr Tryz.underlying58 rfl Tryz.sizeOf3 rfl rfl) <| lp rfl rfl (X_loadB Tryz.isAgg3 (Blk.ext k6 e11) rfl rfl) <| lp rfl rfl (X_build1 (vs := [(0, (.int .i64 a0.kind)), (1, (S a0.path)), (2, (S a0.body)), (3, (.int .i64 a0.mode))]) (pl := #[(0, 1), (1, 1), (2, 1), (3, 1)]) Tryz.underlying60 Tryz.zeroValue60 rfl (fun _ => by kernel_rfl) rfl rfl rfl) <| L_storeA (.plain rfl) rfl rfl Tryz.sizeOf60 rfl rfl rfl rfl rfl k12 <| fun w13 h14 k15 => nx <| W_ret <| finG_r ?_
 obtain rfl := si H
 exact finC1 rfl rfl k15 Tryz.isAgg60 Tryz.sizeOf60 rfl (e5.t (Below.trans e11 (Wr.below h14 (Nat.le_of_eq z9))))
/-! spec.l05Do -/
theorem spec_l05Do.calls {w : World} {a0 : List Nd} {a1 : Rec} {v_a0 : Value} (f_a0 : Rd 4 encNd w v_a0 a0) (h0 : a0.length ≤ 1000000) (h1 : ∀ x ∈ a0, x.path.length ≤ 1048576) (h2 : a1.path.length ≤ 1048576) :
  Calls Tryz.prog 223 #[v_a0, .agg (encRec a1).toArray] w (Rt (RO 60 4 encNd w (doS a0 a1))) := by
 have H := spec_l05Do.eq a0 a1 h0 h1 h2
 generalize (doS a0 a1) = r at H ⊢
 unfold spec_l05Do.sh at H
 refine calls_of_W Tryz.func223 rfl (Nat.le_of_ble_eq_true rfl) Tryz.ntmps223 rfl ?_
 refine wr <| L_box (.plain rfl) rfl (ltb rfl) rfl rfl <| fun b1 w2 z3 z4 e5 k6 => lp rfl rfl (xa (.slice none 0 0) rfl) <| nx <| wr <| lp rfl rfl (xm v_a0 rfl) <| lp rfl rfl (X_fieldAddr Tryz.underlying58 rfl Tryz.sizeOf9 rfl rfl) <| lp rfl rfl (X_loadB Tryz.isAgg9 k6 rfl rfl) ?_
 obtain ⟨c7, H⟩ := bif_some H
 refine lc rfl rfl rfl Tryz.call162 (spec_l04At.calls (w := w2) (a0 := a0) (a1 := a1.path) (Rd.ext f_a0 e5) (od c7)) rfl <| fun w8 e9 => lp rfl rfl (xa (.int .i64 (findN a0 a1.path)) rfl) <| nx <| W_seq <| wr <| lp rfl rfl (X_fieldAddr Tryz.underlying58 rfl Tryz.sizeOf3 rfl rfl) <| lp rfl rfl (X_loadB Tryz.isAgg3 (Blk.ext k6 e9) rfl rfl) <| lp rfl rfl (X_eql rfl rfl) <| nx ?_
 rcases bif_two H with ⟨q10, H⟩ | ⟨q10, H⟩
 ·refine W_true (cb q10) <| wr <| lp rfl rfl (xm v_a0 rfl) <| lp rfl rfl (X_fieldAddr Tryz.underlying58 rfl Tryz.sizeOf9 rfl rfl) <| lp rfl rfl (X_loadB Tryz.isAgg9 (Blk.ext k6 e9) rfl rfl) ?_
  obtain ⟨c11, H⟩ := bif_some H
  refine L_callO (.plain rfl) rfl (ltb rfl) rfl Tryz.call170 (spec_l04Without.calls (w := w8) (a0 := a0) (a1 := a1.path) (a2 := true) (Rd.ext f_a0 (e5.t e9)) (od c11)) rfl <| fun v14 w12 e13 o15 => lp rfl rfl (xa v14 rfl) <| nx <| W_ret <| thn_r <| fin_r ?_
  obtain rfl := si H
  exact fin1o rfl ((e5.t e9).t e13) o15 ((e5.t e9)).size
 ·refine W_false (cb q10) <| W_skip <| thn_n <| W_seq <| wr <| lp rfl rfl (X_fieldAddr Tryz.underlying58 rfl Tryz.sizeOf3 rfl rfl) <| lp rfl rfl (X_loadB Tryz.isAgg3 (Blk.ext k6 e9) rfl rfl) <| lp rfl rfl (X_neq rfl rfl) <| lp rfl rfl (xm (.bool (!decide (a1.kind = 3))) rfl) <| L_grp 3 [(21, 24)] 23 (.bool ((!decide (a1.kind = 3)) || a1.opq)) ?_ ?_
  ·rcases bool_two (!decide (a1.kind = 3)) with b15_ | b15_
   ·exact ls rfl rfl rfl (cb b15_) rfl <| ls rfl rfl rfl (cb b15_) rfl <| lp rfl rfl (X_pick (b := true) (v := (.bool true)) (cb b15_) rfl) <| nx ⟨(ku3 kz rfl), (or_t b15_), er⟩
   ·exact lg rfl rfl rfl rfl (cb b15_) (X_fieldAddr Tryz.underlying58 rfl Tryz.sizeOf4 rfl rfl) <| lg rfl rfl rfl rfl (cb b15_) (X_loadB Tryz.isAgg4 (Blk.ext k6 e9) rfl rfl) <| lp rfl rfl (X_pick (b := false) (v := (.bool a1.opq)) (cb b15_) rfl) <| nx ⟨(ku3 kz rfl), (or_f b15_), er⟩
  intro s21 w17 K18 h19 e20
  refine lp rfl rfl (X_move h19) ?_
  obtain ⟨z23, x24, H⟩ := bind_some H
  refine L_grpE 11 [(25, 36)] 35 (fun q => q = z23) ?_ ?_
  ·rcases bif_two x24 with ⟨b21_, H⟩ | ⟨b21_, H⟩
   ·refine ls rfl rfl rfl (cb b21_) rfl <| ls rfl rfl rfl (cb b21_) rfl <| ls rfl rfl rfl (cb b21_) rfl <| lu rfl rfl rfl rfl rfl <| lu rfl rfl rfl rfl rfl <| lu rfl rfl rfl rfl rfl <| lu rfl rfl rfl rfl rfl <| lu rfl rfl rfl rfl rfl <| lu rfl rfl rfl rfl rfl <| ls rfl rfl rfl (cb b21_) rfl <| lp rfl rfl (X_pick (b := true) (v := (.bool true)) (cb b21_) rfl) ?_
    obtain rfl := si H
    exact nx ⟨(ku3 (ku8 kz rfl) rfl), ⟨_, rfl, rfl⟩, er⟩
   ·refine lg rfl rfl rfl rfl (cb b21_) (xm (.int .i64 (findN a0 a1.path)) (K18 5 rfl)) <| lg rfl rfl rfl rfl (cb b21_) (X_geq rfl rfl) <| lg rfl rfl rfl rfl (cb b21_) (xm (.bool (decide (0 ≤ (findN a0 a1.path)))) rfl) ?_
    obtain ⟨z24, x25, H⟩ := bind_some H
    refine L_grpE 7 [(28, 35)] 34 (fun q => q = z24) ?_ ?_
    ·rcases bif_two x25 with ⟨b22_, H⟩ | ⟨b22_, H⟩
     ·refine lg rfl rfl rfl rfl (cb b22_) (xm v_a0 (K18 0 rfl)) <| lg rfl rfl rfl rfl (cb b22_) (xm (.int .i64 (findN a0 a1.path)) (K18 5 rfl)) ?_
      obtain ⟨c24, H⟩ := bif_some H
      refine L_idx (tg rfl rfl rfl (cb b22_)) rfl (ltb rfl) rfl Tryz.underlying29 Tryz.sizeOf60 rfl (Rd.ext f_a0 ((e5.t e9).t e20)) rfl c24 <| fun p25 h26 => lg rfl rfl rfl rfl (cb b22_) (X_fieldAddr Tryz.underlying60 rfl Tryz.sizeOf3 rfl rfl) <| lg rfl rfl rfl rfl (cb b22_) (X_loadF Tryz.isAgg3 (j := 0) h26 rfl rfl) <| lg rfl rfl rfl rfl (cb b22_) (X_neq rfl rfl) <| lg rfl rfl rfl rfl (cb b21_) (X_pick (b := true) (v := (.bool (!decide (((gt a0 (findN a0 a1.path)).kind) = 3)))) (cb b22_) rfl) ?_
      obtain rfl := si H
      exact nx ⟨(ku3 (ku4 kz rfl) rfl), ⟨_, rfl, rfl⟩, er⟩
     ·refine ls rfl rfl rfl (cb b22_) rfl <| ls rfl rfl rfl (cb b22_) rfl <| ls rfl rfl rfl (cb b22_) rfl <| ls rfl rfl rfl (cb b22_) rfl <| ls rfl rfl rfl (cb b22_) rfl <| ls rfl rfl rfl (cb b22_) rfl <| lg rfl rfl rfl rfl (cb b21_) (X_pick (b := false) (v := (.bool false)) (cb b22_) rfl) ?_
      obtain rfl := si H
      exact nx ⟨(ku3 (ku4 kz rfl) rfl), ⟨_, rfl, rfl⟩, er⟩
    intro s30 w26 z31 K27 hq h28 e29
    rw [hq] at h28; clear hq
    refine lp rfl rfl (X_pick (b := false) (v := (.bool z24)) ((K27 24 rfl).trans (cb b21_)) h28) ?_
    obtain rfl := si H
    exact nx ⟨(ku1 (Kp.cut (ku3 kz rfl) K27 rfl) rfl), ⟨_, rfl, rfl⟩, e29⟩
  intro s32 w25 z33 K26 hq h27 e28
  rw [hq] at h27; clear hq
  refine nx ?_
  rcases bif_two H with ⟨q34, H⟩ | ⟨q34, H⟩
  ·refine W_true (h27.trans (cb q34)) <| W_reg <| lp rfl rfl (xm v_a0 ((K26 0 rfl).trans (K18 0 rfl))) <| lp rfl rfl (X_fieldAddr Tryz.underlying58 rfl Tryz.sizeOf9 rfl ((K26 3 rfl).trans (K18 3 rfl))) <| lp rfl rfl (X_loadB Tryz.isAgg9 (Blk.ext k6 ((e9.t e20).t e28)) rfl rfl) ?_
   obtain ⟨c35, H⟩ := bif_some H
   refine L_callO (.plain rfl) rfl (ltb rfl) rfl Tryz.call170 (spec_l04Without.calls (w := w25) (a0 := a0) (a1 := a1.path) (a2 := false) (Rd.ext f_a0 (((e5.t e9).t e20).t e28)) (od c35)) rfl <| fun v38 w36 e37 o39 => lp rfl rfl (xa v38 rfl) <| nx <| wr <| lp rfl rfl (xm v38 rfl) <| lp rfl rfl (X_loadS Tryz.isAgg58 Tryz.sizeOf58 rfl ((K26 3 rfl).trans (K18 3 rfl)) (Blk.at0 (Blk.ext k6 (((e9.t e20).t e28).t e37)))) <| lc rfl rfl rfl Tryz.call203 (spec_l04Node.calls (w := w36) (a0 := a1)) rfl <| fun w40 e41 => ?_
   obtain ⟨c42, H⟩ := bif_some H
   obtain ⟨c43, H⟩ := bif_some H
   obtain ⟨c44, H⟩ := bif_some H
   refine L_callO (.plain rfl) rfl (ltb rfl) rfl Tryz.call163 (spec_l04Put.calls (w := w40) (a0 := (without a0 a1.path false)) (a1 := (ndOf a1)) (Ow.rd (Ow.ext o39 e41)) (od c42) (od c43) (od c44)) rfl <| fun v47 w45 e46 o48 => lp rfl rfl (xa v47 rfl) <| nx <| W_ret <| fin_r ?_
   obtain rfl := si H
   exact fin1o rfl ((((((e5.t e9).t e20).t e28).t e37).t e41).t e46) o48 ((((((e5.t e9).t e20).t e28).t e37).t e41)).size
  ·refine W_false (h27.trans (cb q34)) <| W_skip <| thn_n <| wr <| lp rfl rfl (xm v_a0 ((K26 0 rfl).trans (K18 0 rfl))) <| lp rfl rfl (X_loadS Tryz.isAgg58 Tryz.sizeOf58 rfl ((K26 3 rfl).trans (K18 3 rfl)) (Blk.at0 (Blk.ext k6 ((e9.t e20).t e28)))) <| lc rfl rfl rfl Tryz.call203 (spec_l04Node.calls (w := w25) (a0 := a1)) rfl <| fun w49 e50 => ?_
   obtain ⟨c51, H⟩ := bif_some H
   obtain ⟨c52, H⟩ := bif_some H
   obtain ⟨c53, H⟩ := bif_some H
   refine L_callO (.plain rfl) rfl (ltb rfl) rfl Tryz.call163 (spec_l04Put.calls (w := w49) (a0 := a0) (a1 := (ndOf a1)) (Rd.ext f_a0 ((((e5.t e9).t e20).t e28).t e50)) (od c51) (od c52) (od c53)) rfl <| fun v56 w54 e55 o57 => lp rfl rfl (xa v56 rfl) <| nx <| W_ret <| fin_r ?_
   obtain rfl := si H
   exact fin1o rfl (((((e5.t e9).t e20).t e28).t e50).t e55) o57 (((((e5.t e9).t e20).t e28).t e50)).size
/-! spec.l05Apply -/
theorem spec_l05Apply.calls {w : World} {a0 : List Rec} {a1 : List Nd} {v_a0 : Value} (f_a0 : Rd 5 encRec w v_a0 a0) {v_a1 : Value} (f_a1 : Rd 4 encNd w v_a1 a1) (h0 : a0.length ≤ 16) (h1 : a1.length ≤ 1000) (h2 : okT a0 a1 = true) :
  Calls Tryz.prog 140 #[v_a0, v_a1] w (Rt (RO 60 4 encNd w (applyL a0 a1))) := by
 obtain ⟨k, H⟩ := spec_l05Apply.eq a0 a1 h0 h1 h2
 generalize (applyL a0 a1) = r at H ⊢
 unfold spec_l05Apply.sh at H
 refine calls_of_W Tryz.func140 rfl (Nat.le_of_ble_eq_true rfl) Tryz.ntmps140 rfl ?_
 refine wr <| lp rfl rfl (xa (.slice none 0 0) rfl) <| nx <| wr <| L_lit (.plain rfl) rfl (ltb rfl) rfl Tryz.underlying29 Tryz.sizeOf60 Tryz.zeroValue60 rfl rfl rfl (vs := []) rfl (lit_all rfl) <| fun b1 w2 z3 z4 e5 k6 => lp rfl rfl (xm v_a1 rfl) ?_
 obtain ⟨c7, H⟩ := bif_some H
 refine L_append (enc := encNd) (.plain rfl) rfl (ltb rfl) rfl El.t29 rfl rfl (Ow.zero (base := w2.heap.size) (w := w2)) (Rd.ext f_a1 e5) (ones_Nd _) (od c7) (Nat.le_refl _) <| fun v8 w9 o10 z11 g12 => lp rfl rfl (xa v8 rfl) <| nx <| W_seq <| wr <| lp rfl rfl (xa (.int .i64 0) rfl) <| nx ?_
 obtain ⟨z16, L17, C18⟩ := bind_some H
 clear H
 refine  W_cutQ (fun s0 sQ wQ => ∃ (x1_19 : List Nd) (v20 : Value), Kp [(1, 2), (5, 6), (9, 21)] s0 sQ ∧ sQ 1 = v20 ∧ Ow 60 4 encNd w2.heap.size wQ v20 x1_19 ∧ Ext w9 wQ ∧ z16 = .inr x1_19) ?_ ?_
 ·refine W_block <| W_loopI (fun s0 kk sQ wQ => ∃ (x1_13 : List Nd) (v14 : Value) (x5_15 : Int), Kp [(1, 2), (5, 6), (9, 21)] s0 sQ ∧ sQ 1 = v14 ∧ Ow 60 4 encNd w2.heap.size wQ v14 x1_13 ∧ sQ 5 = .int .i64 x5_15 ∧ Ext w9 wQ ∧ loopF (spec_l05Apply.b1 a0) kk (x1_13, x5_15) = some z16) k ⟨([] : List Nd) ++ a1, v8, 0, kz, rfl, o10, rfl, er, L17⟩ ?_
  rintro k25 s26 w27 ⟨x1_13, v14, x5_15, K28, h31, h32, h33, e29, L30⟩
  cases k25 with
  | zero => exact absurd L30 (by simp [loopF])
  | succ k25 =>
   obtain ⟨t34, H, S35⟩ := loopF_succ L30
   clear L30
   unfold spec_l05Apply.b1 at H
   refine W_seq <| wr <| lp rfl rfl (X_move h33) <| lp rfl rfl (xm v_a0 (K28 0 rfl)) <| lp rfl rfl (X_lenR Tryz.underlying35 rfl (Rd.ext f_a0 ((e5.t (g12 _ er)).t e29))) <| lp rfl rfl (X_lss rfl rfl) <| nx ?_
   rcases bif_two H with ⟨q36, H⟩ | ⟨q36, H⟩
   ·refine W_true (cb q36) <| W_skip <| thn_n <| W_seq <| W_block <| W_reg <| lp rfl rfl (X_move h31) <| lp rfl rfl (xm v_a0 (K28 0 rfl)) <| lp rfl rfl (X_move h33) ?_
    obtain ⟨c37, H⟩ := bif_some H
    refine L_idx (.plain rfl) rfl (ltb rfl) rfl Tryz.underlying35 Tryz.sizeOf58 rfl (Rd.ext f_a0 ((e5.t (g12 _ er)).t e29)) rfl c37 <| fun p38 h39 => lp rfl rfl (X_loadS Tryz.isAgg58 Tryz.sizeOf58 rfl rfl h39) ?_
    obtain ⟨c40, H⟩ := bif_some H
    obtain ⟨c41, H⟩ := bif_some H
    obtain ⟨c42, H⟩ := bif_some H
    refine L_callO (.plain rfl) rfl (ltb rfl) rfl Tryz.call223 (spec_l05Do.calls (w := w27) (a0 := x1_13) (a1 := gt a0 x5_15) (Ow.rd h32) (od c40) (od c41) (od c42)) rfl <| fun v45 w43 e44 o46 => lp rfl rfl (xa v45 rfl) <| L_nil <| blk_n <| thn_n <| W_reg <| lp rfl rfl (X_move h33) <| lp rfl rfl (X_add rfl rfl) <| lp rfl rfl (xa (.int .i64 (IntKind.wrap .i64 (x5_15 + 1))) rfl) <| nx ?_
    obtain rfl := si H
    exact ⟨_, Nat.lt_succ_self _, (doS x1_13 (gt a0 x5_15)), v45, IntKind.wrap .i64 (x5_15 + 1), (ku2 (ku4 (ku8 K28 rfl) rfl) rfl), rfl, (Ow.base o46 (Ext.trans (g12 _ er) e29).size), rfl, (e29.t e44), S35⟩
   ·refine W_false (cb q36) <| W_exit <| thn_x <| thn_x <| blk_x <| thn_n ?_
    obtain rfl := si H
    obtain rfl := si S35
    exact ⟨x1_13, v14, (ku4 K28 rfl), h31, h32, e29, rfl⟩
 ·rintro s22 w21 ⟨x1_19, v20, K23, h47, h48, e24, y49⟩
  rw [y49] at C18
  have H := C18
  replace H : _ = some _ := H
  refine thn_n <| wr <| lp rfl rfl (X_move h47) <| lp rfl rfl (xa v20 rfl) <| nx <| W_ret <| fin_r ?_
  obtain rfl := si H
  exact fin1o rfl ((e5.t (g12 _ er)).t e24) h48 (e5).size
/-! spec.Apply -/
theorem spec_Apply.walk {w : World} {a0 : List Rec} {a1 : List Nd} {v_a0 : Value} (f_a0 : Rd 5 encRec w v_a0 a0) {v_a1 : Value} (f_a1 : Rd 4 encNd w v_a1 a1) {r : List Nd × Int} (H : spec_Apply.sh a0 a1 = some r) :
  Calls Tryz.prog 42 #[v_a0, v_a1] w (Rt (RT 60 4 encNd w r.1 (.int .i64 r.2))) := by
 unfold spec_Apply.sh at H
 refine calls_of_W Tryz.func42 rfl (Nat.le_of_ble_eq_true rfl) Tryz.ntmps42 rfl ?_
 refine wr <| lp rfl rfl (xa (.slice none 0 0) rfl) <| lp rfl rfl (xa (.int .i64 0) rfl) <| nx <| W_seq <| wr <| lp rfl rfl (xm v_a0 rfl) <| lp rfl rfl (X_lenR Tryz.underlying35 rfl f_a0) <| lp rfl rfl (X_gtr rfl rfl) <| lp rfl rfl (xm (.bool (decide (4096 < (a0.length : Int)))) rfl) <| L_grp 4 [(11, 15)] 14 (.bool ((decide (4096 < (a0.length : Int))) || (decide (4096 < (a1.length : Int))))) ?_ ?_
 ·rcases bool_two (decide (4096 < (a0.length : Int))) with b0_ | b0_
  ·exact ls rfl rfl rfl (cb b0_) rfl <| ls rfl rfl rfl (cb b0_) rfl <| ls rfl rfl rfl (cb b0_) rfl <| lp rfl rfl (X_pick (b := true) (v := (.bool true)) (cb b0_) rfl) <| nx ⟨(ku4 kz rfl), (or_t b0_), er⟩
  ·exact lg rfl rfl rfl rfl (cb b0_) (xm v_a1 rfl) <| lg rfl rfl rfl rfl (cb b0_) (X_lenR Tryz.underlying29 rfl f_a1) <| lg rfl rfl rfl rfl (cb b0_) (X_gtr rfl rfl) <| lp rfl rfl (X_pick (b := false) (v := (.bool (decide (4096 < (a1.length : Int))))) (cb b0_) rfl) <| nx ⟨(ku4 kz rfl), (or_f b0_), er⟩
 intro s6 w2 K3 h4 e5
 refine nx ?_
 rcases bif_two H with ⟨q7, H⟩ | ⟨q7, H⟩
 ·refine W_true (h4.trans (cb q7)) <| wr <| L_lit (.plain rfl) rfl (ltb rfl) rfl Tryz.underlying29 Tryz.sizeOf60 Tryz.zeroValue60 rfl rfl rfl (vs := []) rfl (lit_all rfl) <| fun b8 w9 z10 z11 e12 k13 => lp rfl rfl (xa (.slice (some ⟨b8, 0, none⟩) 0 0) rfl) <| lp rfl rfl (xa (.int .i64 2) rfl) <| nx <| W_ret <| thn_r <| fin_r ?_
  obtain rfl := si H
  exact fin2o rfl rfl (e5.t e12) (Ow.zero (base := w.heap.size)) (Nat.le_refl _)
 ·refine W_false (h4.trans (cb q7)) <| W_skip <| thn_n <| W_seq <| wr <| lp rfl rfl (xm v_a0 (K3 0 rfl)) ?_
  obtain ⟨c14, H⟩ := bif_some H
  obtain ⟨c15, H⟩ := bif_some H
  refine lc rfl rfl rfl Tryz.call120 (spec_l03OK.calls (w := w2) (a0 := a0) (Rd.ext f_a0 e5) (od c14) (od c15)) rfl <| fun w16 e17 => lp rfl rfl (X_not rfl) <| lp rfl rfl (xm (.bool (!(decide ((layerFault a0).2 = 0)))) rfl) ?_
  obtain ⟨z19, x20, H⟩ := bind_some H
  refine L_grpE 4 [(20, 24)] 23 (fun q => q = z19) ?_ ?_
  ·rcases bif_two x20 with ⟨b17_, H⟩ | ⟨b17_, H⟩
   ·refine ls rfl rfl rfl (cb b17_) rfl <| ls rfl rfl rfl (cb b17_) rfl <| ls rfl rfl rfl (cb b17_) rfl <| lp rfl rfl (X_pick (b := true) (v := (.bool true)) (cb b17_) rfl) ?_
    obtain rfl := si H
    exact nx ⟨(ku4 kz rfl), ⟨_, rfl, rfl⟩, er⟩
   ·refine lg rfl rfl rfl rfl (cb b17_) (xm v_a1 (K3 1 rfl)) ?_
    obtain ⟨c19, H⟩ := bif_some H
    refine L_callP (tg rfl rfl rfl (cb b17_)) rfl (ltb rfl) rfl Tryz.call130 (spec_l04OK.calls (w := w16) (a0 := a1) (Rd.ext f_a1 (e5.t e17)) (od c19)) rfl <| fun w20 e21 => lg rfl rfl rfl rfl (cb b17_) (X_not rfl) <| lp rfl rfl (X_pick (b := false) (v := (.bool (!(treeOK a1)))) (cb b17_) rfl) ?_
    obtain rfl := si H
    exact nx ⟨(ku4 kz rfl), ⟨_, rfl, rfl⟩, e21⟩
  intro s25 w21 z26 K22 hq h23 e24
  rw [hq] at h23; clear hq
  refine nx ?_
  rcases bif_two H with ⟨q27, H⟩ | ⟨q27, H⟩
  ·refine W_true (h23.trans (cb q27)) <| wr <| L_lit (.plain rfl) rfl (ltb rfl) rfl Tryz.underlying29 Tryz.sizeOf60 Tryz.zeroValue60 rfl rfl rfl (vs := []) rfl (lit_all rfl) <| fun b28 w29 z30 z31 e32 k33 => lp rfl rfl (xa (.slice (some ⟨b28, 0, none⟩) 0 0) rfl) <| lp rfl rfl (xa (.int .i64 1) rfl) <| nx <| W_ret <| thn_r <| fin_r ?_
   obtain rfl := si H
   exact fin2o rfl rfl (((e5.t e17).t e24).t e32) (Ow.zero (base := w.heap.size)) (Nat.le_refl _)
  ·refine W_false (h23.trans (cb q27)) <| W_skip <| thn_n <| wr <| lp rfl rfl (xm v_a0 ((K22 0 rfl).trans (K3 0 rfl))) <| lp rfl rfl (xm v_a1 ((K22 1 rfl).trans (K3 1 rfl))) ?_
   obtain ⟨c34, H⟩ := bif_some H
   obtain ⟨c35, H⟩ := bif_some H
   obtain ⟨c36, H⟩ := bif_some H
   refine L_callO (.plain rfl) rfl (ltb rfl) rfl Tryz.call140 (spec_l05Apply.calls (w := w21) (a0 := a0) (a1 := a1) (Rd.ext f_a0 ((e5.t e17).t e24)) (Rd.ext f_a1 ((e5.t e17).t e24)) (od c34) (od c35) (od c36)) rfl <| fun v39 w37 e38 o40 => lp rfl rfl (xa v39 rfl) <| nx <| W_seq <| wr <| lp rfl rfl (xm v39 rfl) <| lp rfl rfl (X_lenR Tryz.underlying29 rfl (Ow.rd o40)) <| lp rfl rfl (X_gtr rfl rfl) <| nx ?_
   rcases bif_two H with ⟨q41, H⟩ | ⟨q41, H⟩
   ·refine W_true (cb q41) <| wr <| L_lit (.plain rfl) rfl (ltb rfl) rfl Tryz.underlying29 Tryz.sizeOf60 Tryz.zeroValue60 rfl rfl rfl (vs := []) rfl (lit_all rfl) <| fun b42 w43 z44 z45 e46 k47 => lp rfl rfl (xa (.slice (some ⟨b42, 0, none⟩) 0 0) rfl) <| lp rfl rfl (xa (.int .i64 7) rfl) <| nx <| W_ret <| thn_r <| fin_r ?_
    obtain rfl := si H
    exact fin2o rfl rfl ((((e5.t e17).t e24).t e38).t e46) (Ow.zero (base := w.heap.size)) (Nat.le_refl _)
   ·refine W_false (cb q41) <| W_skip <| thn_n <| wr <| lp rfl rfl (xm v39 rfl) <| lp rfl rfl (xa v39 rfl) <| lp rfl rfl (xa (.int .i64 0) rfl) <| nx <| W_ret <| fin_r ?_
    obtain rfl := si H
    exact fin2o rfl rfl (((e5.t e17).t e24).t e38) o40 (((e5.t e17).t e24)).size
theorem spec_Apply.calls {w : World} {a0 : List Rec} {a1 : List Nd} {v_a0 : Value} (f_a0 : Rd 5 encRec w v_a0 a0) {v_a1 : Value} (f_a1 : Rd 4 encNd w v_a1 a1) (h0 : a0.length ≤ 1048576) (h1 : a1.length ≤ 1048576) (h2 : ∀ x ∈ a0, x.path.length ≤ 1048576) (h3 : ∀ x ∈ a1, x.path.length ≤ 1048576) :
  Calls Tryz.prog 42 #[v_a0, v_a1] w (Rt (RT 60 4 encNd w ((applyOf a0 a1).1) (.int .i64 ((applyOf a0 a1).2)))) := spec_Apply.walk f_a0 f_a1 (spec_Apply.eq a0 a1 h0 h1 h2 h3)
/-! (impl.Record).node -/
theorem impl_Record_node.calls {w : World} {a0 : Rec} :
  Calls Tryz.prog 211 #[.agg (encRec a0).toArray] w (Rt (RP w (.agg (encNd (ndOf a0)).toArray))) := by
 have H := impl_Record_node.eq a0
 generalize (ndOf a0) = r at H ⊢
 unfold impl_Record_node.sh at H
 refine calls_of_WG Tryz.func211 rfl (Nat.le_of_ble_eq_true rfl) Tryz.ntmps211 ?_
 refine wr <| L_box (.plain rfl) rfl (ltb rfl) rfl rfl <| fun b1 w2 z3 z4 e5 k6 => L_alloc (.plain rfl) rfl (ltb rfl) rfl Tryz.zeroValue60 <| fun b7 w8 z9 z10 e11 k12 => nx <| wr <| lp rfl rfl (X_fieldAddr Tryz.underlying58 rfl Tryz.sizeOf3 rfl rfl) <| lp rfl rfl (X_loadB Tryz.isAgg3 (Blk.ext k6 e11) rfl rfl) <| lp rfl rfl (X_fieldAddr Tryz.underlying58 rfl Tryz.sizeOf9 rfl rfl) <| lp rfl rfl (X_loadB Tryz.isAgg9 (Blk.ext k6 e11) rfl rfl) <| lp rfl rfl (X_fieldAddr Tryz.underlying58 rfl Tryz.sizeOf9 rfl rfl) <| lp rfl rfl (X_loadB Tryz.isAgg9 (Blk.ext k6 e11) rfl rfl) <| lp rfl rfl (X_fieldAddr Tryz.underlying58 rfl Tryz.sizeOf3 rfl rfl) <| lp rfl rfl (X_loadB Tryz.isAgg3 (Blk.ext k6 e11) rfl rfl) <| lp rfl rfl (X_build1 (vs := [(0, (.int .i64 a0.kind)), (1, (S a0.path)), (2, (S a0.body)), (3, (.int .i64 a0.mode))]) (pl := #[(0, 1), (1, 1), (2, 1), (3, 1)]) Tryz.underlying60 Tryz.zeroValue60 rfl (fun _ => by kernel_rfl) rfl rfl rfl) <| L_storeA (.plain rfl) rfl rfl Tryz.sizeOf60 rfl rfl rfl rfl rfl k12 <| fun w13 h14 k15 => nx <| W_ret <| finG_r ?_
 obtain rfl := si H
 exact finC1 rfl rfl k15 Tryz.isAgg60 Tryz.sizeOf60 rfl (e5.t (Below.trans e11 (Wr.below h14 (Nat.le_of_eq z9))))
/-! impl.apply -/
theorem impl_apply.calls {w : World} {a0 : List Rec} {a1 : List Nd} (gv : GV 0 w) {v_a0 : Value} (f_a0 : Rd 5 encRec w v_a0 a0) {v_a1 : Value} (f_a1 : Rd 4 encNd w v_a1 a1) (h0 : a0.length ≤ 16) (h1 : a1.length ≤ 1000) (h2 : okT a0 a1 = true) :
  Calls Tryz.prog 128 #[v_a0, v_a1] w (Rt (RO 60 4 encNd w (applyL a0 a1))) := by
 obtain ⟨k, H⟩ := impl_apply.eq a0 a1 h0 h1 h2
 generalize (applyL a0 a1) = r at H ⊢
 unfold impl_apply.sh at H
 refine calls_of_W Tryz.func128 rfl (Nat.le_of_ble_eq_true rfl) Tryz.ntmps128 rfl ?_
 refine wr <| lp rfl rfl (xa (.slice none 0 0) rfl) <| nx <| wr <| lp rfl rfl (xm v_a1 rfl) ?_
 obtain ⟨c1, H⟩ := bif_some H
 refine L_callO (.plain rfl) rfl (ltb rfl) rfl Tryz.call156 (slices_CloneN.calls (w := w) (a0 := a1) f_a1 (od c1)) rfl <| fun v4 w2 e3 o5 => lp rfl rfl (xa v4 rfl) <| nx <| W_seq <| wr <| lp rfl rfl (xm v_a0 rfl) <| lp rfl rfl (X_lenR Tryz.underlying35 rfl (Rd.ext f_a0 e3)) <| lp rfl rfl (xm (.int .i64 0) rfl) <| nx ?_
 obtain ⟨z9, L10, C11⟩ := bind_some H
 clear H
 refine  W_cutQ (fun s0 sQ wQ => ∃ (x5_12 : List Nd) (v13 : Value), Kp [(5, 6), (7, 9), (13, 59)] s0 sQ ∧ sQ 5 = v13 ∧ Ow 60 4 encNd w.heap.size wQ v13 x5_12 ∧ Ext w wQ ∧ z9 = .inr x5_12) ?_ ?_
 ·refine W_block <| W_loopI (fun s0 kk sQ wQ => ∃ (x5_6 : List Nd) (v7 : Value) (x13_8 : Int), Kp [(5, 6), (7, 9), (13, 59)] s0 sQ ∧ sQ 5 = v7 ∧ Ow 60 4 encNd w.heap.size wQ v7 x5_6 ∧ sQ 13 = .int .i64 x13_8 ∧ Ext w wQ ∧ loopF (impl_apply.b1 a0) kk (x5_6, x13_8) = some z9) k ⟨a1, v4, 0, kz, rfl, o5, rfl, e3, L10⟩ ?_
  rintro k18 s19 w20 ⟨x5_6, v7, x13_8, K21, h24, h25, h26, e22, L23⟩
  cases k18 with
  | zero => exact absurd L23 (by simp [loopF])
  | succ k18 =>
   obtain ⟨t27, H, S28⟩ := loopF_succ L23
   clear L23
   unfold impl_apply.b1 at H
   refine wr <| lp rfl rfl (X_lss h26 (K21 12 rfl)) <| nx <| W_seq ?_
   rcases bif_two H with ⟨q29, H⟩ | ⟨q29, H⟩
   ·refine W_true (cb q29) <| W_skip <| thn_n <| W_seq <| W_block <| wr ?_
    obtain ⟨c30, H⟩ := bif_some H
    refine L_idx (.plain rfl) rfl (ltb rfl) rfl Tryz.underlying35 Tryz.sizeOf58 (K21 11 rfl) (Rd.ext f_a0 e22) h26 c30 <| fun p31 h32 => lp rfl rfl (X_loadS Tryz.isAgg58 Tryz.sizeOf58 rfl rfl h32) <| L_alloc (.plain rfl) rfl (ltb rfl) rfl Tryz.zeroValue58 <| fun b33 w34 z35 z36 e37 k38 => L_storeA (.plain rfl) rfl rfl Tryz.sizeOf58 rfl rfl rfl rfl rfl k38 <| fun w39 h40 k41 => nx <| wr <| lp rfl rfl (X_move h24) <| lp rfl rfl (X_fieldAddr Tryz.underlying58 rfl Tryz.sizeOf9 rfl rfl) <| lp rfl rfl (X_loadB Tryz.isAgg9 k41 rfl rfl) ?_
    obtain ⟨c42, H⟩ := bif_some H
    refine lc rfl rfl rfl Tryz.call210 (impl_at.calls (w := w39) (a0 := x5_6) (a1 := (gt a0 x13_8).path) (Ow.rd (Ow.ext h25 (Below.trans e37 (Wr.below h40 (Nat.le_of_eq z35))))) (od c42)) rfl <| fun w43 e44 => lp rfl rfl (xa (.int .i64 (findN x5_6 ((gt a0 x13_8).path))) rfl) <| nx <| W_seq <| wr <| lp rfl rfl (X_fieldAddr Tryz.underlying58 rfl Tryz.sizeOf3 rfl rfl) <| lp rfl rfl (X_loadB Tryz.isAgg3 (Blk.ext k41 e44) rfl rfl) <| lp rfl rfl (X_eql rfl rfl) <| lp rfl rfl (xm (.bool (decide (((gt a0 x13_8).kind) = 3))) rfl) <| L_grp 4 [(25, 29)] 28 (.bool ((decide (((gt a0 x13_8).kind) = 3)) && (!((gt a0 x13_8).opq)))) ?_ ?_
    ·rcases bool_two (decide (((gt a0 x13_8).kind) = 3)) with b44_ | b44_
     ·exact lg rfl rfl rfl rfl (cb b44_) (X_fieldAddr Tryz.underlying58 rfl Tryz.sizeOf4 rfl rfl) <| lg rfl rfl rfl rfl (cb b44_) (X_loadB Tryz.isAgg4 (Blk.ext k41 e44) rfl rfl) <| lg rfl rfl rfl rfl (cb b44_) (X_not rfl) <| lp rfl rfl (X_pick (b := true) (v := (.bool (!((gt a0 x13_8).opq)))) (cb b44_) rfl) <| nx ⟨(ku4 kz rfl), (and_t b44_), er⟩
     ·exact ls rfl rfl rfl (cb b44_) rfl <| ls rfl rfl rfl (cb b44_) rfl <| ls rfl rfl rfl (cb b44_) rfl <| lp rfl rfl (X_pick (b := false) (v := (.bool false)) (cb b44_) rfl) <| nx ⟨(ku4 kz rfl), (and_f b44_), er⟩
    intro s50 w46 K47 h48 e49
    refine lp rfl rfl (X_move h48) <| L_grp 3 [(30, 33)] 32 (.bool (((decide (((gt a0 x13_8).kind) = 3)) && (!((gt a0 x13_8).opq))) && (decide (0 ≤ (findN x5_6 ((gt a0 x13_8).path)))))) ?_ ?_
    ·rcases bool_two ((decide (((gt a0 x13_8).kind) = 3)) && (!((gt a0 x13_8).opq))) with b50_ | b50_
     ·exact lg rfl rfl rfl rfl (cb b50_) (xm (.int .i64 (findN x5_6 ((gt a0 x13_8).path))) (K47 8 rfl)) <| lg rfl rfl rfl rfl (cb b50_) (X_geq rfl rfl) <| lp rfl rfl (X_pick (b := true) (v := (.bool (decide (0 ≤ (findN x5_6 ((gt a0 x13_8).path)))))) (cb b50_) rfl) <| nx ⟨(ku3 kz rfl), (and_t b50_), er⟩
     ·exact ls rfl rfl rfl (cb b50_) rfl <| ls rfl rfl rfl (cb b50_) rfl <| lp rfl rfl (X_pick (b := false) (v := (.bool false)) (cb b50_) rfl) <| nx ⟨(ku3 kz rfl), (and_f b50_), er⟩
    intro s56 w52 K53 h54 e55
    refine lp rfl rfl (X_move h54) ?_
    obtain ⟨z58, x59, H⟩ := bind_some H
    refine L_grpE 7 [(34, 41)] 40 (fun q => q = z58) ?_ ?_
    ·rcases bif_two x59 with ⟨b56_, H⟩ | ⟨b56_, H⟩
     ·refine lg rfl rfl rfl rfl (cb b56_) (xm v7 ((K53 5 rfl).trans ((K47 5 rfl).trans h24))) <| lg rfl rfl rfl rfl (cb b56_) (xm (.int .i64 (findN x5_6 ((gt a0 x13_8).path))) ((K53 8 rfl).trans (K47 8 rfl))) ?_
      obtain ⟨c58, H⟩ := bif_some H
      refine L_idx (tg rfl rfl rfl (cb b56_)) rfl (ltb rfl) rfl Tryz.underlying29 Tryz.sizeOf60 rfl (Ow.rd (Ow.ext h25 (Ext.trans (Ext.trans (Ext.trans (Below.trans e37 (Wr.below h40 (Nat.le_of_eq z35))) e44) e49) e55))) rfl c58 <| fun p59 h60 => lg rfl rfl rfl rfl (cb b56_) (X_fieldAddr Tryz.underlying60 rfl Tryz.sizeOf3 rfl rfl) <| lg rfl rfl rfl rfl (cb b56_) (X_loadF Tryz.isAgg3 (j := 0) h60 rfl rfl) <| lg rfl rfl rfl rfl (cb b56_) (X_eql rfl rfl) <| lp rfl rfl (X_pick (b := true) (v := (.bool (decide (((gt x5_6 (findN x5_6 ((gt a0 x13_8).path))).kind) = 3)))) (cb b56_) rfl) ?_
      obtain rfl := si H
      exact nx ⟨(ku3 (ku4 kz rfl) rfl), ⟨_, rfl, rfl⟩, er⟩
     ·refine ls rfl rfl rfl (cb b56_) rfl <| ls rfl rfl rfl (cb b56_) rfl <| ls rfl rfl rfl (cb b56_) rfl <| ls rfl rfl rfl (cb b56_) rfl <| ls rfl rfl rfl (cb b56_) rfl <| ls rfl rfl rfl (cb b56_) rfl <| lp rfl rfl (X_pick (b := false) (v := (.bool false)) (cb b56_) rfl) ?_
      obtain rfl := si H
      exact nx ⟨(ku3 (ku4 kz rfl) rfl), ⟨_, rfl, rfl⟩, er⟩
    intro s64 w60 z65 K61 hq h62 e63
    rw [hq] at h62; clear hq
    refine nx ?_
    rcases bif_two H with ⟨q66, H⟩ | ⟨q66, H⟩
    ·refine W_true (h62.trans (cb q66)) <| wr <| lp rfl rfl (xm v7 ((K61 5 rfl).trans ((K53 5 rfl).trans ((K47 5 rfl).trans h24)))) <| lp rfl rfl (xm (.int .i64 (findN x5_6 ((gt a0 x13_8).path))) ((K61 8 rfl).trans ((K53 8 rfl).trans (K47 8 rfl)))) <| lp rfl rfl (X_fieldAddr Tryz.underlying58 rfl Tryz.sizeOf3 rfl ((K61 7 rfl).trans ((K53 7 rfl).trans (K47 7 rfl)))) <| lp rfl rfl (X_loadB Tryz.isAgg3 (Blk.ext k41 (((e44.t e49).t e55).t e63)) rfl rfl) ?_
     obtain ⟨c69, H⟩ := bif_some H
     refine L_idxO (.plain rfl) rfl (ltb rfl) rfl Tryz.underlying29 Tryz.sizeOf60 rfl (Ow.ext h25 (Ext.trans (Ext.trans (Ext.trans (Ext.trans (Below.trans e37 (Wr.below h40 (Nat.le_of_eq z35))) e44) e49) e55) e63)) rfl c69 <| fun p67 h68 => lp rfl rfl (X_fieldAddr Tryz.underlying60 rfl Tryz.sizeOf3 rfl rfl) <| L_storeO (a := (⟨(gt x5_6 (findN x5_6 ((gt a0 x13_8).path))).kind, (gt x5_6 (findN x5_6 ((gt a0 x13_8).path))).path, (gt x5_6 (findN x5_6 ((gt a0 x13_8).path))).body, (gt a0 x13_8).mode⟩ : Nd)) (vs := [(.int .i64 ((gt a0 x13_8).mode))]) (off := 3) (.plain rfl) rfl rfl Tryz.sizeOf3 rfl h68 rfl rfl rfl rfl rfl rfl <| fun b70 w71 h72 h73 h74 o75 => nx <| W_exit <| thn_x <| blk_x <| thn_n <| W_reg <| lp rfl rfl (X_add ((K61 13 rfl).trans ((K53 13 rfl).trans ((K47 13 rfl).trans h26))) rfl) <| lp rfl rfl (xm (.int .i64 (IntKind.wrap .i64 (x13_8 + 1))) rfl) <| nx ?_
     obtain rfl := si H
     exact ⟨_, Nat.lt_succ_self _, setI x5_6 (findN x5_6 ((gt a0 x13_8).path)) (⟨(gt x5_6 (findN x5_6 ((gt a0 x13_8).path))).kind, (gt x5_6 (findN x5_6 ((gt a0 x13_8).path))).path, (gt x5_6 (findN x5_6 ((gt a0 x13_8).path))).body, (gt a0 x13_8).mode⟩ : Nd), v7, IntKind.wrap .i64 (x13_8 + 1), (ku8 (Kp.cut (ku1 (Kp.cut (ku1 (Kp.cut (ku1 (ku4 (ku8 K21 rfl) rfl) rfl) K47 rfl) rfl) K53 rfl) rfl) K61 rfl) rfl), ((K61 5 rfl).trans ((K53 5 rfl).trans ((K47 5 rfl).trans h24))), o75, rfl, (Ext.wr (((((e22.t (Below.trans e37 (Wr.below h40 (Nat.le_of_eq z35)))).t e44).t e49).t e55).t e63) h74 h73 (Nat.le_refl _)), S28⟩
    ·refine W_false (h62.trans (cb q66)) <| W_skip <| thn_n <| wr <| lp rfl rfl (xm v7 ((K61 5 rfl).trans ((K53 5 rfl).trans ((K47 5 rfl).trans h24)))) <| lp rfl rfl (X_fieldAddr Tryz.underlying58 rfl Tryz.sizeOf9 rfl ((K61 7 rfl).trans ((K53 7 rfl).trans (K47 7 rfl)))) <| lp rfl rfl (X_loadB Tryz.isAgg9 (Blk.ext k41 (((e44.t e49).t e55).t e63)) rfl rfl) ?_
     obtain ⟨c76, H⟩ := bif_some H
     obtain ⟨c77, H⟩ := bif_some H
     refine L_callO (.plain rfl) rfl (ltb rfl) rfl Tryz.call169 (impl_removed.calls (w := w60) (a0 := x5_6) (a1 := (gt a0 x13_8).path) (Ow.rd (Ow.ext h25 (Ext.trans (Ext.trans (Ext.trans (Ext.trans (Below.trans e37 (Wr.below h40 (Nat.le_of_eq z35))) e44) e49) e55) e63))) (od c76) (od c77)) rfl <| fun v80 w78 e79 o81 => lp rfl rfl (xa v80 rfl) <| nx <| wr <| lp rfl rfl (X_fieldAddr Tryz.underlying58 rfl Tryz.sizeOf3 rfl ((K61 7 rfl).trans ((K53 7 rfl).trans (K47 7 rfl)))) <| lp rfl rfl (X_loadB Tryz.isAgg3 (Blk.ext k41 ((((e44.t e49).t e55).t e63).t e79)) rfl rfl) <| lp rfl rfl (X_neq rfl rfl) <| nx ?_
     rcases bif_two H with ⟨q82, H⟩ | ⟨q82, H⟩
     ·refine W_true (cb q82) <| W_reg <| lp rfl rfl (xm v80 rfl) <| lp rfl rfl (X_loadS Tryz.isAgg58 Tryz.sizeOf58 rfl ((K61 7 rfl).trans ((K53 7 rfl).trans (K47 7 rfl))) (Blk.at0 (Blk.ext k41 ((((e44.t e49).t e55).t e63).t e79)))) <| lc rfl rfl rfl Tryz.call211 (impl_Record_node.calls (w := w78) (a0 := (gt a0 x13_8))) rfl <| fun w83 e84 => ?_
      obtain ⟨c85, H⟩ := bif_some H
      obtain ⟨c86, H⟩ := bif_some H
      obtain ⟨c87, H⟩ := bif_some H
      obtain ⟨c88, H⟩ := bif_some H
      refine L_callO (.plain rfl) rfl (ltb rfl) rfl Tryz.call157 (impl_place.calls (w := w83) (a0 := (without x5_6 ((gt a0 x13_8).path) true)) (a1 := (ndOf (gt a0 x13_8))) (GV.ext gv (((((((e22.t (Below.trans e37 (Wr.below h40 (Nat.le_of_eq z35)))).t e44).t e49).t e55).t e63).t e79).t e84)) (Ow.rd (Ow.ext o81 e84)) (od c85) (od c86) (od c87) (od c88)) rfl <| fun v91 w89 e90 o92 => lp rfl rfl (xa v91 rfl) <| L_nil <| blk_n <| thn_n <| W_reg <| lp rfl rfl (X_add ((K61 13 rfl).trans ((K53 13 rfl).trans ((K47 13 rfl).trans h26))) rfl) <| lp rfl rfl (xm (.int .i64 (IntKind.wrap .i64 (x13_8 + 1))) rfl) <| nx ?_
      obtain rfl := si H
      exact ⟨_, Nat.lt_succ_self _, (placeL (without x5_6 ((gt a0 x13_8).path) true) (ndOf (gt a0 x13_8))), v91, IntKind.wrap .i64 (x13_8 + 1), (ku3 (ku4 (ku8 (Kp.cut (ku1 (Kp.cut (ku1 (Kp.cut (ku1 (ku4 (ku8 K21 rfl) rfl) rfl) K47 rfl) rfl) K53 rfl) rfl) K61 rfl) rfl) rfl) rfl), rfl, (Ow.base o92 (((((((e22.t (Below.trans e37 (Wr.below h40 (Nat.le_of_eq z35)))).t e44).t e49).t e55).t e63).t e79).t e84).size), rfl, ((((((((e22.t (Below.trans e37 (Wr.below h40 (Nat.le_of_eq z35)))).t e44).t e49).t e55).t e63).t e79).t e84).t e90), S28⟩
     ·refine W_false (cb q82) <| W_skip <| blk_n <| thn_n <| W_reg <| lp rfl rfl (X_add ((K61 13 rfl).trans ((K53 13 rfl).trans ((K47 13 rfl).trans h26))) rfl) <| lp rfl rfl (xm (.int .i64 (IntKind.wrap .i64 (x13_8 + 1))) rfl) <| nx ?_
      obtain rfl := si H
      exact ⟨_, Nat.lt_succ_self _, (without x5_6 ((gt a0 x13_8).path) true), v80, IntKind.wrap .i64 (x13_8 + 1), (ku2 (ku8 (Kp.cut (ku1 (Kp.cut (ku1 (Kp.cut (ku1 (ku4 (ku8 K21 rfl) rfl) rfl) K47 rfl) rfl) K53 rfl) rfl) K61 rfl) rfl) rfl), rfl, (Ow.base o81 (((((e22.t (Below.trans e37 (Wr.below h40 (Nat.le_of_eq z35)))).t e44).t e49).t e55).t e63).size), rfl, ((((((e22.t (Below.trans e37 (Wr.below h40 (Nat.le_of_eq z35)))).t e44).t e49).t e55).t e63).t e79), S28⟩
   ·refine W_false (cb q29) <| W_exit <| thn_x <| thn_x <| blk_x <| thn_n ?_
    obtain rfl := si H
    obtain rfl := si S28
    exact ⟨x5_6, v7, (ku1 K21 rfl), h24, h25, e22, rfl⟩
 ·rintro s15 w14 ⟨x5_12, v13, K16, h93, h94, e17, y95⟩
  rw [y95] at C11
  have H := C11
  replace H : _ = some _ := H
  refine thn_n <| wr <| lp rfl rfl (X_move h93) <| lp rfl rfl (xa v13 rfl) <| nx <| W_ret <| fin_r ?_
  obtain rfl := si H
  exact fin1o rfl e17 h94 (er).size
/-! impl.Apply -/
theorem impl_Apply.walk {w : World} {a0 : List Rec} {a1 : List Nd} (gv : GV 0 w) {v_a0 : Value} (f_a0 : Rd 5 encRec w v_a0 a0) {v_a1 : Value} (f_a1 : Rd 4 encNd w v_a1 a1) {r : List Nd × Int} (H : impl_Apply.sh a0 a1 = some r) :
  Calls Tryz.prog 34 #[v_a0, v_a1] w (Rt (RT 60 4 encNd w r.1 (.int .i64 r.2))) := by
 unfold impl_Apply.sh at H
 refine calls_of_W Tryz.func34 rfl (Nat.le_of_ble_eq_true rfl) Tryz.ntmps34 rfl ?_
 refine wr <| lp rfl rfl (xa (.slice none 0 0) rfl) <| lp rfl rfl (xa (.int .i64 0) rfl) <| nx <| W_seq <| wr <| lp rfl rfl (xm v_a0 rfl) <| lc rfl rfl rfl Tryz.call126 (impl_isLongListR.calls (w := w) (a0 := a0) f_a0) rfl <| fun w1 e2 => lp rfl rfl (xm (.bool (decide (4096 < a0.length))) rfl) <| L_grp 3 [(11, 14)] 13 (.bool ((decide (4096 < a0.length)) || (decide (4096 < a1.length)))) ?_ ?_
 ·rcases bool_two (decide (4096 < a0.length)) with b2_ | b2_
  ·exact ls rfl rfl rfl (cb b2_) rfl <| ls rfl rfl rfl (cb b2_) rfl <| lp rfl rfl (X_pick (b := true) (v := (.bool true)) (cb b2_) rfl) <| nx ⟨(ku3 kz rfl), (or_t b2_), er⟩
  ·exact lg rfl rfl rfl rfl (cb b2_) (xm v_a1 rfl) <| L_callP (tg rfl rfl rfl (cb b2_)) rfl (ltb rfl) rfl Tryz.call127 (impl_isLongListN.calls (w := w1) (a0 := a1) (Rd.ext f_a1 e2)) rfl <| fun w4 e5 => lp rfl rfl (X_pick (b := false) (v := (.bool (decide (4096 < a1.length)))) (cb b2_) rfl) <| nx ⟨(ku3 kz rfl), (or_f b2_), e5⟩
 intro s8 w4 K5 h6 e7
 refine lp rfl rfl (X_mkiface Tryz.underlying4 rfl h6) <| lp rfl rfl (X_mkiface Tryz.underlying3 rfl rfl) <| lp rfl rfl (xm v_a0 (K5 0 rfl)) ?_
 obtain ⟨c9, H⟩ := bif_some H
 obtain ⟨c10, H⟩ := bif_some H
 refine lc rfl rfl rfl Tryz.call50 (impl_LayerOK.calls (w := w4) (a0 := a0) (GV.ext gv (e2.t e7)) (Rd.ext f_a0 (e2.t e7)) (od c9) (od c10)) rfl <| fun w11 e12 => lp rfl rfl (X_not rfl) <| lp rfl rfl (xm (.bool (!(decide ((layerFaultL a0).2 = 0)))) rfl) ?_
 obtain ⟨z14, x15, H⟩ := bind_some H
 refine L_grpE 4 [(20, 24)] 23 (fun q => q = z14) ?_ ?_
 ·rcases bif_two x15 with ⟨b12_, H⟩ | ⟨b12_, H⟩
  ·refine ls rfl rfl rfl (cb b12_) rfl <| ls rfl rfl rfl (cb b12_) rfl <| ls rfl rfl rfl (cb b12_) rfl <| lp rfl rfl (X_pick (b := true) (v := (.bool true)) (cb b12_) rfl) ?_
   obtain rfl := si H
   exact nx ⟨(ku4 kz rfl), ⟨_, rfl, rfl⟩, er⟩
  ·refine lg rfl rfl rfl rfl (cb b12_) (xm v_a1 (K5 1 rfl)) ?_
   obtain ⟨c14, H⟩ := bif_some H
   obtain ⟨c15, H⟩ := bif_some H
   refine L_callP (tg rfl rfl rfl (cb b12_)) rfl (ltb rfl) rfl Tryz.call43 (impl_TreeOK.calls (w := w11) (a0 := a1) (GV.ext gv ((e2.t e7).t e12)) (Rd.ext f_a1 ((e2.t e7).t e12)) (od c14) (od c15)) rfl <| fun w16 e17 => lg rfl rfl rfl rfl (cb b12_) (X_not rfl) <| lp rfl rfl (X_pick (b := false) (v := (.bool (!(treeOK a1)))) (cb b12_) rfl) ?_
   obtain rfl := si H
   exact nx ⟨(ku4 kz rfl), ⟨_, rfl, rfl⟩, e17⟩
 intro s20 w16 z21 K17 hq h18 e19
 rw [hq] at h18; clear hq
 refine lp rfl rfl (X_mkiface Tryz.underlying4 rfl h18) <| lp rfl rfl (X_mkiface Tryz.underlying3 rfl rfl) <| L_lit (.plain rfl) rfl (ltb rfl) rfl Tryz.underlying171 Tryz.sizeOf20 Tryz.zeroValue20 rfl rfl rfl (vs := [(.iface 4 (.bool ((decide (4096 < a0.length)) || (decide (4096 < a1.length))))), (.iface 3 (.int .i64 2)), (.iface 4 (.bool z14)), (.iface 3 (.int .i64 1))]) (cons2 (K17 14 rfl) (cons2 (K17 15 rfl) (cons2 rfl (cons2 rfl rfl)))) (lit_all rfl) <| fun b22 w23 z24 z25 e26 k27 => ?_
 obtain ⟨c28, H⟩ := bif_some H
 obtain ⟨z31, x32, H⟩ := bind_some H
 replace x32 := si x32
 refine lc rfl rfl rfl Tryz.call125 (impl_first.calls (w := w23) (a0 := ([.inl ((decide (4096 < a0.length)) || (decide (4096 < a1.length))), .inr 2, .inl z14, .inr 1] : List (Bool ⊕ Int))) (Ow.rd (Ow.new (xs := [.inl ((decide (4096 < a0.length)) || (decide (4096 < a1.length))), .inr 2, .inl z14, .inr 1]) (sz := 1) (enc := (encAny 4 3)) (base := w16.heap.size) k27 (Nat.le_of_eq z24) rfl (fun _ _ => by first | rfl | exact encAny_len _ _ _) (Nat.le_of_ble_eq_true rfl))) (od c28)) rfl <| fun w29 e30 => lp rfl rfl (xa (.int .i64 z31) (congrArg (Value.int .i64) x32)) <| nx <| wr <| lp rfl rfl (xm (.int .i64 z31) rfl) <| lp rfl rfl (X_neq rfl rfl) <| nx ?_
 rcases bif_two H with ⟨q33, H⟩ | ⟨q33, H⟩
 ·refine W_true (cb q33) <| wr <| lp rfl rfl (xm (.int .i64 z31) rfl) <| lp rfl rfl (xa (.slice none 0 0) rfl) <| lp rfl rfl (xa (.int .i64 z31) rfl) <| nx <| W_ret <| thn_r <| fin_r ?_
  obtain rfl := si H
  exact fin2o rfl rfl (((((e2.t e7).t e12).t e19).t e26).t e30) (Ow.zero (base := w.heap.size)) (Nat.le_refl _)
 ·refine W_false (cb q33) <| W_skip <| thn_n <| wr <| lp rfl rfl (xm v_a0 ((K17 0 rfl).trans (K5 0 rfl))) <| lp rfl rfl (xm v_a1 ((K17 1 rfl).trans (K5 1 rfl))) ?_
  obtain ⟨c34, H⟩ := bif_some H
  obtain ⟨c35, H⟩ := bif_some H
  obtain ⟨c36, H⟩ := bif_some H
  refine L_callO (.plain rfl) rfl (ltb rfl) rfl Tryz.call128 (impl_apply.calls (w := w29) (a0 := a0) (a1 := a1) (GV.ext gv (((((e2.t e7).t e12).t e19).t e26).t e30)) (Rd.ext f_a0 (((((e2.t e7).t e12).t e19).t e26).t e30)) (Rd.ext f_a1 (((((e2.t e7).t e12).t e19).t e26).t e30)) (od c34) (od c35) (od c36)) rfl <| fun v39 w37 e38 o40 => lp rfl rfl (xa v39 rfl) <| nx <| W_seq <| wr <| lp rfl rfl (xm v39 rfl) <| lp rfl rfl (X_lenR Tryz.underlying29 rfl (Ow.rd o40)) <| lp rfl rfl (X_gtr rfl rfl) <| nx ?_
  rcases bif_two H with ⟨q41, H⟩ | ⟨q41, H⟩
  ·refine W_true (cb q41) <| wr <| lp rfl rfl (xa (.slice none 0 0) rfl) <| lp rfl rfl (xa (.int .i64 7) rfl) <| nx <| W_ret <| thn_r <| fin_r ?_
   obtain rfl := si H
   exact fin2o rfl rfl ((((((e2.t e7).t e12).t e19).t e26).t e30).t e38) (Ow.zero (base := w.heap.size)) (Nat.le_refl _)
  ·refine W_false (cb q41) <| W_skip <| thn_n <| wr <| lp rfl rfl (xm v39 rfl) <| lp rfl rfl (xa v39 rfl) <| lp rfl rfl (xa (.int .i64 0) rfl) <| nx <| W_ret <| fin_r ?_
   obtain rfl := si H
   exact fin2o rfl rfl ((((((e2.t e7).t e12).t e19).t e26).t e30).t e38) o40 ((((((e2.t e7).t e12).t e19).t e26).t e30)).size
theorem impl_Apply.calls {w : World} {a0 : List Rec} {a1 : List Nd} (gv : GV 0 w) {v_a0 : Value} (f_a0 : Rd 5 encRec w v_a0 a0) {v_a1 : Value} (f_a1 : Rd 4 encNd w v_a1 a1) (h0 : a0.length ≤ 1048576) (h1 : a1.length ≤ 1048576) (h2 : ∀ x ∈ a0, x.path.length ≤ 1048576) (h3 : ∀ x ∈ a1, x.path.length ≤ 1048576) :
  Calls Tryz.prog 34 #[v_a0, v_a1] w (Rt (RT 60 4 encNd w ((applyOf a0 a1).1) (.int .i64 ((applyOf a0 a1).2)))) := impl_Apply.walk gv f_a0 f_a1 (impl_Apply.eq a0 a1 h0 h1 h2 h3)
/-! spec.l00Source -/
theorem spec_l00Source.walk {w : World} {a0 : List Int} {v_a0 : Value} (f_a0 : Rd 1 (Go.UL.encI .u8) w v_a0 a0) {r : DSrc} (H : spec_l00Source.sh a0 = some r) :
  Calls Tryz.prog 103 #[v_a0] w (Rt (RSN 162 v_a0 w r)) := by
 unfold spec_l00Source.sh at H
 refine calls_of_W Tryz.func103 rfl (Nat.le_of_ble_eq_true rfl) Tryz.ntmps103 rfl ?_
 refine wr <| lp rfl rfl (X_assign rfl) <| nx <| wr <| lp rfl rfl (xm v_a0 rfl) <| lp rfl rfl (xm v_a0 rfl) <| lp rfl rfl (X_lenR Tryz.underlying22 rfl f_a0) <| lp rfl rfl (X_rem rfl rfl (by decide)) <| lp rfl rfl (X_build1 (vs := [(0, v_a0), (2, (.int .i64 ((a0.length : Int).tmod 1000)))]) (pl := #[(0, 1), (1, 1), (2, 1)]) Tryz.underlying162 Tryz.zeroValue162 rfl (fun _ => by kernel_rfl) rfl rfl (by obtain ⟨A9, c9, e9⟩ := Rd.shape f_a0; rw [e9]; rfl)) <| L_box (.plain rfl) rfl (ltb rfl) rfl rfl <| fun b1 w2 z3 z4 e5 k6 => lp rfl rfl (xa (.pointer (some ⟨b1, 0, none⟩)) rfl) <| nx <| W_ret <| fin_r ?_
 obtain rfl := si H
 exact fin1sn rfl e5 (Nat.le_trans (er).size (Nat.le_of_eq z3)) k6
theorem spec_l00Source.calls {w : World} {a0 : List Int} {r : DSrc} {v_a0 : Value} (f_a0 : Rd 1 (Go.UL.encI .u8) w v_a0 a0) (H : (spec_l00Source.sh a0) = some r) :
  Calls Tryz.prog 103 #[v_a0] w (Rt (RSN 162 v_a0 w r)) := spec_l00Source.walk f_a0 (spec_l00Source.eq a0 H)
/-! (*spec.l00Src).byte -/
abbrev draw_byte.e1 (a1 : DSrc) := (IntKind.wrap .i64 ((IntKind.wrap .i64 (a1.pos + 1)) - 1))
abbrev draw_byte.e2 (a0 : List Int) (a1 : DSrc) := (IntKind.wrap .i64 ((IntKind.wrap .i64 (a1.seed * 31)) + (IntKind.wrap .i64 (gt a0 (draw_byte.e1 a1)))))
theorem draw_byte.walk {w : World} {a0 : List Int} {a1 : DSrc} {wc : World} {cv : Value} {bs : Nat} (kc : Ext wc w) (fc : Rd 1 (Go.UL.encI .u8) wc cv a0) (hz : wc.heap.size ≤ bs) (ks : Blk w bs (encSrc cv a1).toArray 162) {r : Int × DSrc} (H : draw_byte.sh a0 a1 = some r) :
  Calls Tryz.prog 255 #[.pointer (some ⟨bs, 0, none⟩)] w (Rt (RS 162 bs cv w (.int .i64 r.1) r.2)) := by
 unfold draw_byte.sh at H
 refine calls_of_W Tryz.func255 rfl (Nat.le_of_ble_eq_true rfl) Tryz.ntmps255 rfl ?_
 refine wr <| lp rfl rfl (xa (.int .i64 0) rfl) <| nx <| wr <| lp rfl rfl (xm (.pointer (some ⟨bs, 0, none⟩)) rfl) <| lp rfl rfl (X_nil rfl) <| lp rfl rfl (X_fieldAddr Tryz.underlying162 rfl Tryz.sizeOf3 rfl rfl) <| lp rfl rfl (X_loadB Tryz.isAgg3 ks rfl rfl) <| lp rfl rfl (X_add rfl rfl) <| lp rfl rfl (X_nil rfl) <| lp rfl rfl (X_fieldAddr Tryz.underlying162 rfl Tryz.sizeOf3 rfl rfl) <| L_store1 (.plain rfl) rfl rfl Tryz.sizeOf3 rfl rfl rfl ks (ltb rfl) <| fun w1 h2 k3 => nx <| W_seq <| W_seq ?_
 refine W_dM [LEq (.pointer (some ⟨bs, 0, none⟩)), LEq (.pointer (some ⟨bs, 0, none⟩)), LEq (.pointer (some ⟨bs, 1, none⟩)), LEq (.int .i64 (IntKind.wrap .i64 (a1.pos + 1))), LEq (.pointer (some ⟨bs, 0, none⟩)), LEq (.pointer (some ⟨bs, 0, none⟩)), LEq (.pointer (some ⟨bs, 0, none⟩)), LRd 1 (Go.UL.encI .u8) a0, LEq (.int .i64 (a0.length : Int)), LEq (.bool (decide ((IntKind.wrap .i64 (a1.pos + 1)) ≤ (a0.length : Int))))] (by kernel_rfl) (by kernel_rfl) ⟨qm, qm, qm, qm, qm, qm, qm, LRd.mono, qm, qm, trivial⟩ ⟨?_, ?_, ?_, ?_, ?_, ?_, ?_, ?_, ?_, ?_, trivial⟩ ?_
 ·exact fun s x e f d u => lp rfl rfl (xm (.pointer (some ⟨bs, 0, none⟩)) (f 0 rfl)) <| se rfl rfl
 ·exact fun s x e f d u => lp rfl rfl (X_nil (d 0 rfl)) <| se rfl rfl
 ·exact fun s x e f d u => lp rfl rfl (X_fieldAddr Tryz.underlying162 rfl Tryz.sizeOf3 rfl (d 1 rfl)) <| se rfl rfl
 ·exact fun s x e f d u => lp rfl rfl (X_loadB Tryz.isAgg3 (Blk.ext k3 e) (d 2 rfl) rfl) <| se rfl rfl
 ·exact fun s x e f d u => lp rfl rfl (xm (.pointer (some ⟨bs, 0, none⟩)) (f 0 rfl)) <| se rfl rfl
 ·exact fun s x e f d u => lp rfl rfl (X_nil (d 4 rfl)) <| se rfl rfl
 ·exact fun s x e f d u => lp rfl rfl (X_fieldAddr Tryz.underlying162 rfl Tryz.sizeOf22 rfl (d 5 rfl)) <| se rfl rfl
 ·exact fun s x e f d u => lp rfl rfl (X_loadB Tryz.isAgg22 (Blk.ext k3 e) (d 6 rfl) rfl) <| se rfl (Rd.ext fc (Ext.trans (Below.trans kc (Below.mono (Wr.below h2 hz) (Nat.le_refl _))) e))
 ·intro s x e f d u
  have d4 : Rd 1 (Go.UL.encI .u8) x (s 17) a0 := (d 7 rfl)
  exact lp rfl rfl (X_lenR Tryz.underlying22 rfl d4) <| se rfl rfl
 ·exact fun s x e f d u => lp rfl rfl (X_leq (d 3 rfl) (d 8 rfl)) <| se rfl rfl
 intro s5 w6 e7 hf8 ha9
 have K10 := Kp.ofD (kp := [(10, 20)]) rfl hf8
 have d11 : s5 19 = (.bool (decide ((IntKind.wrap .i64 (a1.pos + 1)) ≤ (a0.length : Int)))) := ha9 9 rfl
 clear ha9 hf8
 refine thn_n ?_
 rcases bif_two H with ⟨q12, H⟩ | ⟨q12, H⟩
 ·refine W_true (d11.trans (cb q12)) <| W_seq ?_
  obtain ⟨c13, H⟩ := bif_some H
  refine W_dN 22 [LEq (.pointer (some ⟨bs, 0, none⟩)), LEq (.pointer (some ⟨bs, 0, none⟩)), LEq (.pointer (some ⟨bs, 0, none⟩)), LEq (.pointer (some ⟨bs, 2, none⟩)), LEq (.int .i64 a1.seed), LEq (.int .i64 (IntKind.wrap .i64 (a1.seed * 31))), LEq (.pointer (some ⟨bs, 0, none⟩)), LEq (.pointer (some ⟨bs, 0, none⟩)), LEq (.pointer (some ⟨bs, 0, none⟩)), LRd 1 (Go.UL.encI .u8) a0, LEq (.pointer (some ⟨bs, 0, none⟩)), LEq (.pointer (some ⟨bs, 0, none⟩)), LEq (.pointer (some ⟨bs, 1, none⟩)), LEq (.int .i64 (IntKind.wrap .i64 (a1.pos + 1))), LEq (.int .i64 (draw_byte.e1 a1)), LAt0 ((Go.UL.encI .u8) (gt a0 (draw_byte.e1 a1))), LEq (.int .u8 (gt a0 (draw_byte.e1 a1))), LEq (.int .i64 (IntKind.wrap .i64 (gt a0 (draw_byte.e1 a1)))), LEq (.int .i64 (draw_byte.e2 a0 a1)), LEq (.int .i64 (IntKind.wrap .i64 ((draw_byte.e2 a0 a1) + 7))), LEq (.int .i64 ((IntKind.wrap .i64 ((draw_byte.e2 a0 a1) + 7)).tmod 2147483648)), LEq (.pointer (some ⟨bs, 0, none⟩))] (by kernel_rfl) (by kernel_rfl) (by kernel_rfl) ⟨qm, qm, qm, qm, qm, qm, qm, qm, qm, LRd.mono, qm, qm, qm, qm, qm, LAt0.mono, qm, qm, qm, qm, qm, qm, trivial⟩ ⟨?_, ?_, ?_, ?_, ?_, ?_, ?_, ?_, ?_, ?_, ?_, ?_, ?_, ?_, ?_, ?_, ?_, ?_, ?_, ?_, ?_, ?_, trivial⟩ ?_
  ·exact fun s x e f d u => lp rfl rfl (xm (.pointer (some ⟨bs, 0, none⟩)) ((f 0 rfl).trans (K10 0 rfl))) <| se rfl rfl
  ·exact fun s x e f d u => lp rfl rfl (xm (.pointer (some ⟨bs, 0, none⟩)) ((f 0 rfl).trans (K10 0 rfl))) <| se rfl rfl
  ·exact fun s x e f d u => lp rfl rfl (X_nil (d 1 rfl)) <| se rfl rfl
  ·exact fun s x e f d u => lp rfl rfl (X_fieldAddr Tryz.underlying162 rfl Tryz.sizeOf3 rfl (d 2 rfl)) <| se rfl rfl
  ·exact fun s x e f d u => lp rfl rfl (X_loadB Tryz.isAgg3 (Blk.ext k3 (e7.t e)) (d 3 rfl) rfl) <| se rfl rfl
  ·exact fun s x e f d u => lp rfl rfl (X_mul (d 4 rfl) rfl) <| se rfl rfl
  ·exact fun s x e f d u => lp rfl rfl (xm (.pointer (some ⟨bs, 0, none⟩)) ((f 0 rfl).trans (K10 0 rfl))) <| se rfl rfl
  ·exact fun s x e f d u => lp rfl rfl (X_nil (d 6 rfl)) <| se rfl rfl
  ·exact fun s x e f d u => lp rfl rfl (X_fieldAddr Tryz.underlying162 rfl Tryz.sizeOf22 rfl (d 7 rfl)) <| se rfl rfl
  ·exact fun s x e f d u => lp rfl rfl (X_loadB Tryz.isAgg22 (Blk.ext k3 (e7.t e)) (d 8 rfl) rfl) <| se rfl (Rd.ext fc (Ext.trans (Ext.trans (Below.trans kc (Below.mono (Wr.below h2 hz) (Nat.le_refl _))) e7) e))
  ·exact fun s x e f d u => lp rfl rfl (xm (.pointer (some ⟨bs, 0, none⟩)) ((f 0 rfl).trans (K10 0 rfl))) <| se rfl rfl
  ·exact fun s x e f d u => lp rfl rfl (X_nil (d 10 rfl)) <| se rfl rfl
  ·exact fun s x e f d u => lp rfl rfl (X_fieldAddr Tryz.underlying162 rfl Tryz.sizeOf3 rfl (d 11 rfl)) <| se rfl rfl
  ·exact fun s x e f d u => lp rfl rfl (X_loadB Tryz.isAgg3 (Blk.ext k3 (e7.t e)) (d 12 rfl) rfl) <| se rfl rfl
  ·exact fun s x e f d u => lp rfl rfl (X_sub (d 13 rfl) rfl) <| se rfl rfl
  ·intro s x e f d u
   have d16 : Rd 1 (Go.UL.encI .u8) x (s 29) a0 := (d 9 rfl)
   exact L_idx (.plain rfl) rfl (ltb rfl) rfl Tryz.underlying22 Tryz.sizeOf5 rfl d16 (d 14 rfl) c13 <| fun p18 h19 => se rfl ⟨_, rfl, h19⟩
  ·intro s x e f d u
   obtain ⟨p20, h21, h22⟩ := (d 15 rfl)
   exact lp rfl rfl (X_loadAt Tryz.isAgg5 h21 h22 rfl) <| se rfl rfl
  ·exact fun s x e f d u => lp rfl rfl (X_convInt Tryz.underlying5 Tryz.underlying3 (d 16 rfl)) <| se rfl rfl
  ·exact fun s x e f d u => lp rfl rfl (X_add (d 5 rfl) (d 17 rfl)) <| se rfl rfl
  ·exact fun s x e f d u => lp rfl rfl (X_add (d 18 rfl) rfl) <| se rfl rfl
  ·exact fun s x e f d u => lp rfl rfl (X_rem (d 19 rfl) rfl (by decide)) <| se rfl rfl
  ·exact fun s x e f d u => lp rfl rfl (X_nil (d 0 rfl)) <| se rfl rfl
  intro s23 w24 e25 hf26 ha27
  have K28 := Kp.ofD (kp := [(20, 42)]) rfl hf26
  have d29 : s23 40 = (.int .i64 ((IntKind.wrap .i64 ((draw_byte.e2 a0 a1) + 7)).tmod 2147483648)) := ha27 20 rfl
  have d30 : s23 41 = (.pointer (some ⟨bs, 0, none⟩)) := ha27 21 rfl
  clear ha27 hf26
  refine lp rfl rfl (X_fieldAddr Tryz.underlying162 rfl Tryz.sizeOf3 rfl d30) <| L_store1 (.plain rfl) rfl rfl Tryz.sizeOf3 rfl d29 rfl (Blk.ext k3 (e7.t e25)) (ltb rfl) <| fun w31 h32 k33 => nx <| W_seq ?_
  obtain ⟨c34, H⟩ := bif_some H
  refine W_dM [LEq (.pointer (some ⟨bs, 0, none⟩)), LEq (.pointer (some ⟨bs, 0, none⟩)), LEq (.pointer (some ⟨bs, 0, none⟩)), LRd 1 (Go.UL.encI .u8) a0, LEq (.pointer (some ⟨bs, 0, none⟩)), LEq (.pointer (some ⟨bs, 0, none⟩)), LEq (.pointer (some ⟨bs, 1, none⟩)), LEq (.int .i64 (IntKind.wrap .i64 (a1.pos + 1))), LEq (.int .i64 (draw_byte.e1 a1)), LAt0 ((Go.UL.encI .u8) (gt a0 (draw_byte.e1 a1))), LEq (.int .u8 (gt a0 (draw_byte.e1 a1))), LEq (.int .i64 (IntKind.wrap .i64 (gt a0 (draw_byte.e1 a1)))), LEq (.int .i64 (IntKind.wrap .i64 (gt a0 (draw_byte.e1 a1))))] (by kernel_rfl) (by kernel_rfl) ⟨qm, qm, qm, LRd.mono, qm, qm, qm, qm, qm, LAt0.mono, qm, qm, qm, trivial⟩ ⟨?_, ?_, ?_, ?_, ?_, ?_, ?_, ?_, ?_, ?_, ?_, ?_, ?_, trivial⟩ ?_
  ·exact fun s x e f d u => lp rfl rfl (xm (.pointer (some ⟨bs, 0, none⟩)) ((f 0 rfl).trans ((K28 0 rfl).trans (K10 0 rfl)))) <| se rfl rfl
  ·exact fun s x e f d u => lp rfl rfl (X_nil (d 0 rfl)) <| se rfl rfl
  ·exact fun s x e f d u => lp rfl rfl (X_fieldAddr Tryz.underlying162 rfl Tryz.sizeOf22 rfl (d 1 rfl)) <| se rfl rfl
  ·exact fun s x e f d u => lp rfl rfl (X_loadB Tryz.isAgg22 (Blk.ext k33 e) (d 2 rfl) rfl) <| se rfl (Rd.ext fc (Ext.trans (Below.trans (Ext.trans (Ext.trans (Below.trans kc (Below.mono (Wr.below h2 hz) (Nat.le_refl _))) e7) e25) (Below.mono (Wr.below h32 hz) (Nat.le_refl _))) e))
  ·exact fun s x e f d u => lp rfl rfl (xm (.pointer (some ⟨bs, 0, none⟩)) ((f 0 rfl).trans ((K28 0 rfl).trans (K10 0 rfl)))) <| se rfl rfl
  ·exact fun s x e f d u => lp rfl rfl (X_nil (d 4 rfl)) <| se rfl rfl
  ·exact fun s x e f d u => lp rfl rfl (X_fieldAddr Tryz.underlying162 rfl Tryz.sizeOf3 rfl (d 5 rfl)) <| se rfl rfl
  ·exact fun s x e f d u => lp rfl rfl (X_loadB Tryz.isAgg3 (Blk.ext k33 e) (d 6 rfl) rfl) <| se rfl rfl
  ·exact fun s x e f d u => lp rfl rfl (X_sub (d 7 rfl) rfl) <| se rfl rfl
  ·intro s x e f d u
   have d37 : Rd 1 (Go.UL.encI .u8) x (s 46) a0 := (d 3 rfl)
   exact L_idx (.plain rfl) rfl (ltb rfl) rfl Tryz.underlying22 Tryz.sizeOf5 rfl d37 (d 8 rfl) c34 <| fun p39 h40 => se rfl ⟨_, rfl, h40⟩
  ·intro s x e f d u
   obtain ⟨p41, h42, h43⟩ := (d 9 rfl)
   exact lp rfl rfl (X_loadAt Tryz.isAgg5 h42 h43 rfl) <| se rfl rfl
  ·exact fun s x e f d u => lp rfl rfl (X_convInt Tryz.underlying5 Tryz.underlying3 (d 10 rfl)) <| se rfl rfl
  ·exact fun s x e f d u => lp rfl rfl (X_assign (d 11 rfl)) <| se rfl rfl
  intro s44 w45 e46 hf47 ha48
  have K49 := Kp.ofD (kp := [(2, 3), (43, 55)]) rfl hf47
  have d50 : s44 2 = (.int .i64 (IntKind.wrap .i64 (gt a0 (draw_byte.e1 a1)))) := ha48 12 rfl
  clear ha48 hf47
  refine thn_n <| W_ret <| thn_r <| fin_r ?_
  obtain rfl := si H
  exact fin1s d50 (Gr.trans (Gr.trans (Gr.trans (Gr.trans (Gr.ofWr h2) (Gr.ext e7)) (Gr.ext e25)) (Gr.ofWr h32)) (Gr.ext e46)) (Blk.ext k33 e46)
 ·refine W_false (d11.trans (cb q12)) <| W_skip <| thn_n <| W_seq <| wr <| lp rfl rfl (xm (.pointer (some ⟨bs, 0, none⟩)) (K10 0 rfl)) <| lp rfl rfl (X_nil rfl) <| lp rfl rfl (X_fieldAddr Tryz.underlying162 rfl Tryz.sizeOf3 rfl rfl) <| lp rfl rfl (X_loadB Tryz.isAgg3 (Blk.ext k3 e7) rfl rfl) <| lp rfl rfl (X_gtr rfl rfl) <| nx ?_
  rcases bif_two H with ⟨q51, H⟩ | ⟨q51, H⟩
  ·refine W_true (cb q51) <| wr <| lp rfl rfl (xa (.int .i64 0) rfl) <| nx <| W_ret <| thn_r <| fin_r ?_
   obtain rfl := si H
   exact fin1s rfl (Gr.trans (Gr.ofWr h2) (Gr.ext e7)) (Blk.ext k3 e7)
  ·refine W_false (cb q51) <| W_skip <| thn_n <| wr <| lp rfl rfl (xm (.pointer (some ⟨bs, 0, none⟩)) (K10 0 rfl)) <| lp rfl rfl (xm (.pointer (some ⟨bs, 0, none⟩)) (K10 0 rfl)) <| lp rfl rfl (X_nil rfl) <| lp rfl rfl (X_fieldAddr Tryz.underlying162 rfl Tryz.sizeOf3 rfl rfl) <| lp rfl rfl (X_loadB Tryz.isAgg3 (Blk.ext k3 e7) rfl rfl) <| lp rfl rfl (X_mul rfl rfl) <| lp rfl rfl (X_add rfl rfl) <| lp rfl rfl (X_rem rfl rfl (by decide)) <| lp rfl rfl (X_nil rfl) <| lp rfl rfl (X_fieldAddr Tryz.underlying162 rfl Tryz.sizeOf3 rfl rfl) <| L_store1 (.plain rfl) rfl rfl Tryz.sizeOf3 rfl rfl rfl (Blk.ext k3 e7) (ltb rfl) <| fun w52 h53 k54 => nx <| wr <| lp rfl rfl (xm (.pointer (some ⟨bs, 0, none⟩)) (K10 0 rfl)) <| lp rfl rfl (X_nil rfl) <| lp rfl rfl (X_fieldAddr Tryz.underlying162 rfl Tryz.sizeOf3 rfl rfl) <| lp rfl rfl (X_loadB Tryz.isAgg3 k54 rfl rfl) <| lp rfl rfl (X_quo rfl rfl (by decide)) <| lp rfl rfl (X_rem rfl rfl (by decide)) <| lp rfl rfl (X_assign rfl) <| nx <| W_ret <| fin_r ?_
   obtain rfl := si H
   exact fin1s rfl (Gr.trans (Gr.trans (Gr.ofWr h2) (Gr.ext e7)) (Gr.ofWr h53)) k54
theorem draw_byte.calls {w : World} {a0 : List Int} {a1 : DSrc} {r : Int × DSrc} {wc : World} {cv : Value} {bs : Nat} (kc : Ext wc w) (fc : Rd 1 (Go.UL.encI .u8) wc cv a0) (hz : wc.heap.size ≤ bs) (ks : Blk w bs (encSrc cv a1).toArray 162) (H : (draw_byte.sh a0 a1) = some r) :
  Calls Tryz.prog 255 #[.pointer (some ⟨bs, 0, none⟩)] w (Rt (RS 162 bs cv w (.int .i64 r.1) r.2)) := draw_byte.walk kc fc hz ks (draw_byte.eq a0 a1 H)
/-! (*spec.l00Src).next -/
theorem draw_next.walk {w : World} {a0 : List Int} {a1 : DSrc} {a2 : Int} {wc : World} {cv : Value} {bs : Nat} (kc : Ext wc w) (fc : Rd 1 (Go.UL.encI .u8) wc cv a0) (hz : wc.heap.size ≤ bs) (ks : Blk w bs (encSrc cv a1).toArray 162) {r : Int × DSrc} (H : draw_next.sh a0 a1 a2 = some r) :
  Calls Tryz.prog 195 #[.pointer (some ⟨bs, 0, none⟩), .int .i64 a2] w (Rt (RS 162 bs cv w (.int .i64 r.1) r.2)) := by
 unfold draw_next.sh at H
 refine calls_of_W Tryz.func195 rfl (Nat.le_of_ble_eq_true rfl) Tryz.ntmps195 rfl ?_
 refine wr <| lp rfl rfl (xa (.int .i64 0) rfl) <| nx <| W_seq <| wr <| lp rfl rfl (xm (.int .i64 a2) rfl) <| lp rfl rfl (X_leq rfl rfl) <| nx ?_
 rcases bif_two H with ⟨q1, H⟩ | ⟨q1, H⟩
 ·refine W_true (cb q1) <| wr <| lp rfl rfl (xa (.int .i64 0) rfl) <| nx <| W_ret <| thn_r <| fin_r ?_
  obtain rfl := si H
  exact fin1s rfl (Gr.refl _ _ _) ks
 ·refine W_false (cb q1) <| W_skip <| thn_n <| W_seq <| wr <| lp rfl rfl (xm (.int .i64 a2) rfl) <| lp rfl rfl (X_leq rfl rfl) <| nx ?_
  rcases bif_two H with ⟨q2, H⟩ | ⟨q2, H⟩
  ·refine W_true (cb q2) <| wr <| lp rfl rfl (xm (.pointer (some ⟨bs, 0, none⟩)) rfl) ?_
   obtain ⟨z3, x4, H⟩ := bind_some H
   refine L_callS (.plain rfl) rfl (ltb rfl) rfl Tryz.call255 (draw_byte.calls (w := w) (a0 := a0) (a1 := a1) kc fc hz ks x4) rfl <| fun w7 g8 k9 => lp rfl rfl (xm (.int .i64 a2) rfl) ?_
   obtain ⟨c10, H⟩ := bif_some H
   refine lp rfl rfl (X_rem rfl rfl (od c10)) <| lp rfl rfl (xa (.int .i64 (z3.1.tmod a2)) rfl) <| nx <| W_ret <| thn_r <| fin_r ?_
   obtain rfl := si H
   exact fin1s rfl g8 k9
  ·refine W_false (cb q2) <| W_skip <| thn_n <| wr <| lp rfl rfl (xm (.pointer (some ⟨bs, 0, none⟩)) rfl) ?_
   obtain ⟨z11, x12, H⟩ := bind_some H
   refine L_callS (.plain rfl) rfl (ltb rfl) rfl Tryz.call255 (draw_byte.calls (w := w) (a0 := a0) (a1 := a1) kc fc hz ks x12) rfl <| fun w15 g16 k17 => lp rfl rfl (xa (.int .i64 z11.1) rfl) <| nx <| wr <| lp rfl rfl (xm (.pointer (some ⟨bs, 0, none⟩)) rfl) ?_
   obtain ⟨z18, x19, H⟩ := bind_some H
   refine L_callS (.plain rfl) rfl (ltb rfl) rfl Tryz.call255 (draw_byte.calls (w := w15) (a0 := a0) (a1 := z11.2) (Ext.gr kc g16 hz) fc hz k17 x19) rfl <| fun w22 g23 k24 => lp rfl rfl (xa (.int .i64 z18.1) rfl) <| nx <| wr <| lp rfl rfl (xm (.pointer (some ⟨bs, 0, none⟩)) rfl) ?_
   obtain ⟨z25, x26, H⟩ := bind_some H
   refine L_callS (.plain rfl) rfl (ltb rfl) rfl Tryz.call255 (draw_byte.calls (w := w22) (a0 := a0) (a1 := z18.2) (Ext.gr (Ext.gr kc g16 hz) g23 hz) fc hz k24 x26) rfl <| fun w29 g30 k31 => lp rfl rfl (xa (.int .i64 z25.1) rfl) <| nx <| wr <| lp rfl rfl (xm (.int .i64 z11.1) rfl) <| lp rfl rfl (X_mul rfl rfl) <| lp rfl rfl (xm (.int .i64 z18.1) rfl) <| lp rfl rfl (X_mul rfl rfl) <| lp rfl rfl (X_add rfl rfl) <| lp rfl rfl (xm (.int .i64 z25.1) rfl) <| lp rfl rfl (X_add rfl rfl) <| lp rfl rfl (xm (.int .i64 a2) rfl) ?_
   obtain ⟨c32, H⟩ := bif_some H
   refine lp rfl rfl (X_rem rfl rfl (od c32)) <| lp rfl rfl (X_assign rfl) <| nx <| W_ret <| fin_r ?_
   obtain rfl := si H
   exact fin1s rfl (Gr.trans (Gr.trans g16 g23) g30) k31
theorem draw_next.calls {w : World} {a0 : List Int} {a1 : DSrc} {a2 : Int} {r : Int × DSrc} {wc : World} {cv : Value} {bs : Nat} (kc : Ext wc w) (fc : Rd 1 (Go.UL.encI .u8) wc cv a0) (hz : wc.heap.size ≤ bs) (ks : Blk w bs (encSrc cv a1).toArray 162) (H : (draw_next.sh a0 a1 a2) = some r) :
  Calls Tryz.prog 195 #[.pointer (some ⟨bs, 0, none⟩), .int .i64 a2] w (Rt (RS 162 bs cv w (.int .i64 r.1) r.2)) := draw_next.walk kc fc hz ks (draw_next.eq a0 a1 a2 H)
/-! (*spec.l00Src).chance -/
theorem draw_chance.walk {w : World} {a0 : List Int} {a1 : DSrc} {a2 : Int} {wc : World} {cv : Value} {bs : Nat} (kc : Ext wc w) (fc : Rd 1 (Go.UL.encI .u8) wc cv a0) (hz : wc.heap.size ≤ bs) (ks : Blk w bs (encSrc cv a1).toArray 162) {r : Bool × DSrc} (H : draw_chance.sh a0 a1 a2 = some r) :
  Calls Tryz.prog 236 #[.pointer (some ⟨bs, 0, none⟩), .int .i64 a2] w (Rt (RS 162 bs cv w (.bool r.1) r.2)) := by
 unfold draw_chance.sh at H
 refine calls_of_W Tryz.func236 rfl (Nat.le_of_ble_eq_true rfl) Tryz.ntmps236 rfl ?_
 refine wr <| lp rfl rfl (xa (.bool false) rfl) <| nx <| wr <| lp rfl rfl (xm (.pointer (some ⟨bs, 0, none⟩)) rfl) <| lp rfl rfl (xm (.int .i64 a2) rfl) ?_
 obtain ⟨z1, x2, H⟩ := bind_some H
 refine L_callS (.plain rfl) rfl (ltb rfl) rfl Tryz.call195 (draw_next.calls (w := w) (a0 := a0) (a1 := a1) (a2 := a2) kc fc hz ks x2) rfl <| fun w5 g6 k7 => lp rfl rfl (xm (.int .i64 a2) rfl) <| lp rfl rfl (X_sub rfl rfl) <| lp rfl rfl (X_eql rfl rfl) <| lp rfl rfl (xa (.bool (decide (z1.1 = (IntKind.wrap .i64 (a2 - 1))))) rfl) <| nx <| W_ret <| fin_r ?_
 obtain rfl := si H
 exact fin1s rfl g6 k7
theorem draw_chance.calls {w : World} {a0 : List Int} {a1 : DSrc} {a2 : Int} {r : Bool × DSrc} {wc : World} {cv : Value} {bs : Nat} (kc : Ext wc w) (fc : Rd 1 (Go.UL.encI .u8) wc cv a0) (hz : wc.heap.size ≤ bs) (ks : Blk w bs (encSrc cv a1).toArray 162) (H : (draw_chance.sh a0 a1 a2) = some r) :
  Calls Tryz.prog 236 #[.pointer (some ⟨bs, 0, none⟩), .int .i64 a2] w (Rt (RS 162 bs cv w (.bool r.1) r.2)) := draw_chance.walk kc fc hz ks (draw_chance.eq a0 a1 a2 H)
/-! (*spec.l00Src).room -/
theorem draw_room.walk {w : World} {a0 : List Int} {a1 : DSrc} {a2 : Int} {wc : World} {cv : Value} {bs : Nat} (kc : Ext wc w) (fc : Rd 1 (Go.UL.encI .u8) wc cv a0) (hz : wc.heap.size ≤ bs) (ks : Blk w bs (encSrc cv a1).toArray 162) {r : Int × DSrc} (H : draw_room.sh a0 a1 a2 = some r) :
  Calls Tryz.prog 201 #[.pointer (some ⟨bs, 0, none⟩), .int .i64 a2] w (Rt (RS 162 bs cv w (.int .i64 r.1) r.2)) := by
 unfold draw_room.sh at H
 refine calls_of_W Tryz.func201 rfl (Nat.le_of_ble_eq_true rfl) Tryz.ntmps201 rfl ?_
 refine wr <| lp rfl rfl (xa (.int .i64 0) rfl) <| nx <| wr <| lp rfl rfl (xm (.pointer (some ⟨bs, 0, none⟩)) rfl) <| lp rfl rfl (X_nil rfl) <| lp rfl rfl (X_fieldAddr Tryz.underlying162 rfl Tryz.sizeOf22 rfl rfl) <| lp rfl rfl (X_loadB Tryz.isAgg22 ks rfl rfl) <| lp rfl rfl (X_lenR Tryz.underlying22 rfl (Rd.ext fc kc)) <| lp rfl rfl (X_quo rfl rfl (by decide)) <| lp rfl rfl (X_add rfl rfl) <| lp rfl rfl (xm (.int .i64 a2) rfl) <| lp rfl rfl (X_min rfl rfl) <| lp rfl rfl (X_assign rfl) <| nx <| W_ret <| fin_r ?_
 obtain rfl := si H
 exact fin1s rfl (Gr.refl _ _ _) ks
theorem draw_room.calls {w : World} {a0 : List Int} {a1 : DSrc} {a2 : Int} {r : Int × DSrc} {wc : World} {cv : Value} {bs : Nat} (kc : Ext wc w) (fc : Rd 1 (Go.UL.encI .u8) wc cv a0) (hz : wc.heap.size ≤ bs) (ks : Blk w bs (encSrc cv a1).toArray 162) (H : (draw_room.sh a0 a1 a2) = some r) :
  Calls Tryz.prog 201 #[.pointer (some ⟨bs, 0, none⟩), .int .i64 a2] w (Rt (RS 162 bs cv w (.int .i64 r.1) r.2)) := draw_room.walk kc fc hz ks (draw_room.eq a0 a1 a2 H)
/-! (*spec.l00Src).pick -/
theorem draw_pick.walk {w : World} {a0 : List Int} {a1 : DSrc} {a2 : List (List UInt8)} {wc : World} {cv : Value} {bs : Nat} (kc : Ext wc w) (fc : Rd 1 (Go.UL.encI .u8) wc cv a0) (hz : wc.heap.size ≤ bs) (ks : Blk w bs (encSrc cv a1).toArray 162) {v_a2 : Value} {B_a2 : Nat} (o_a2 : Ow 9 1 encS B_a2 w v_a2 a2) (l_a2 : bs + 1 ≤ B_a2) {r : List UInt8 × DSrc} (H : draw_pick.sh a0 a1 a2 = some r) :
  Calls Tryz.prog 235 #[.pointer (some ⟨bs, 0, none⟩), v_a2] w (Rt (RS 162 bs cv w (S r.1) r.2)) := by
 unfold draw_pick.sh at H
 refine calls_of_W Tryz.func235 rfl (Nat.le_of_ble_eq_true rfl) Tryz.ntmps235 rfl ?_
 refine wr <| lp rfl rfl (xa (S ([] : List UInt8)) rfl) <| nx <| W_seq <| wr <| lp rfl rfl (xm v_a2 rfl) <| lp rfl rfl (X_lenR Tryz.underlying42 rfl (Ow.rd o_a2)) <| lp rfl rfl (X_eql rfl rfl) <| nx ?_
 rcases bif_two H with ⟨q1, H⟩ | ⟨q1, H⟩
 ·refine W_true (cb q1) <| wr <| lp rfl rfl (xa (S ([] : List UInt8)) rfl) <| nx <| W_ret <| thn_r <| fin_r ?_
  obtain rfl := si H
  exact fin1s rfl (Gr.refl _ _ _) ks
 ·refine W_false (cb q1) <| W_skip <| thn_n <| wr <| lp rfl rfl (xm v_a2 rfl) <| lp rfl rfl (xm (.pointer (some ⟨bs, 0, none⟩)) rfl) <| lp rfl rfl (xm v_a2 rfl) <| lp rfl rfl (X_lenR Tryz.underlying42 rfl (Ow.rd o_a2)) ?_
  obtain ⟨z2, x3, H⟩ := bind_some H
  refine L_callS (.plain rfl) rfl (ltb rfl) rfl Tryz.call195 (draw_next.calls (w := w) (a0 := a0) (a1 := a1) (a2 := (a2.length : Int)) kc fc hz ks x3) rfl <| fun w6 g7 k8 => ?_
  obtain ⟨c9, H⟩ := bif_some H
  refine L_idx (.plain rfl) rfl (ltb rfl) rfl Tryz.underlying42 Tryz.sizeOf9 rfl (Ow.rd (Ow.later o_a2 g7 l_a2)) rfl c9 <| fun p10 h11 => lp rfl rfl (X_loadAt Tryz.isAgg9 rfl h11 rfl) <| lp rfl rfl (xa (S (gt a2 z2.1)) rfl) <| nx <| W_ret <| fin_r ?_
  obtain rfl := si H
  exact fin1s rfl g7 k8
theorem draw_pick.calls {w : World} {a0 : List Int} {a1 : DSrc} {a2 : List (List UInt8)} {r : List UInt8 × DSrc} {wc : World} {cv : Value} {bs : Nat} (kc : Ext wc w) (fc : Rd 1 (Go.UL.encI .u8) wc cv a0) (hz : wc.heap.size ≤ bs) (ks : Blk w bs (encSrc cv a1).toArray 162) {v_a2 : Value} {B_a2 : Nat} (o_a2 : Ow 9 1 encS B_a2 w v_a2 a2) (l_a2 : bs + 1 ≤ B_a2) (H : (draw_pick.sh a0 a1 a2) = some r) :
  Calls Tryz.prog 235 #[.pointer (some ⟨bs, 0, none⟩), v_a2] w (Rt (RS 162 bs cv w (S r.1) r.2)) := draw_pick.walk kc fc hz ks o_a2 l_a2 (draw_pick.eq a0 a1 a2 H)
/-! (*spec.l00Src).part -/
theorem draw_part.walk {w : World} {a0 : List Int} {a1 : DSrc} {wc : World} {cv : Value} {bs : Nat} (kc : Ext wc w) (fc : Rd 1 (Go.UL.encI .u8) wc cv a0) (hz : wc.heap.size ≤ bs) (ks : Blk w bs (encSrc cv a1).toArray 162) {r : List UInt8 × DSrc} (H : draw_part.sh a0 a1 = some r) :
  Calls Tryz.prog 229 #[.pointer (some ⟨bs, 0, none⟩)] w (Rt (RS 162 bs cv w (S r.1) r.2)) := by
 unfold draw_part.sh at H
 refine calls_of_W Tryz.func229 rfl (Nat.le_of_ble_eq_true rfl) Tryz.ntmps229 rfl ?_
 refine wr <| lp rfl rfl (xa (S ([] : List UInt8)) rfl) <| nx <| wr <| lp rfl rfl (xm (.pointer (some ⟨bs, 0, none⟩)) rfl) <| L_lit (.plain rfl) rfl (ltb rfl) rfl Tryz.underlying42 Tryz.sizeOf9 Tryz.zeroValue9 rfl rfl rfl (vs := [(S ([97] : List UInt8)), (S ([98] : List UInt8)), (S ([99] : List UInt8)), (S ([97, 46, 98] : List UInt8)), (S ([120] : List UInt8))]) rfl (lit_all rfl) <| fun b1 w2 z3 z4 e5 k6 => ?_
 obtain ⟨z7, x8, H⟩ := bind_some H
 refine L_callS (.plain rfl) rfl (ltb rfl) rfl Tryz.call235 (draw_pick.calls (w := w2) (a0 := a0) (a1 := a1) (a2 := draw_part.lit1) (Ext.trans kc e5) fc hz (Blk.ext ks e5) (Ow.new (xs := draw_part.lit1) (sz := 1) (enc := encS) (base := w.heap.size) k6 (Nat.le_of_eq z3) rfl (fun _ _ => rfl) (Nat.le_of_ble_eq_true rfl)) (Nat.le_trans (Blk.lt ks) (Nat.le_refl _)) x8) rfl <| fun w11 g12 k13 => lp rfl rfl (xa (S z7.1) rfl) <| nx <| W_ret <| fin_r ?_
 obtain rfl := si H
 exact fin1s rfl (Gr.trans (Gr.ext e5) g12) k13
theorem draw_part.calls {w : World} {a0 : List Int} {a1 : DSrc} {r : List UInt8 × DSrc} {wc : World} {cv : Value} {bs : Nat} (kc : Ext wc w) (fc : Rd 1 (Go.UL.encI .u8) wc cv a0) (hz : wc.heap.size ≤ bs) (ks : Blk w bs (encSrc cv a1).toArray 162) (H : (draw_part.sh a0 a1) = some r) :
  Calls Tryz.prog 229 #[.pointer (some ⟨bs, 0, none⟩)] w (Rt (RS 162 bs cv w (S r.1) r.2)) := draw_part.walk kc fc hz ks (draw_part.eq a0 a1 H)
/-! (*spec.l00Src).path -/
theorem draw_path.walk {k : Nat} {w : World} {a0 : List Int} {a1 : DSrc} {wc : World} {cv : Value} {bs : Nat} (kc : Ext wc w) (fc : Rd 1 (Go.UL.encI .u8) wc cv a0) (hz : wc.heap.size ≤ bs) (ks : Blk w bs (encSrc cv a1).toArray 162) {r : List UInt8 × DSrc} (H : draw_path.sh k a0 a1 = some r) :
  Calls Tryz.prog 148 #[.pointer (some ⟨bs, 0, none⟩)] w (Rt (RS 162 bs cv w (S r.1) r.2)) := by
 unfold draw_path.sh at H
 refine calls_of_W Tryz.func148 rfl (Nat.le_of_ble_eq_true rfl) Tryz.ntmps148 rfl ?_
 refine wr <| lp rfl rfl (xa (S ([] : List UInt8)) rfl) <| nx <| wr <| lp rfl rfl (xm (.pointer (some ⟨bs, 0, none⟩)) rfl) ?_
 obtain ⟨z1, x2, H⟩ := bind_some H
 refine L_callS (.plain rfl) rfl (ltb rfl) rfl Tryz.call229 (draw_part.calls (w := w) (a0 := a0) (a1 := a1) kc fc hz ks x2) rfl <| fun w5 g6 k7 => lp rfl rfl (xa (S z1.1) rfl) <| nx <| W_seq <| wr <| lp rfl rfl (xm (.pointer (some ⟨bs, 0, none⟩)) rfl) ?_
 obtain ⟨z8, x9, H⟩ := bind_some H
 refine L_callS (.plain rfl) rfl (ltb rfl) rfl Tryz.call195 (draw_next.calls (w := w5) (a0 := a0) (a1 := z1.2) (a2 := 3) (Ext.gr kc g6 hz) fc hz k7 x9) rfl <| fun w12 g13 k14 => lp rfl rfl (xa (.int .i64 z8.1) rfl) <| nx ?_
 obtain ⟨z18, L19, C20⟩ := bind_some H
 clear H
 refine  W_cutQ (fun s0 sQ wQ => ∃ (x3_21 : List UInt8) (y22 : DSrc), Kp [(3, 5), (9, 18)] s0 sQ ∧ sQ 3 = S x3_21 ∧ Blk wQ bs ((encSrc cv) y22).toArray 162 ∧ Gr bs (bs + 1) w12 wQ ∧ Ext wc wQ ∧ z18 = .inr (x3_21, y22)) ?_ ?_
 ·refine W_block <| W_loopI (fun s0 kk sQ wQ => ∃ (x3_15 : List UInt8) (x4_16 : Int) (y17 : DSrc), Kp [(3, 5), (9, 18)] s0 sQ ∧ sQ 3 = S x3_15 ∧ sQ 4 = .int .i64 x4_16 ∧ Blk wQ bs ((encSrc cv) y17).toArray 162 ∧ Gr bs (bs + 1) w12 wQ ∧ Ext wc wQ ∧ loopF (draw_path.b1 a0) kk (x3_15, x4_16, y17) = some z18) k ⟨z1.1, z8.1, z8.2, kz, rfl, rfl, k14, (Gr.refl _ _ _), (Ext.gr (Ext.gr kc g6 hz) g13 hz), L19⟩ ?_
  rintro k27 s28 w29 ⟨x3_15, x4_16, y17, K30, h33, h34, h35, e31, e31c, L32⟩
  cases k27 with
  | zero => exact absurd L32 (by simp [loopF])
  | succ k27 =>
   obtain ⟨t36, H, S37⟩ := loopF_succ L32
   clear L32
   unfold draw_path.b1 at H
   refine W_seq <| wr <| lp rfl rfl (X_move h34) <| lp rfl rfl (X_gtr rfl rfl) <| nx ?_
   rcases bif_two H with ⟨q38, H⟩ | ⟨q38, H⟩
   ·refine W_true (cb q38) <| W_skip <| thn_n <| W_seq <| W_block <| W_reg <| lp rfl rfl (X_move h33) <| lp rfl rfl (xm (.pointer (some ⟨bs, 0, none⟩)) (K30 0 rfl)) ?_
    obtain ⟨z39, x40, H⟩ := bind_some H
    refine L_callS (.plain rfl) rfl (ltb rfl) rfl Tryz.call229 (draw_part.calls (w := w29) (a0 := a0) (a1 := y17) e31c fc hz h35 x40) rfl <| fun w43 g44 k45 => ?_
    obtain ⟨c46, H⟩ := bif_some H
    refine lp rfl rfl (X_cat rfl rfl (od c46)) ?_
    obtain ⟨c47, H⟩ := bif_some H
    refine lp rfl rfl (X_cat rfl rfl (od c47)) <| lp rfl rfl (xa (S (x3_15 ++ (([47] : List UInt8) ++ z39.1))) rfl) <| L_nil <| blk_n <| thn_n <| W_reg <| lp rfl rfl (X_move h34) <| lp rfl rfl (X_sub rfl rfl) <| lp rfl rfl (xa (.int .i64 (IntKind.wrap .i64 (x4_16 - 1))) rfl) <| nx ?_
    obtain rfl := si H
    exact ⟨_, Nat.lt_succ_self _, x3_15 ++ (([47] : List UInt8) ++ z39.1), IntKind.wrap .i64 (x4_16 - 1), z39.2, (ku3 (ku8 K30 rfl) rfl), rfl, rfl, k45, (Gr.trans e31 g44), (Ext.gr e31c g44 hz), S37⟩
   ·refine W_false (cb q38) <| W_exit <| thn_x <| thn_x <| blk_x <| thn_n ?_
    obtain rfl := si H
    obtain rfl := si S37
    exact ⟨x3_15, y17, (ku2 K30 rfl), h33, h35, e31, e31c, rfl⟩
 ·rintro s24 w23 ⟨x3_21, y22, K25, h48, h49, e26, e26c, y50⟩
  rw [y50] at C20
  have H := C20
  replace H : _ = some _ := H
  refine thn_n <| wr <| lp rfl rfl (X_move h48) <| lp rfl rfl (xa (S x3_21) rfl) <| nx <| W_ret <| fin_r ?_
  obtain rfl := si H
  exact fin1s rfl (Gr.trans (Gr.trans g6 g13) e26) h49
theorem draw_path.calls {w : World} {a0 : List Int} {a1 : DSrc} {r : List UInt8 × DSrc} {wc : World} {cv : Value} {bs : Nat} (kc : Ext wc w) (fc : Rd 1 (Go.UL.encI .u8) wc cv a0) (hz : wc.heap.size ≤ bs) (ks : Blk w bs (encSrc cv a1).toArray 162) (H : (draw_path.sh 4 a0 a1) = some r) :
  Calls Tryz.prog 148 #[.pointer (some ⟨bs, 0, none⟩)] w (Rt (RS 162 bs cv w (S r.1) r.2)) := by
 obtain ⟨k, h⟩ := draw_path.eq a0 a1 H
 exact draw_path.walk kc fc hz ks h
/-! (*spec.l00Src).body -/
theorem draw_body.walk {w : World} {a0 : List Int} {a1 : DSrc} {wc : World} {cv : Value} {bs : Nat} (kc : Ext wc w) (fc : Rd 1 (Go.UL.encI .u8) wc cv a0) (hz : wc.heap.size ≤ bs) (ks : Blk w bs (encSrc cv a1).toArray 162) {r : List UInt8 × DSrc} (H : draw_body.sh a0 a1 = some r) :
  Calls Tryz.prog 234 #[.pointer (some ⟨bs, 0, none⟩)] w (Rt (RS 162 bs cv w (S r.1) r.2)) := by
 unfold draw_body.sh at H
 refine calls_of_W Tryz.func234 rfl (Nat.le_of_ble_eq_true rfl) Tryz.ntmps234 rfl ?_
 refine wr <| lp rfl rfl (xa (S ([] : List UInt8)) rfl) <| nx <| wr <| lp rfl rfl (xm (.pointer (some ⟨bs, 0, none⟩)) rfl) <| L_lit (.plain rfl) rfl (ltb rfl) rfl Tryz.underlying42 Tryz.sizeOf9 Tryz.zeroValue9 rfl rfl rfl (vs := [(S ([] : List UInt8)), (S ([111, 110, 101] : List UInt8)), (S ([116, 119, 111] : List UInt8)), (S ([120, 0, 121] : List UInt8)), (S ([108, 111, 110, 103, 32, 108, 111, 110, 103, 32, 98, 111, 100, 121, 32, 104, 101, 114, 101, 33] : List UInt8))]) rfl (lit_all rfl) <| fun b1 w2 z3 z4 e5 k6 => ?_
 obtain ⟨z7, x8, H⟩ := bind_some H
 refine L_callS (.plain rfl) rfl (ltb rfl) rfl Tryz.call235 (draw_pick.calls (w := w2) (a0 := a0) (a1 := a1) (a2 := draw_body.lit1) (Ext.trans kc e5) fc hz (Blk.ext ks e5) (Ow.new (xs := draw_body.lit1) (sz := 1) (enc := encS) (base := w.heap.size) k6 (Nat.le_of_eq z3) rfl (fun _ _ => rfl) (Nat.le_of_ble_eq_true rfl)) (Nat.le_trans (Blk.lt ks) (Nat.le_refl _)) x8) rfl <| fun w11 g12 k13 => lp rfl rfl (xa (S z7.1) rfl) <| nx <| W_ret <| fin_r ?_
 obtain rfl := si H
 exact fin1s rfl (Gr.trans (Gr.ext e5) g12) k13
theorem draw_body.calls {w : World} {a0 : List Int} {a1 : DSrc} {r : List UInt8 × DSrc} {wc : World} {cv : Value} {bs : Nat} (kc : Ext wc w) (fc : Rd 1 (Go.UL.encI .u8) wc cv a0) (hz : wc.heap.size ≤ bs) (ks : Blk w bs (encSrc cv a1).toArray 162) (H : (draw_body.sh a0 a1) = some r) :
  Calls Tryz.prog 234 #[.pointer (some ⟨bs, 0, none⟩)] w (Rt (RS 162 bs cv w (S r.1) r.2)) := draw_body.walk kc fc hz ks (draw_body.eq a0 a1 H)
/-! (*spec.l00Src).record -/
theorem draw_record.walk {w : World} {a0 : List Int} {a1 : DSrc} {a2 : List UInt8} {wc : World} {cv : Value} {bs : Nat} (kc : Ext wc w) (fc : Rd 1 (Go.UL.encI .u8) wc cv a0) (hz : wc.heap.size ≤ bs) (ks : Blk w bs (encSrc cv a1).toArray 162) {r : Rec × DSrc} (H : draw_record.sh a0 a1 a2 = some r) :
  Calls Tryz.prog 153 #[.pointer (some ⟨bs, 0, none⟩), S a2] w (Rt (RS 162 bs cv w (.agg (encRec r.1).toArray) r.2)) := by
 unfold draw_record.sh at H
 refine calls_of_WG Tryz.func153 rfl (Nat.le_of_ble_eq_true rfl) Tryz.ntmps153 ?_
 refine wr <| L_alloc (.plain rfl) rfl (ltb rfl) rfl Tryz.zeroValue58 <| fun b1 w2 z3 z4 e5 k6 => nx <| W_seq <| wr <| lp rfl rfl (xm (.pointer (some ⟨bs, 0, none⟩)) rfl) ?_
 obtain ⟨z7, x8, H⟩ := bind_some H
 refine L_callS (.plain rfl) rfl (ltb rfl) rfl Tryz.call195 (draw_next.calls (w := w2) (a0 := a0) (a1 := a1) (a2 := 8) (Ext.trans kc e5) fc hz (Blk.ext ks e5) x8) rfl <| fun w11 g12 k13 => nx ?_
 obtain ⟨z14, L15, C16⟩ := bind_some H
 clear H
 refine W_cutQ (fun s0 sQ wQ => ∃ (y17 : DSrc), Kp [(7, 32)] s0 sQ ∧ Blk wQ bs ((encSrc cv) y17).toArray 162 ∧ Blk wQ b1 (encRec (⟨0, ([] : List UInt8), ([] : List UInt8), 0, false⟩ : Rec)).toArray 58 ∧ Gr bs (bs + 1) w11 wQ ∧ Ext wc wQ ∧ z14 = .inr y17) ?_ ?_
 ·have H := L15
  refine W_block <| W_seq <| wr <| lp rfl rfl (X_eql rfl rfl) <| lp rfl rfl (xa (.bool (decide (z7.1 = 0))) rfl) <| nx ?_
  obtain ⟨z18, L19, C20⟩ := bind_some H
  clear H
  refine W_cutQ (fun s0 sQ wQ => ∃ (x7_21 : Bool), Kp [(7, 8), (9, 11)] s0 sQ ∧ sQ 7 = .bool x7_21 ∧ Blk wQ bs ((encSrc cv) z7.2).toArray 162 ∧ Blk wQ b1 (encRec (⟨0, ([] : List UInt8), ([] : List UInt8), 0, false⟩ : Rec)).toArray 58 ∧ Gr bs (bs + 1) w11 wQ ∧ Ext wc wQ ∧ z18 = .inr x7_21) ?_ ?_
  ·have H := L19
   rcases bif_two H with ⟨q22, H⟩ | ⟨q22, H⟩
   ·refine W_true (cb q22) <| W_skip <| thn_n ?_
    obtain rfl := si H
    exact ⟨(decide (z7.1 = 0)), kz, rfl, k13, (Gr.blk g12 k6 (Or.inl (Nat.le_trans (Nat.le_trans (Blk.lt ks) (Nat.le_refl _)) (Nat.le_of_eq z3)))), (Gr.refl _ _ _), (Ext.gr (Ext.trans kc e5) g12 hz), rfl⟩
   ·refine W_false (cb q22) <| wr <| lp rfl rfl (X_eql rfl rfl) <| lp rfl rfl (xa (.bool (decide (z7.1 = 1))) rfl) <| nx ?_
    rcases bif_two H with ⟨q23, H⟩ | ⟨q23, H⟩
    ·refine W_true (cb q23) <| W_skip <| thn_n ?_
     obtain rfl := si H
     exact ⟨(decide (z7.1 = 1)), (ku2 kz rfl), rfl, k13, (Gr.blk g12 k6 (Or.inl (Nat.le_trans (Nat.le_trans (Blk.lt ks) (Nat.le_refl _)) (Nat.le_of_eq z3)))), (Gr.refl _ _ _), (Ext.gr (Ext.trans kc e5) g12 hz), rfl⟩
    ·refine W_false (cb q23) <| W_reg <| lp rfl rfl (X_eql rfl rfl) <| lp rfl rfl (xa (.bool (decide (z7.1 = 2))) rfl) <| nx ?_
     obtain rfl := si H
     exact ⟨(decide (z7.1 = 2)), (ku4 kz rfl), rfl, k13, (Gr.blk g12 k6 (Or.inl (Nat.le_trans (Nat.le_trans (Blk.lt ks) (Nat.le_refl _)) (Nat.le_of_eq z3)))), (Gr.refl _ _ _), (Ext.gr (Ext.trans kc e5) g12 hz), rfl⟩
  ·rintro s25 w24 ⟨x7_21, K26, h29, h30, h31, e27, e27c, y28⟩
   rw [y28] at C20
   have H := C20
   refine thn_n ?_
   rcases bif_two H with ⟨q32, H⟩ | ⟨q32, H⟩
   ·refine W_true (h29.trans (cb q32)) <| wr <| lp rfl rfl (xm (S a2) (K26 1 rfl)) <| lp rfl rfl (xm (.pointer (some ⟨bs, 0, none⟩)) (K26 0 rfl)) ?_
    obtain ⟨z33, x34, H⟩ := bind_some H
    refine L_callS (.plain rfl) rfl (ltb rfl) rfl Tryz.call234 (draw_body.calls (w := w24) (a0 := a0) (a1 := z7.2) e27c fc hz h30 x34) rfl <| fun w37 g38 k39 => L_lit (.plain rfl) rfl (ltb rfl) rfl Tryz.underlying188 Tryz.sizeOf3 Tryz.zeroValue3 rfl rfl rfl (vs := [(.int .i64 420), (.int .i64 0), (.int .i64 511)]) rfl (lit_all rfl) <| fun b40 w41 z42 z43 e44 k45 => lp rfl rfl (xm (.pointer (some ⟨bs, 0, none⟩)) (K26 0 rfl)) ?_
    obtain ⟨z46, x47, H⟩ := bind_some H
    refine L_callS (.plain rfl) rfl (ltb rfl) rfl Tryz.call195 (draw_next.calls (w := w41) (a0 := a0) (a1 := z33.2) (a2 := 3) (Ext.trans (Ext.gr e27c g38 hz) e44) fc hz (Blk.ext k39 e44) x47) rfl <| fun w50 g51 k52 => ?_
    obtain ⟨c53, H⟩ := bif_some H
    refine L_idx (.plain rfl) rfl (ltb rfl) rfl Tryz.underlying188 Tryz.sizeOf3 rfl (Ow.rd (Ow.later (Ow.new (xs := [420, 0, 511]) (sz := 1) (enc := (Go.UL.encI .i64)) (base := w37.heap.size) k45 (Nat.le_of_eq z42) rfl (fun _ _ => by rfl) (Nat.le_of_ble_eq_true rfl)) g51 (Nat.le_trans (Blk.lt ks) ((Gr.trans (Gr.trans (Gr.trans (Gr.ext e5) g12) e27) g38)).size))) rfl c53 <| fun p54 h55 => lp rfl rfl (X_loadAt Tryz.isAgg3 rfl h55 rfl) <| lp rfl rfl (X_build1 (vs := [(0, (.int .i64 1)), (1, (S a2)), (2, (S z33.1)), (3, (.int .i64 (gt ([420, 0, 511] : List Int) z46.1)))]) (pl := #[(0, 1), (1, 1), (2, 1), (3, 1), (4, 1)]) Tryz.underlying58 Tryz.zeroValue58 rfl (fun _ => by kernel_rfl) rfl rfl rfl) <| L_storeA (.plain rfl) rfl rfl Tryz.sizeOf58 (K26 4 rfl) rfl rfl rfl rfl (Gr.blk g51 (Blk.ext (Gr.blk g38 h31 (Or.inl (Nat.le_trans (Nat.le_trans (Blk.lt ks) (Nat.le_refl _)) (Nat.le_of_eq z3)))) e44) (Or.inl (Nat.le_trans (Nat.le_trans (Blk.lt ks) (Nat.le_refl _)) (Nat.le_of_eq z3)))) <| fun w56 h57 k58 => nx <| W_ret <| blk_r <| thn_r <| thn_r <| finG_r ?_
    obtain rfl := si H
    have H := C16
    obtain rfl := si H
    exact finC1s rfl (K26 4 rfl) k58 Tryz.isAgg58 Tryz.sizeOf58 rfl (Gr.thn (Gr.trans (Gr.trans (Gr.trans (Gr.trans (Gr.trans (Gr.ext e5) g12) e27) g38) (Gr.ext e44)) g51) (Wr.below h57 (Nat.le_of_eq z3))) (Gr.blk (Gr.ofBelow (Wr.below h57 (Nat.le_of_eq z3))) k52 (Or.inr (Nat.le_trans (Blk.lt ks) (Nat.le_refl _))))
   ·refine W_false (h29.trans (cb q32)) <| wr <| lp rfl rfl (X_eql (K26 6 rfl) rfl) <| lp rfl rfl (xa (.bool (decide (z7.1 = 3))) rfl) <| nx ?_
    rcases bif_two H with ⟨q59, H⟩ | ⟨q59, H⟩
    ·refine W_true (cb q59) <| wr <| lp rfl rfl (xm (S a2) (K26 1 rfl)) <| lp rfl rfl (xm (.pointer (some ⟨bs, 0, none⟩)) (K26 0 rfl)) <| L_lit (.plain rfl) rfl (ltb rfl) rfl Tryz.underlying42 Tryz.sizeOf9 Tryz.zeroValue9 rfl rfl rfl (vs := [(S ([97] : List UInt8)), (S ([46, 46, 47, 98] : List UInt8)), (S ([47] : List UInt8))]) rfl (lit_all rfl) <| fun b60 w61 z62 z63 e64 k65 => ?_
     obtain ⟨z66, x67, H⟩ := bind_some H
     refine L_callS (.plain rfl) rfl (ltb rfl) rfl Tryz.call235 (draw_pick.calls (w := w61) (a0 := a0) (a1 := z7.2) (a2 := ([([97] : List UInt8), ([46, 46, 47, 98] : List UInt8), ([47] : List UInt8)] : List (List UInt8))) (Ext.trans e27c e64) fc hz (Blk.ext h30 e64) (Ow.new (xs := [([97] : List UInt8), ([46, 46, 47, 98] : List UInt8), ([47] : List UInt8)]) (sz := 1) (enc := encS) (base := w24.heap.size) k65 (Nat.le_of_eq z62) rfl (fun _ _ => by rfl) (Nat.le_of_ble_eq_true rfl)) (Nat.le_trans (Blk.lt ks) ((Gr.trans (Gr.trans (Gr.ext e5) g12) e27)).size) x67) rfl <| fun w70 g71 k72 => lp rfl rfl (X_build1 (vs := [(0, (.int .i64 2)), (1, (S a2)), (2, (S z66.1))]) (pl := #[(0, 1), (1, 1), (2, 1), (3, 1), (4, 1)]) Tryz.underlying58 Tryz.zeroValue58 rfl (fun _ => by kernel_rfl) rfl rfl rfl) <| L_storeA (.plain rfl) rfl rfl Tryz.sizeOf58 (K26 4 rfl) rfl rfl rfl rfl (Gr.blk g71 (Blk.ext h31 e64) (Or.inl (Nat.le_trans (Nat.le_trans (Blk.lt ks) (Nat.le_refl _)) (Nat.le_of_eq z3)))) <| fun w73 h74 k75 => nx <| W_ret <| blk_r <| thn_r <| thn_r <| finG_r ?_
     obtain rfl := si H
     have H := C16
     obtain rfl := si H
     exact finC1s rfl (K26 4 rfl) k75 Tryz.isAgg58 Tryz.sizeOf58 rfl (Gr.thn (Gr.trans (Gr.trans (Gr.trans (Gr.trans (Gr.ext e5) g12) e27) (Gr.ext e64)) g71) (Wr.below h74 (Nat.le_of_eq z3))) (Gr.blk (Gr.ofBelow (Wr.below h74 (Nat.le_of_eq z3))) k72 (Or.inr (Nat.le_trans (Blk.lt ks) (Nat.le_refl _))))
    ·refine W_false (cb q59) <| W_seq <| wr <| lp rfl rfl (X_eql (K26 6 rfl) rfl) <| lp rfl rfl (xa (.bool (decide (z7.1 = 4))) rfl) <| nx ?_
     rcases bif_two H with ⟨q76, H⟩ | ⟨q76, H⟩
     ·refine W_true (cb q76) <| W_skip <| thn_n ?_
      rcases bif_two H with ⟨q77, H⟩ | ⟨q77, H⟩
      ·refine W_true (cb q77) <| wr <| lp rfl rfl (xm (S a2) (K26 1 rfl)) <| lp rfl rfl (X_build1 (vs := [(0, (.int .i64 4)), (1, (S a2))]) (pl := #[(0, 1), (1, 1), (2, 1), (3, 1), (4, 1)]) Tryz.underlying58 Tryz.zeroValue58 rfl (fun _ => by kernel_rfl) rfl rfl rfl) <| L_storeA (.plain rfl) rfl rfl Tryz.sizeOf58 (K26 4 rfl) rfl rfl rfl rfl h31 <| fun w78 h79 k80 => nx <| W_ret <| blk_r <| thn_r <| thn_r <| finG_r ?_
       obtain rfl := si H
       have H := C16
       obtain rfl := si H
       exact finC1s rfl (K26 4 rfl) k80 Tryz.isAgg58 Tryz.sizeOf58 rfl (Gr.thn (Gr.trans (Gr.trans (Gr.ext e5) g12) e27) (Wr.below h79 (Nat.le_of_eq z3))) (Gr.blk (Gr.ofBelow (Wr.below h79 (Nat.le_of_eq z3))) h30 (Or.inr (Nat.le_trans (Blk.lt ks) (Nat.le_refl _))))
      ·refine W_false (cb q77) <| W_skip <| blk_n <| thn_n ?_
       obtain rfl := si H
       exact ⟨z7.2, (ku4 (Kp.cut (ku2 kz rfl) K26 rfl) rfl), h30, h31, e27, e27c, rfl⟩
     ·refine W_false (cb q76) <| W_reg <| lp rfl rfl (X_eql (K26 6 rfl) rfl) <| lp rfl rfl (xa (.bool (decide (z7.1 = 5))) rfl) <| nx ?_
      rcases bif_two H with ⟨q81, H⟩ | ⟨q81, H⟩
      ·refine W_true (cb q81) <| wr <| lp rfl rfl (xm (S a2) (K26 1 rfl)) <| lp rfl rfl (X_build1 (vs := [(0, (.int .i64 4)), (1, (S a2))]) (pl := #[(0, 1), (1, 1), (2, 1), (3, 1), (4, 1)]) Tryz.underlying58 Tryz.zeroValue58 rfl (fun _ => by kernel_rfl) rfl rfl rfl) <| L_storeA (.plain rfl) rfl rfl Tryz.sizeOf58 (K26 4 rfl) rfl rfl rfl rfl h31 <| fun w82 h83 k84 => nx <| W_ret <| blk_r <| thn_r <| thn_r <| finG_r ?_
       obtain rfl := si H
       have H := C16
       obtain rfl := si H
       exact finC1s rfl (K26 4 rfl) k84 Tryz.isAgg58 Tryz.sizeOf58 rfl (Gr.thn (Gr.trans (Gr.trans (Gr.ext e5) g12) e27) (Wr.below h83 (Nat.le_of_eq z3))) (Gr.blk (Gr.ofBelow (Wr.below h83 (Nat.le_of_eq z3))) h30 (Or.inr (Nat.le_trans (Blk.lt ks) (Nat.le_refl _))))
      ·refine W_false (cb q81) <| W_skip <| blk_n <| thn_n ?_
       obtain rfl := si H
       exact ⟨z7.2, (ku2 (ku4 (Kp.cut (ku2 kz rfl) K26 rfl) rfl) rfl), h30, h31, e27, e27c, rfl⟩
 ·rintro s86 w85 ⟨y17, K87, h90, h91, e88, e88c, y89⟩
  rw [y89] at C16
  have H := C16
  refine thn_n <| W_seq ?_
  obtain ⟨z98, x99, H⟩ := bind_some H
  obtain ⟨c105, H⟩ := bif_some H
  obtain ⟨z108, x109, H⟩ := bind_some H
  refine W_drawS 9 [LEq (S a2), LOw 3 1 (Go.UL.encI .i64) w85.heap.size ([493, 448] : List Int), LEq (.pointer (some ⟨bs, 0, none⟩)), LEq (.int .i64 z98.1), LOp 3 1 (Go.UL.encI .i64) w85.heap.size ([493, 448] : List Int) z98.1, LEq (.int .i64 (gt ([493, 448] : List Int) z98.1)), LEq (.pointer (some ⟨bs, 0, none⟩)), LEq (.bool z108.1), LEq (.agg #[(.int .i64 3), (S a2), (S ([] : List UInt8)), (.int .i64 (gt ([493, 448] : List Int) z98.1)), (.bool z108.1)])] [(7, z108.2), (3, z98.2)] y17 [(7, 3, [])] (by kernel_rfl) (by kernel_rfl) (by kernel_rfl) (by kernel_rfl) rfl h90 ⟨LEq.keep, (LOw.keep (Nat.le_trans (Blk.lt ks) ((Gr.trans (Gr.trans (Gr.ext e5) g12) e88)).size)), LEq.keep, LEq.keep, (LOp.keep (Nat.le_trans (Blk.lt ks) ((Gr.trans (Gr.trans (Gr.ext e5) g12) e88)).size)), LEq.keep, LEq.keep, LEq.keep, LEq.keep, trivial⟩ ⟨?_, ?_, ?_, ?_, ?_, ?_, ?_, ?_, ?_, trivial⟩ ?_
  ·intro s115 w116 dn117 hg118 hi119 hn120 hp121 hq122 hf123 hd124 hu125
   exact lp rfl rfl (xm (S a2) ((hf123 1 rfl).trans (K87 1 rfl))) <| L_nil <| stepQs rfl rfl rfl rfl er rfl
  ·intro s126 w127 dn128 hg129 hi130 hn131 hp132 hq133 hf134 hd135 hu136
   exact L_lit (.plain rfl) rfl (ltb rfl) rfl Tryz.underlying188 Tryz.sizeOf3 Tryz.zeroValue3 rfl rfl rfl (vs := [(.int .i64 493), (.int .i64 448)]) rfl (lit_all rfl) <| fun b137 w138 z139 z140 e141 k142 => L_nil <| stepQs rfl rfl rfl rfl e141 (Ow.base (Ow.new (xs := [493, 448]) (sz := 1) (enc := (Go.UL.encI .i64)) (base := w127.heap.size) k142 (Nat.le_of_eq z139) rfl (fun _ _ => by rfl) (Nat.le_of_ble_eq_true rfl)) (hg129).size)
  ·intro s143 w144 dn145 hg146 hi147 hn148 hp149 hq150 hf151 hd152 hu153
   exact lp rfl rfl (xm (.pointer (some ⟨bs, 0, none⟩)) ((hf151 0 rfl).trans (K87 0 rfl))) <| L_nil <| stepQs rfl rfl rfl rfl er rfl
  ·intro s154 w155 dn156 hg157 hi158 hn159 hp160 hq161 hf162 hd163 hu164
   have a166 : dn156 7 = false := hq161 7 rfl
   have k165 : Blk w155 bs (encSrc cv y17).toArray 162 := by
    have h := hi158
    simp only [InvS, srcAt, hn159, a166, cond_true, cond_false] at h
    exact h
   have a167 : setD dn156 3 3 = true := setD_self
   have a168 : setD dn156 3 7 = false := (setD_ne rfl).trans a166
   have d169 : s154 34 = (.pointer (some ⟨bs, 0, none⟩)) := (hd163 2 rfl rfl)
   exact L_callS (.plain rfl) rfl (ltb rfl) rfl Tryz.call195 (draw_next.calls (w := w155) (a0 := a0) (a1 := y17) (a2 := 2) (Ext.gr e88c hg157 hz) fc hz k165 x99) (cons2 d169 (cons2 rfl rfl)) <| fun w172 g173 k174 => L_nil <| stepQh rfl rfl rfl rfl g173 (by simp only [InvS, srcAt, a167, a168, cond_true, cond_false]; exact k174) rfl
  ·intro s175 w176 dn177 hg178 hi179 hn180 hp181 hq182 hf183 hd184 hu185
   have d186 : Ow 3 1 (Go.UL.encI .i64) w85.heap.size w176 (s175 33) ([493, 448] : List Int) := (hd184 1 rfl rfl)
   have d187 : s175 35 = (.int .i64 z98.1) := (hd184 3 rfl rfl)
   have c188 := c105
   exact L_idxO (.plain rfl) rfl (ltb rfl) rfl Tryz.underlying188 Tryz.sizeOf3 rfl d186 d187 c188 <| fun p189 h190 => L_nil <| stepQs rfl rfl rfl rfl er ⟨_, _, rfl, h190⟩
  ·intro s191 w192 dn193 hg194 hi195 hn196 hp197 hq198 hf199 hd200 hu201
   obtain ⟨u202, p203, h204, o205⟩ := (hd200 4 rfl rfl)
   exact lp rfl rfl (X_loadAt Tryz.isAgg3 h204 (OP.at o205) rfl) <| L_nil <| stepQs rfl rfl rfl rfl er rfl
  ·intro s206 w207 dn208 hg209 hi210 hn211 hp212 hq213 hf214 hd215 hu216
   exact lp rfl rfl (xm (.pointer (some ⟨bs, 0, none⟩)) ((hf214 0 rfl).trans (K87 0 rfl))) <| L_nil <| stepQs rfl rfl rfl rfl er rfl
  ·intro s217 w218 dn219 hg220 hi221 hn222 hp223 hq224 hf225 hd226 hu227
   have a229 : dn219 3 = true := hp223 3 rfl
   have k228 : Blk w218 bs (encSrc cv z98.2).toArray 162 := by
    have h := hi221
    simp only [InvS, srcAt, a229, hn222, cond_true, cond_false] at h
    exact h
   have a231 : setD dn219 7 7 = true := setD_self
   have d232 : s217 38 = (.pointer (some ⟨bs, 0, none⟩)) := (hd226 6 rfl rfl)
   exact L_callS (.plain rfl) rfl (ltb rfl) rfl Tryz.call236 (draw_chance.calls (w := w218) (a0 := a0) (a1 := z98.2) (a2 := 3) (Ext.gr e88c hg220 hz) fc hz k228 x109) (cons2 d232 (cons2 rfl rfl)) <| fun w235 g236 k237 => L_nil <| stepQh rfl rfl rfl rfl g236 (by simp only [InvS, srcAt, a231, cond_true, cond_false]; exact k237) rfl
  ·intro s238 w239 dn240 hg241 hi242 hn243 hp244 hq245 hf246 hd247 hu248
   have d249 : s238 32 = (S a2) := (hd247 0 rfl rfl)
   have d250 : s238 37 = (.int .i64 (gt ([493, 448] : List Int) z98.1)) := (hd247 5 rfl rfl)
   have d251 : s238 39 = (.bool z108.1) := (hd247 7 rfl rfl)
   exact lp rfl rfl (X_build1 (vs := [(0, (.int .i64 3)), (1, (S a2)), (3, (.int .i64 (gt ([493, 448] : List Int) z98.1))), (4, (.bool z108.1))]) (pl := #[(0, 1), (1, 1), (2, 1), (3, 1), (4, 1)]) Tryz.underlying58 Tryz.zeroValue58 rfl (fun _ => by kernel_rfl) rfl (cons2 rfl (cons2 d249 (cons2 d250 (cons2 d251 rfl)))) rfl) <| L_nil <| stepQs rfl rfl rfl rfl er rfl
  intro s252 w253 hg254 hb255 hf256 ha257
  have K258 := Kp.ofD (kp := [(32, 41)]) rfl hf256
  have k259 : Blk w253 bs (encSrc cv z108.2).toArray 162 := hb255
  have d260 : s252 40 = (.agg #[(.int .i64 3), (S a2), (S ([] : List UInt8)), (.int .i64 (gt ([493, 448] : List Int) z98.1)), (.bool z108.1)]) := ha257 8 rfl rfl
  clear ha257 hf256
  refine L_storeA (.plain rfl) rfl rfl Tryz.sizeOf58 ((K258 4 rfl).trans (K87 4 rfl)) d260 rfl rfl rfl (Gr.blk hg254 h91 (Or.inl (Nat.le_trans (Nat.le_trans (Blk.lt ks) (Nat.le_refl _)) (Nat.le_of_eq z3)))) <| fun w261 h262 k263 => nx <| W_ret <| finG_r ?_
  obtain rfl := si H
  exact finC1s rfl ((K258 4 rfl).trans (K87 4 rfl)) k263 Tryz.isAgg58 Tryz.sizeOf58 rfl (Gr.thn (Gr.trans (Gr.trans (Gr.trans (Gr.ext e5) g12) e88) hg254) (Wr.below h262 (Nat.le_of_eq z3))) (Gr.blk (Gr.ofBelow (Wr.below h262 (Nat.le_of_eq z3))) k259 (Or.inr (Nat.le_trans (Blk.lt ks) (Nat.le_refl _))))
theorem draw_record.calls {w : World} {a0 : List Int} {a1 : DSrc} {a2 : List UInt8} {r : Rec × DSrc} {wc : World} {cv : Value} {bs : Nat} (kc : Ext wc w) (fc : Rd 1 (Go.UL.encI .u8) wc cv a0) (hz : wc.heap.size ≤ bs) (ks : Blk w bs (encSrc cv a1).toArray 162) (H : (draw_record.sh a0 a1 a2) = some r) :
  Calls Tryz.prog 153 #[.pointer (some ⟨bs, 0, none⟩), S a2] w (Rt (RS 162 bs cv w (.agg (encRec r.1).toArray) r.2)) := draw_record.walk kc fc hz ks (draw_record.eq a0 a1 a2 H)
/-! spec.PathDrawn -/
theorem spec_PathDrawn.walk {w : World} {a0 : List Int} {v_a0 : Value} (f_a0 : Rd 1 (Go.UL.encI .u8) w v_a0 a0) {r : List UInt8} (H : spec_PathDrawn.sh a0 = some r) :
  Calls Tryz.prog 52 #[v_a0] w (Rt (RP w (S r))) := by
 unfold spec_PathDrawn.sh at H
 refine calls_of_W Tryz.func52 rfl (Nat.le_of_ble_eq_true rfl) Tryz.ntmps52 rfl ?_
 refine wr <| lp rfl rfl (xa (S ([] : List UInt8)) rfl) <| nx <| wr <| lp rfl rfl (xm v_a0 rfl) ?_
 obtain ⟨z1, x2, H⟩ := bind_some H
 refine L_callSN (.plain rfl) rfl (ltb rfl) rfl Tryz.call103 (spec_l00Source.calls (w := w) (a0 := a0) f_a0 x2) rfl <| fun b5 w3 z6 e4 k7 => ?_
 obtain ⟨z8, x9, H⟩ := bind_some H
 refine L_callS (.plain rfl) rfl (ltb rfl) rfl Tryz.call148 (draw_path.calls (w := w3) (a0 := a0) (a1 := z1) e4 f_a0 z6 k7 x9) rfl <| fun w12 g13 k14 => lp rfl rfl (xa (S z8.1) rfl) <| nx <| W_ret <| fin_r ?_
 obtain rfl := si H
 exact fin1 rfl (Ext.gr e4 g13 z6)
theorem spec_PathDrawn.calls {w : World} {a0 : List Int} {r : List UInt8} {v_a0 : Value} (f_a0 : Rd 1 (Go.UL.encI .u8) w v_a0 a0) (H : (spec_PathDrawn.sh a0) = some r) :
  Calls Tryz.prog 52 #[v_a0] w (Rt (RP w (S r))) := spec_PathDrawn.walk f_a0 (spec_PathDrawn.eq a0 H)
/-! spec.RecordDrawn -/
theorem spec_RecordDrawn.walk {w : World} {a0 : List Int} {v_a0 : Value} (f_a0 : Rd 1 (Go.UL.encI .u8) w v_a0 a0) {r : Rec} (H : spec_RecordDrawn.sh a0 = some r) :
  Calls Tryz.prog 57 #[v_a0] w (Rt (RP w (.agg (encRec r).toArray))) := by
 unfold spec_RecordDrawn.sh at H
 refine calls_of_WG Tryz.func57 rfl (Nat.le_of_ble_eq_true rfl) Tryz.ntmps57 ?_
 refine wr <| L_alloc (.plain rfl) rfl (ltb rfl) rfl Tryz.zeroValue58 <| fun b1 w2 z3 z4 e5 k6 => nx <| wr <| lp rfl rfl (xm v_a0 rfl) ?_
 obtain ⟨z7, x8, H⟩ := bind_some H
 refine L_callSN (.plain rfl) rfl (ltb rfl) rfl Tryz.call103 (spec_l00Source.calls (w := w2) (a0 := a0) (Rd.ext f_a0 e5) x8) rfl <| fun b11 w9 z12 e10 k13 => lp rfl rfl (xa (.pointer (some ⟨b11, 0, none⟩)) rfl) <| nx <| wr <| lp rfl rfl (xm (.pointer (some ⟨b11, 0, none⟩)) rfl) <| lp rfl rfl (xm (.pointer (some ⟨b11, 0, none⟩)) rfl) ?_
 obtain ⟨z14, x15, H⟩ := bind_some H
 refine L_callS (.plain rfl) rfl (ltb rfl) rfl Tryz.call148 (draw_path.calls (w := w9) (a0 := a0) (a1 := z7) e10 (Rd.ext f_a0 e5) z12 k13 x15) rfl <| fun w18 g19 k20 => ?_
 obtain ⟨z21, x22, H⟩ := bind_some H
 refine L_callS (.plain rfl) rfl (ltb rfl) rfl Tryz.call153 (draw_record.calls (w := w18) (a0 := a0) (a1 := z14.2) (a2 := z14.1) (Ext.gr e10 g19 z12) (Rd.ext f_a0 e5) z12 k20 x22) rfl <| fun w25 g26 k27 => L_storeA (.plain rfl) rfl rfl Tryz.sizeOf58 rfl rfl rfl rfl rfl (Blk.ext k6 (Ext.gr (Ext.gr e10 g19 z12) g26 z12)) <| fun w28 h29 k30 => nx <| W_ret <| finG_r ?_
 obtain rfl := si H
 exact finC1 rfl rfl k30 Tryz.isAgg58 Tryz.sizeOf58 rfl (Below.trans (e5.t (Ext.gr (Ext.gr e10 g19 z12) g26 z12)) (Wr.below h29 (Nat.le_of_eq z3)))
theorem spec_RecordDrawn.calls {w : World} {a0 : List Int} {r : Rec} {v_a0 : Value} (f_a0 : Rd 1 (Go.UL.encI .u8) w v_a0 a0) (H : (spec_RecordDrawn.sh a0) = some r) :
  Calls Tryz.prog 57 #[v_a0] w (Rt (RP w (.agg (encRec r).toArray))) := spec_RecordDrawn.walk f_a0 (spec_RecordDrawn.eq a0 H)
/-! laws.at -/
abbrev laws_at.e1 (a0 : List Int) (a1 : Int) := (IntKind.wrap .i64 ((IntKind.wrap .i64 ((IntKind.wrap .i64 ((IntKind.wrap .i64 (gt a0 (a1.tmod (a0.length : Int)))) * 31)) + (IntKind.wrap .i64 (gt a0 ((IntKind.wrap .i64 (a1 + 1)).tmod (a0.length : Int)))))) + (IntKind.wrap .i64 (a1.tdiv (a0.length : Int)))))
theorem laws_at.walk {w : World} {a0 : List Int} {a1 : Int} {a2 : Int} {v_a0 : Value} (f_a0 : Rd 1 (Go.UL.encI .u8) w v_a0 a0) {r : Int} (H : laws_at.sh a0 a1 a2 = some r) :
  Calls Tryz.prog 15 #[v_a0, .int .i64 a1, .int .i64 a2] w (Rt (RP w (.int .i64 r))) := by
 unfold laws_at.sh at H
 refine calls_of_W Tryz.func15 rfl (Nat.le_of_ble_eq_true rfl) Tryz.ntmps15 rfl ?_
 refine wr <| lp rfl rfl (xa (.int .i64 0) rfl) <| nx <| W_seq <| wr <| lp rfl rfl (xm (.int .i64 a2) rfl) <| lp rfl rfl (X_leq rfl rfl) <| nx ?_
 rcases bif_two H with ⟨q1, H⟩ | ⟨q1, H⟩
 ·refine W_true (cb q1) <| wr <| lp rfl rfl (xa (.int .i64 0) rfl) <| nx <| W_ret <| thn_r <| fin_r ?_
  obtain rfl := si H
  exact fin1 rfl er
 ·refine W_false (cb q1) <| W_skip <| thn_n <| W_seq <| wr <| lp rfl rfl (xm v_a0 rfl) <| lp rfl rfl (X_lenR Tryz.underlying22 rfl f_a0) <| lp rfl rfl (X_eql rfl rfl) <| nx ?_
  rcases bif_two H with ⟨q2, H⟩ | ⟨q2, H⟩
  ·refine W_true (cb q2) <| wr <| lp rfl rfl (xm (.int .i64 a1) rfl) <| lp rfl rfl (X_mul rfl rfl) <| lp rfl rfl (xm (.int .i64 a2) rfl) ?_
   obtain ⟨c3, H⟩ := bif_some H
   refine lp rfl rfl (X_rem rfl rfl (od c3)) <| lp rfl rfl (xa (.int .i64 ((IntKind.wrap .i64 (a1 * 7)).tmod a2)) rfl) <| nx <| W_ret <| thn_r <| fin_r ?_
   obtain rfl := si H
   exact fin1 rfl er
  ·refine W_false (cb q2) <| W_skip <| thn_n <| W_seq ?_
   obtain ⟨c4, H⟩ := bif_some H
   obtain ⟨c5, H⟩ := bif_some H
   obtain ⟨c8, H⟩ := bif_some H
   obtain ⟨c9, H⟩ := bif_some H
   obtain ⟨c12, H⟩ := bif_some H
   obtain ⟨c13, H⟩ := bif_some H
   refine W_dM [LEq v_a0, LEq (.int .i64 a1), LEq v_a0, LEq (.int .i64 (a0.length : Int)), LEq (.int .i64 (a1.tmod (a0.length : Int))), LAt0 ((Go.UL.encI .u8) (gt a0 (a1.tmod (a0.length : Int)))), LEq (.int .u8 (gt a0 (a1.tmod (a0.length : Int)))), LEq (.int .i64 (IntKind.wrap .i64 (gt a0 (a1.tmod (a0.length : Int))))), LEq (.int .i64 (IntKind.wrap .i64 ((IntKind.wrap .i64 (gt a0 (a1.tmod (a0.length : Int)))) * 31))), LEq v_a0, LEq (.int .i64 a1), LEq (.int .i64 (IntKind.wrap .i64 (a1 + 1))), LEq v_a0, LEq (.int .i64 (a0.length : Int)), LEq (.int .i64 ((IntKind.wrap .i64 (a1 + 1)).tmod (a0.length : Int))), LAt0 ((Go.UL.encI .u8) (gt a0 ((IntKind.wrap .i64 (a1 + 1)).tmod (a0.length : Int)))), LEq (.int .u8 (gt a0 ((IntKind.wrap .i64 (a1 + 1)).tmod (a0.length : Int)))), LEq (.int .i64 (IntKind.wrap .i64 (gt a0 ((IntKind.wrap .i64 (a1 + 1)).tmod (a0.length : Int))))), LEq (.int .i64 (IntKind.wrap .i64 ((IntKind.wrap .i64 ((IntKind.wrap .i64 (gt a0 (a1.tmod (a0.length : Int)))) * 31)) + (IntKind.wrap .i64 (gt a0 ((IntKind.wrap .i64 (a1 + 1)).tmod (a0.length : Int))))))), LEq (.int .i64 a1), LEq v_a0, LEq (.int .i64 (a0.length : Int)), LEq (.int .i64 (IntKind.wrap .i64 (a1.tdiv (a0.length : Int)))), LEq (.int .i64 (laws_at.e1 a0 a1)), LEq (.int .i64 a2), LEq (.int .i64 ((laws_at.e1 a0 a1).tmod a2)), LEq (.int .i64 ((laws_at.e1 a0 a1).tmod a2))] (by kernel_rfl) (by kernel_rfl) ⟨qm, qm, qm, qm, qm, LAt0.mono, qm, qm, qm, qm, qm, qm, qm, qm, qm, LAt0.mono, qm, qm, qm, qm, qm, qm, qm, qm, qm, qm, qm, trivial⟩ ⟨?_, ?_, ?_, ?_, ?_, ?_, ?_, ?_, ?_, ?_, ?_, ?_, ?_, ?_, ?_, ?_, ?_, ?_, ?_, ?_, ?_, ?_, ?_, ?_, ?_, ?_, ?_, trivial⟩ ?_
   ·exact fun s x e f d u => lp rfl rfl (xm v_a0 (f 0 rfl)) <| se rfl rfl
   ·exact fun s x e f d u => lp rfl rfl (xm (.int .i64 a1) (f 1 rfl)) <| se rfl rfl
   ·exact fun s x e f d u => lp rfl rfl (xm v_a0 (f 0 rfl)) <| se rfl rfl
   ·exact fun s x e f d u => lp rfl rfl (X_lenR Tryz.underlying22 (d 2 rfl) (Rd.ext f_a0 e)) <| se rfl rfl
   ·exact fun s x e f d u => lp rfl rfl (X_rem (d 1 rfl) (d 3 rfl) (od c12)) <| se rfl rfl
   ·exact fun s x e f d u => L_idx (.plain rfl) rfl (ltb rfl) rfl Tryz.underlying22 Tryz.sizeOf5 (d 0 rfl) (Rd.ext f_a0 e) (d 4 rfl) c5 <| fun p16 h17 => se rfl ⟨_, rfl, h17⟩
   ·intro s x e f d u
    obtain ⟨p18, h19, h20⟩ := (d 5 rfl)
    exact lp rfl rfl (X_loadAt Tryz.isAgg5 h19 h20 rfl) <| se rfl rfl
   ·exact fun s x e f d u => lp rfl rfl (X_convInt Tryz.underlying5 Tryz.underlying3 (d 6 rfl)) <| se rfl rfl
   ·exact fun s x e f d u => lp rfl rfl (X_mul (d 7 rfl) rfl) <| se rfl rfl
   ·exact fun s x e f d u => lp rfl rfl (xm v_a0 (f 0 rfl)) <| se rfl rfl
   ·exact fun s x e f d u => lp rfl rfl (xm (.int .i64 a1) (f 1 rfl)) <| se rfl rfl
   ·exact fun s x e f d u => lp rfl rfl (X_add (d 10 rfl) rfl) <| se rfl rfl
   ·exact fun s x e f d u => lp rfl rfl (xm v_a0 (f 0 rfl)) <| se rfl rfl
   ·exact fun s x e f d u => lp rfl rfl (X_lenR Tryz.underlying22 (d 12 rfl) (Rd.ext f_a0 e)) <| se rfl rfl
   ·exact fun s x e f d u => lp rfl rfl (X_rem (d 11 rfl) (d 13 rfl) (od c12)) <| se rfl rfl
   ·exact fun s x e f d u => L_idx (.plain rfl) rfl (ltb rfl) rfl Tryz.underlying22 Tryz.sizeOf5 (d 9 rfl) (Rd.ext f_a0 e) (d 14 rfl) c9 <| fun p23 h24 => se rfl ⟨_, rfl, h24⟩
   ·intro s x e f d u
    obtain ⟨p25, h26, h27⟩ := (d 15 rfl)
    exact lp rfl rfl (X_loadAt Tryz.isAgg5 h26 h27 rfl) <| se rfl rfl
   ·exact fun s x e f d u => lp rfl rfl (X_convInt Tryz.underlying5 Tryz.underlying3 (d 16 rfl)) <| se rfl rfl
   ·exact fun s x e f d u => lp rfl rfl (X_add (d 8 rfl) (d 17 rfl)) <| se rfl rfl
   ·exact fun s x e f d u => lp rfl rfl (xm (.int .i64 a1) (f 1 rfl)) <| se rfl rfl
   ·exact fun s x e f d u => lp rfl rfl (xm v_a0 (f 0 rfl)) <| se rfl rfl
   ·exact fun s x e f d u => lp rfl rfl (X_lenR Tryz.underlying22 (d 20 rfl) (Rd.ext f_a0 e)) <| se rfl rfl
   ·exact fun s x e f d u => lp rfl rfl (X_quo (d 19 rfl) (d 21 rfl) (od c12)) <| se rfl rfl
   ·exact fun s x e f d u => lp rfl rfl (X_add (d 18 rfl) (d 22 rfl)) <| se rfl rfl
   ·exact fun s x e f d u => lp rfl rfl (xm (.int .i64 a2) (f 2 rfl)) <| se rfl rfl
   ·exact fun s x e f d u => lp rfl rfl (X_rem (d 23 rfl) (d 24 rfl) (od c13)) <| se rfl rfl
   ·exact fun s x e f d u => lp rfl rfl (X_assign (d 25 rfl)) <| se rfl rfl
   intro s30 w31 e32 hf33 ha34
   have K35 := Kp.ofD (kp := [(6, 7), (16, 42)]) rfl hf33
   have d36 : s30 6 = (.int .i64 ((laws_at.e1 a0 a1).tmod a2)) := ha34 26 rfl
   clear ha34 hf33
   refine thn_n <| W_ret <| fin_r ?_
   obtain rfl := si H
   exact fin1 d36 e32
theorem laws_at.calls {w : World} {a0 : List Int} {a1 : Int} {a2 : Int} {r : Int} {v_a0 : Value} (f_a0 : Rd 1 (Go.UL.encI .u8) w v_a0 a0) (H : (laws_at.sh a0 a1 a2) = some r) :
  Calls Tryz.prog 15 #[v_a0, .int .i64 a1, .int .i64 a2] w (Rt (RP w (.int .i64 r))) := laws_at.walk f_a0 (laws_at.eq a0 a1 a2 H)
/-! laws.sameRecords -/
theorem laws_sameRecords.calls {w : World} {a0 : List Rec} {a1 : List Rec} {v_a0 : Value} (f_a0 : Rd 5 encRec w v_a0 a0) {v_a1 : Value} (f_a1 : Rd 5 encRec w v_a1 a1) (h0 : a0.length ≤ 4611686018427387904) :
  Calls Tryz.prog 31 #[v_a0, v_a1] w (Rt (RP w (.bool (decide (a0 = a1))))) := by
 obtain ⟨k, H⟩ := laws_sameRecords.eq a0 a1 h0
 generalize (decide (a0 = a1)) = r at H ⊢
 unfold laws_sameRecords.sh at H
 refine calls_of_W Tryz.func31 rfl (Nat.le_of_ble_eq_true rfl) Tryz.ntmps31 rfl ?_
 refine wr <| lp rfl rfl (xa (.bool false) rfl) <| nx <| W_seq <| wr <| lp rfl rfl (xm v_a0 rfl) <| lp rfl rfl (X_lenR Tryz.underlying35 rfl f_a0) <| lp rfl rfl (xm v_a1 rfl) <| lp rfl rfl (X_lenR Tryz.underlying35 rfl f_a1) <| lp rfl rfl (X_neq rfl rfl) <| nx ?_
 rcases bif_two H with ⟨q1, H⟩ | ⟨q1, H⟩
 ·refine W_true (cb q1) <| wr <| lp rfl rfl (xa (.bool false) rfl) <| nx <| W_ret <| thn_r <| fin_r ?_
  obtain rfl := si H
  exact fin1 rfl er
 ·refine W_false (cb q1) <| W_skip <| thn_n <| W_seq <| wr <| lp rfl rfl (xa (.int .i64 0) rfl) <| nx ?_
  obtain ⟨z3, L4, C5⟩ := bind_some H
  clear H
  refine  W_cutQ (fun s0 sQ wQ => Kp [(4, 6), (11, 26)] s0 sQ ∧ Ext w wQ ∧ z3 = .inr ()) ?_ ?_
  ·refine W_block <| W_loopI (fun s0 kk sQ wQ => ∃ (x5_2 : Int), Kp [(4, 6), (11, 26)] s0 sQ ∧ sQ 5 = .int .i64 x5_2 ∧ Ext w wQ ∧ loopF (laws_sameRecords.b1 a0 a1) kk x5_2 = some z3) k ⟨0, kz, rfl, er, L4⟩ ?_
   rintro k10 s11 w12 ⟨x5_2, K13, h16, e14, L15⟩
   cases k10 with
   | zero => exact absurd L15 (by simp [loopF])
   | succ k10 =>
    obtain ⟨t17, H, S18⟩ := loopF_succ L15
    clear L15
    unfold laws_sameRecords.b1 at H
    refine W_seq <| wr <| lp rfl rfl (X_move h16) <| lp rfl rfl (xm v_a0 (K13 0 rfl)) <| lp rfl rfl (X_lenR Tryz.underlying35 rfl (Rd.ext f_a0 e14)) <| lp rfl rfl (X_lss rfl rfl) <| nx ?_
    rcases bif_two H with ⟨q19, H⟩ | ⟨q19, H⟩
    ·refine W_true (cb q19) <| W_skip <| thn_n <| W_seq <| W_block <| W_seq ?_
     obtain ⟨c20, H⟩ := bif_some H
     obtain ⟨c23, H⟩ := bif_some H
     refine W_dM [LEq v_a0, LEq (.int .i64 x5_2), LAt0 (encRec (gt a0 x5_2)), LEq (.agg (encRec (gt a0 x5_2)).toArray), LEq v_a1, LEq (.int .i64 x5_2), LAt0 (encRec (gt a1 x5_2)), LEq (.agg (encRec (gt a1 x5_2)).toArray), LEq (.bool (!decide ((gt a0 x5_2) = (gt a1 x5_2))))] (by kernel_rfl) (by kernel_rfl) ⟨qm, qm, LAt0.mono, qm, qm, qm, LAt0.mono, qm, qm, trivial⟩ ⟨?_, ?_, ?_, ?_, ?_, ?_, ?_, ?_, ?_, trivial⟩ ?_
     ·exact fun s x e f d u => lp rfl rfl (xm v_a0 ((f 0 rfl).trans (K13 0 rfl))) <| se rfl rfl
     ·exact fun s x e f d u => lp rfl rfl (xm (.int .i64 x5_2) ((f 5 rfl).trans h16)) <| se rfl rfl
     ·exact fun s x e f d u => L_idx (.plain rfl) rfl (ltb rfl) rfl Tryz.underlying35 Tryz.sizeOf58 (d 0 rfl) (Rd.ext f_a0 (e14.t e)) (d 1 rfl) c20 <| fun p27 h28 => se rfl ⟨_, rfl, h28⟩
     ·intro s x e f d u
      obtain ⟨p29, h30, h31⟩ := (d 2 rfl)
      exact lp rfl rfl (X_loadS Tryz.isAgg58 Tryz.sizeOf58 rfl h30 h31) <| se rfl rfl
     ·exact fun s x e f d u => lp rfl rfl (xm v_a1 ((f 1 rfl).trans (K13 1 rfl))) <| se rfl rfl
     ·exact fun s x e f d u => lp rfl rfl (xm (.int .i64 x5_2) ((f 5 rfl).trans h16)) <| se rfl rfl
     ·exact fun s x e f d u => L_idx (.plain rfl) rfl (ltb rfl) rfl Tryz.underlying35 Tryz.sizeOf58 (d 4 rfl) (Rd.ext f_a1 (e14.t e)) (d 5 rfl) c23 <| fun p33 h34 => se rfl ⟨_, rfl, h34⟩
     ·intro s x e f d u
      obtain ⟨p35, h36, h37⟩ := (d 6 rfl)
      exact lp rfl rfl (X_loadS Tryz.isAgg58 Tryz.sizeOf58 rfl h36 h37) <| se rfl rfl
     ·exact fun s x e f d u => lp rfl rfl (X_neA Eqg.t58 (Eqs.t58 (gt a0 x5_2) (gt a1 x5_2)) (d 3 rfl) (d 7 rfl)) <| se rfl rfl
     intro s38 w39 e40 hf41 ha42
     have K43 := Kp.ofD (kp := [(17, 26)]) rfl hf41
     have d44 : s38 25 = (.bool (!decide ((gt a0 x5_2) = (gt a1 x5_2)))) := ha42 8 rfl
     clear ha42 hf41
     refine thn_n ?_
     rcases bif_two H with ⟨q45, H⟩ | ⟨q45, H⟩
     ·refine W_true (d44.trans (cb q45)) <| wr <| lp rfl rfl (xa (.bool false) rfl) <| nx <| W_ret <| blk_r <| thn_r <| thn_r <| blk_r <| thn_r <| thn_r <| fin_r ?_
      obtain rfl := si H
      obtain rfl := si S18
      have H := C5
      obtain rfl := si H
      exact fin1 rfl (e14.t e40)
     ·refine W_false (d44.trans (cb q45)) <| W_skip <| blk_n <| thn_n <| W_reg <| lp rfl rfl (xm (.int .i64 x5_2) ((K43 5 rfl).trans h16)) <| lp rfl rfl (X_add rfl rfl) <| lp rfl rfl (xa (.int .i64 (IntKind.wrap .i64 (x5_2 + 1))) rfl) <| nx ?_
      obtain rfl := si H
      exact ⟨_, Nat.lt_succ_self _, IntKind.wrap .i64 (x5_2 + 1), (ku3 (Kp.cut (ku4 K13 rfl) K43 rfl) rfl), rfl, (e14.t e40), S18⟩
    ·refine W_false (cb q19) <| W_exit <| thn_x <| thn_x <| blk_x <| thn_n ?_
     obtain rfl := si H
     obtain rfl := si S18
     exact ⟨(ku4 K13 rfl), e14, rfl⟩
  ·rintro s7 w6 ⟨K8, e9, y46⟩
   rw [y46] at C5
   have H := C5
   replace H : _ = some _ := H
   refine thn_n <| wr <| lp rfl rfl (xa (.bool true) rfl) <| nx <| W_ret <| fin_r ?_
   obtain rfl := si H
   exact fin1 rfl e9
/-! laws.sameNodes -/
theorem laws_sameNodes.calls {w : World} {a0 : List Nd} {a1 : List Nd} {v_a0 : Value} (f_a0 : Rd 4 encNd w v_a0 a0) {v_a1 : Value} (f_a1 : Rd 4 encNd w v_a1 a1) (h0 : a0.length ≤ 4611686018427387904) :
  Calls Tryz.prog 22 #[v_a0, v_a1] w (Rt (RP w (.bool (decide (a0 = a1))))) := by
 obtain ⟨k, H⟩ := laws_sameNodes.eq a0 a1 h0
 generalize (decide (a0 = a1)) = r at H ⊢
 unfold laws_sameNodes.sh at H
 refine calls_of_W Tryz.func22 rfl (Nat.le_of_ble_eq_true rfl) Tryz.ntmps22 rfl ?_
 refine wr <| lp rfl rfl (xa (.bool false) rfl) <| nx <| W_seq <| wr <| lp rfl rfl (xm v_a0 rfl) <| lp rfl rfl (X_lenR Tryz.underlying29 rfl f_a0) <| lp rfl rfl (xm v_a1 rfl) <| lp rfl rfl (X_lenR Tryz.underlying29 rfl f_a1) <| lp rfl rfl (X_neq rfl rfl) <| nx ?_
 rcases bif_two H with ⟨q1, H⟩ | ⟨q1, H⟩
 ·refine W_true (cb q1) <| wr <| lp rfl rfl (xa (.bool false) rfl) <| nx <| W_ret <| thn_r <| fin_r ?_
  obtain rfl := si H
  exact fin1 rfl er
 ·refine W_false (cb q1) <| W_skip <| thn_n <| W_seq <| wr <| lp rfl rfl (xa (.int .i64 0) rfl) <| nx ?_
  obtain ⟨z3, L4, C5⟩ := bind_some H
  clear H
  refine  W_cutQ (fun s0 sQ wQ => Kp [(4, 6), (11, 26)] s0 sQ ∧ Ext w wQ ∧ z3 = .inr ()) ?_ ?_
  ·refine W_block <| W_loopI (fun s0 kk sQ wQ => ∃ (x5_2 : Int), Kp [(4, 6), (11, 26)] s0 sQ ∧ sQ 5 = .int .i64 x5_2 ∧ Ext w wQ ∧ loopF (laws_sameNodes.b1 a0 a1) kk x5_2 = some z3) k ⟨0, kz, rfl, er, L4⟩ ?_
   rintro k10 s11 w12 ⟨x5_2, K13, h16, e14, L15⟩
   cases k10 with
   | zero => exact absurd L15 (by simp [loopF])
   | succ k10 =>
    obtain ⟨t17, H, S18⟩ := loopF_succ L15
    clear L15
    unfold laws_sameNodes.b1 at H
    refine W_seq <| wr <| lp rfl rfl (X_move h16) <| lp rfl rfl (xm v_a0 (K13 0 rfl)) <| lp rfl rfl (X_lenR Tryz.underlying29 rfl (Rd.ext f_a0 e14)) <| lp rfl rfl (X_lss rfl rfl) <| nx ?_
    rcases bif_two H with ⟨q19, H⟩ | ⟨q19, H⟩
    ·refine W_true (cb q19) <| W_skip <| thn_n <| W_seq <| W_block <| W_seq ?_
     obtain ⟨c20, H⟩ := bif_some H
     obtain ⟨c23, H⟩ := bif_some H
     refine W_dM [LEq v_a0, LEq (.int .i64 x5_2), LAt0 (encNd (gt a0 x5_2)), LEq (.agg (encNd (gt a0 x5_2)).toArray), LEq v_a1, LEq (.int .i64 x5_2), LAt0 (encNd (gt a1 x5_2)), LEq (.agg (encNd (gt a1 x5_2)).toArray), LEq (.bool (!decide ((gt a0 x5_2) = (gt a1 x5_2))))] (by kernel_rfl) (by kernel_rfl) ⟨qm, qm, LAt0.mono, qm, qm, qm, LAt0.mono, qm, qm, trivial⟩ ⟨?_, ?_, ?_, ?_, ?_, ?_, ?_, ?_, ?_, trivial⟩ ?_
     ·exact fun s x e f d u => lp rfl rfl (xm v_a0 ((f 0 rfl).trans (K13 0 rfl))) <| se rfl rfl
     ·exact fun s x e f d u => lp rfl rfl (xm (.int .i64 x5_2) ((f 5 rfl).trans h16)) <| se rfl rfl
     ·exact fun s x e f d u => L_idx (.plain rfl) rfl (ltb rfl) rfl Tryz.underlying29 Tryz.sizeOf60 (d 0 rfl) (Rd.ext f_a0 (e14.t e)) (d 1 rfl) c20 <| fun p27 h28 => se rfl ⟨_, rfl, h28⟩
     ·intro s x e f d u
      obtain ⟨p29, h30, h31⟩ := (d 2 rfl)
      exact lp rfl rfl (X_loadS Tryz.isAgg60 Tryz.sizeOf60 rfl h30 h31) <| se rfl rfl
     ·exact fun s x e f d u => lp rfl rfl (xm v_a1 ((f 1 rfl).trans (K13 1 rfl))) <| se rfl rfl
     ·exact fun s x e f d u => lp rfl rfl (xm (.int .i64 x5_2) ((f 5 rfl).trans h16)) <| se rfl rfl
     ·exact fun s x e f d u => L_idx (.plain rfl) rfl (ltb rfl) rfl Tryz.underlying29 Tryz.sizeOf60 (d 4 rfl) (Rd.ext f_a1 (e14.t e)) (d 5 rfl) c23 <| fun p33 h34 => se rfl ⟨_, rfl, h34⟩
     ·intro s x e f d u
      obtain ⟨p35, h36, h37⟩ := (d 6 rfl)
      exact lp rfl rfl (X_loadS Tryz.isAgg60 Tryz.sizeOf60 rfl h36 h37) <| se rfl rfl
     ·exact fun s x e f d u => lp rfl rfl (X_neA Eqg.t60 (Eqs.t60 (gt a0 x5_2) (gt a1 x5_2)) (d 3 rfl) (d 7 rfl)) <| se rfl rfl
     intro s38 w39 e40 hf41 ha42
     have K43 := Kp.ofD (kp := [(17, 26)]) rfl hf41
     have d44 : s38 25 = (.bool (!decide ((gt a0 x5_2) = (gt a1 x5_2)))) := ha42 8 rfl
     clear ha42 hf41
     refine thn_n ?_
     rcases bif_two H with ⟨q45, H⟩ | ⟨q45, H⟩
     ·refine W_true (d44.trans (cb q45)) <| wr <| lp rfl rfl (xa (.bool false) rfl) <| nx <| W_ret <| blk_r <| thn_r <| thn_r <| blk_r <| thn_r <| thn_r <| fin_r ?_
      obtain rfl := si H
      obtain rfl := si S18
      have H := C5
      obtain rfl := si H
      exact fin1 rfl (e14.t e40)
     ·refine W_false (d44.trans (cb q45)) <| W_skip <| blk_n <| thn_n <| W_reg <| lp rfl rfl (xm (.int .i64 x5_2) ((K43 5 rfl).trans h16)) <| lp rfl rfl (X_add rfl rfl) <| lp rfl rfl (xa (.int .i64 (IntKind.wrap .i64 (x5_2 + 1))) rfl) <| nx ?_
      obtain rfl := si H
      exact ⟨_, Nat.lt_succ_self _, IntKind.wrap .i64 (x5_2 + 1), (ku3 (Kp.cut (ku4 K13 rfl) K43 rfl) rfl), rfl, (e14.t e40), S18⟩
    ·refine W_false (cb q19) <| W_exit <| thn_x <| thn_x <| blk_x <| thn_n ?_
     obtain rfl := si H
     obtain rfl := si S18
     exact ⟨(ku4 K13 rfl), e14, rfl⟩
  ·rintro s7 w6 ⟨K8, e9, y46⟩
   rw [y46] at C5
   have H := C5
   replace H : _ = some _ := H
   refine thn_n <| wr <| lp rfl rfl (xa (.bool true) rfl) <| nx <| W_ret <| fin_r ?_
   obtain rfl := si H
   exact fin1 rfl e9
/-! spec.l03Put, by text -/
theorem spec_l03PutF.calls {w : World} {a0 : List Rec} {a1 : Rec} {v_a0 : Value} (f_a0 : Rd 5 encRec w v_a0 a0) (h0 : False) : Calls Tryz.prog 202 #[v_a0, .agg (encRec a1).toArray] w (Rt (RO 58 5 encRec w ([] : List Rec))) := h0.elim

/-! spec.l03Put -/
abbrev spec_l03Put0.e1 (a1 : Rec) (x0_13 : List Rec) (x9_50 : Int) := ((!decide (((gt x0_13 x9_50).path) = a1.path)) && (!(decide (a1.kind = 3))))
abbrev spec_l03Put0.e2 (a1 : Rec) (x0_13 : List Rec) (x9_50 : Int) := ((decide (a1.path = []) && !decide (((gt x0_13 x9_50).path) = [])) || belowP ((gt x0_13 x9_50).path) a1.path)
theorem spec_l03Put0.walk {k : Nat} {w : World} {a0 : List Rec} {a1 : Rec} {v_a0 : Value} (f_a0 : Rd 5 encRec w v_a0 a0) {r : List Rec} (H : spec_l03Put0.sh k a0 a1 = some r) :
  Calls Tryz.prog 202 #[v_a0, .agg (encRec a1).toArray] w (Rt (RO 58 5 encRec w r)) := by
 unfold spec_l03Put0.sh at H
 refine calls_of_W Tryz.func202 rfl (Nat.le_of_ble_eq_true rfl) Tryz.ntmps202 rfl ?_
 refine wr <| L_box (.plain rfl) rfl (ltb rfl) rfl rfl <| fun b1 w2 z3 z4 e5 k6 => lp rfl rfl (xa (.slice none 0 0) rfl) <| nx <| W_seq <| wr <| lp rfl rfl (X_fieldAddr Tryz.underlying58 rfl Tryz.sizeOf9 rfl rfl) <| lp rfl rfl (X_loadB Tryz.isAgg9 k6 rfl rfl) ?_
 obtain ⟨c7, H⟩ := bif_some H
 refine lc rfl rfl rfl Tryz.call161 (spec_l01Parent.calls (w := w2) (a0 := a1.path) (od c7)) rfl <| fun w8 e9 => lp rfl rfl (xa (S (parentP a1.path)) rfl) <| nx <| wr <| lp rfl rfl (xm (S (parentP a1.path)) rfl) <| lp rfl rfl (X_sne rfl rfl) <| nx ?_
 obtain ⟨z10, L11, C12⟩ := bind_some H
 clear H
 refine W_cutQ (fun s0 sQ wQ => ∃ (x0_13 : List Rec) (v14 : Value), Kp [(0, 1), (6, 7), (15, 32)] s0 sQ ∧ sQ 0 = v14 ∧ Rd 5 encRec wQ v14 x0_13 ∧ Ext w8 wQ ∧ z10 = .inr x0_13) ?_ ?_
 ·have H := L11
  rcases bif_two H with ⟨q15, H⟩ | ⟨q15, H⟩
  ·refine W_true (cb q15) <| wr <| lp rfl rfl (xm v_a0 rfl) <| lp rfl rfl (xm (S (parentP a1.path)) rfl) ?_
   obtain ⟨c16, H⟩ := bif_some H
   refine lc rfl rfl rfl Tryz.call145 (spec_l03At.calls (w := w8) (a0 := a0) (a1 := (parentP a1.path)) (Rd.ext f_a0 (e5.t e9)) (od c16)) rfl <| fun w17 e18 => lp rfl rfl (xa (.int .i64 (findR a0 (parentP a1.path))) rfl) <| nx <| wr <| lp rfl rfl (xm (.int .i64 (findR a0 (parentP a1.path))) rfl) <| lp rfl rfl (X_lss rfl rfl) <| lp rfl rfl (xm (.bool (decide ((findR a0 (parentP a1.path)) < 0))) rfl) ?_
   obtain ⟨z20, x21, H⟩ := bind_some H
   refine L_grpE 7 [(21, 28)] 27 (fun q => q = z20) ?_ ?_
   ·rcases bif_two x21 with ⟨b18_, H⟩ | ⟨b18_, H⟩
    ·refine ls rfl rfl rfl (cb b18_) rfl <| ls rfl rfl rfl (cb b18_) rfl <| ls rfl rfl rfl (cb b18_) rfl <| ls rfl rfl rfl (cb b18_) rfl <| ls rfl rfl rfl (cb b18_) rfl <| ls rfl rfl rfl (cb b18_) rfl <| lp rfl rfl (X_pick (b := true) (v := (.bool true)) (cb b18_) rfl) ?_
     obtain rfl := si H
     exact nx ⟨(ku3 (ku4 kz rfl) rfl), ⟨_, rfl, rfl⟩, er⟩
    ·refine lg rfl rfl rfl rfl (cb b18_) (xm v_a0 rfl) <| lg rfl rfl rfl rfl (cb b18_) (xm (.int .i64 (findR a0 (parentP a1.path))) rfl) ?_
     obtain ⟨c20, H⟩ := bif_some H
     refine L_idx (tg rfl rfl rfl (cb b18_)) rfl (ltb rfl) rfl Tryz.underlying35 Tryz.sizeOf58 rfl (Rd.ext f_a0 ((e5.t e9).t e18)) rfl c20 <| fun p21 h22 => lg rfl rfl rfl rfl (cb b18_) (X_fieldAddr Tryz.underlying58 rfl Tryz.sizeOf3 rfl rfl) <| lg rfl rfl rfl rfl (cb b18_) (X_loadF Tryz.isAgg3 (j := 0) h22 rfl rfl) <| lg rfl rfl rfl rfl (cb b18_) (X_neq rfl rfl) <| lp rfl rfl (X_pick (b := false) (v := (.bool (!decide (((gt a0 (findR a0 (parentP a1.path))).kind) = 3)))) (cb b18_) rfl) ?_
     obtain rfl := si H
     exact nx ⟨(ku3 (ku4 kz rfl) rfl), ⟨_, rfl, rfl⟩, er⟩
   intro s26 w22 z27 K23 hq h24 e25
   rw [hq] at h24; clear hq
   refine nx ?_
   rcases bif_two H with ⟨q28, H⟩ | ⟨q28, H⟩
   ·refine W_true (h24.trans (cb q28)) <| W_reg <| lp rfl rfl (xm v_a0 (K23 0 rfl)) <| lp rfl rfl (xm (S (parentP a1.path)) (K23 5 rfl)) <| lp rfl rfl (X_build1 (vs := [(0, (.int .i64 3)), (1, (S (parentP a1.path))), (3, (.int .i64 493))]) (pl := #[(0, 1), (1, 1), (2, 1), (3, 1), (4, 1)]) Tryz.underlying58 Tryz.zeroValue58 rfl (fun _ => by kernel_rfl) rfl rfl rfl) ?_
    obtain ⟨c29, H⟩ := bif_some H
    refine L_callO (.plain rfl) rfl (ltb rfl) rfl Tryz.call202 (spec_l03PutF.calls (w := w22) (a0 := a0) (a1 := (⟨3, (parentP a1.path), ([] : List UInt8), 493, false⟩ : Rec)) (Rd.ext f_a0 (((e5.t e9).t e18).t e25)) (od c29)) rfl <| fun v32 w30 e31 o33 => lp rfl rfl (xa v32 rfl) <| nx ?_
    obtain rfl := si H
    exact ⟨([] : List Rec), v32, (ku1 (ku4 (Kp.cut (ku3 (ku4 kz rfl) rfl) K23 rfl) rfl) rfl), rfl, (Ow.rd o33), ((e18.t e25).t e31), rfl⟩
   ·refine W_false (h24.trans (cb q28)) <| W_skip <| thn_n ?_
    obtain rfl := si H
    exact ⟨a0, v_a0, (Kp.cut (ku3 (ku4 kz rfl) rfl) K23 rfl), (K23 0 rfl), (Rd.ext f_a0 (((e5.t e9).t e18).t e25)), (e18.t e25), rfl⟩
  ·refine W_false (cb q15) <| W_skip <| thn_n ?_
   obtain rfl := si H
   exact ⟨a0, v_a0, kz, rfl, (Rd.ext f_a0 (e5.t e9)), er, rfl⟩
 ·rintro s35 w34 ⟨x0_13, v14, K36, h39, h40, e37, y38⟩
  rw [y38] at C12
  have H := C12
  refine thn_n <| wr <| L_lit (.plain rfl) rfl (ltb rfl) rfl Tryz.underlying35 Tryz.sizeOf58 Tryz.zeroValue58 rfl rfl rfl (vs := []) rfl (lit_all rfl) <| fun b41 w42 z43 z44 e45 k46 => lp rfl rfl (xa (.slice (some ⟨b41, 0, none⟩) 0 0) rfl) <| nx <| wr <| lp rfl rfl (xa (.bool false) rfl) <| nx <| W_seq <| wr <| lp rfl rfl (xa (.int .i64 0) rfl) <| nx ?_
  obtain ⟨z51, L52, C53⟩ := bind_some H
  clear H
  refine  W_cutQ (fun s0 sQ wQ => ∃ (x7_54 : List Rec) (v55 : Value) (x8_56 : Bool), Kp [(7, 10), (33, 86)] s0 sQ ∧ sQ 7 = v55 ∧ Ow 58 5 encRec w42.heap.size wQ v55 x7_54 ∧ sQ 8 = .bool x8_56 ∧ Ext w42 wQ ∧ z51 = .inr (x7_54, x8_56)) ?_ ?_
  ·refine W_block <| W_loopI (fun s0 kk sQ wQ => ∃ (x7_47 : List Rec) (v48 : Value) (x8_49 : Bool) (x9_50 : Int), Kp [(7, 10), (33, 86)] s0 sQ ∧ sQ 7 = v48 ∧ Ow 58 5 encRec w42.heap.size wQ v48 x7_47 ∧ sQ 8 = .bool x8_49 ∧ sQ 9 = .int .i64 x9_50 ∧ Ext w42 wQ ∧ loopF (spec_l03Put0.b1 a1 x0_13) kk (x7_47, x8_49, x9_50) = some z51) k ⟨([] : List Rec), (.slice (some ⟨b41, 0, none⟩) 0 0), false, 0, kz, rfl, (Ow.zero), rfl, rfl, er, L52⟩ ?_
   rintro k61 s62 w63 ⟨x7_47, v48, x8_49, x9_50, K64, h67, h68, h69, h70, e65, L66⟩
   cases k61 with
   | zero => exact absurd L66 (by simp [loopF])
   | succ k61 =>
    obtain ⟨t71, H, S72⟩ := loopF_succ L66
    clear L66
    unfold spec_l03Put0.b1 at H
    refine W_seq <| wr <| lp rfl rfl (X_move h70) <| lp rfl rfl (xm v14 ((K64 0 rfl).trans h39)) <| lp rfl rfl (X_lenR Tryz.underlying35 rfl (Rd.ext h40 (e45.t e65))) <| lp rfl rfl (X_lss rfl rfl) <| nx ?_
    rcases bif_two H with ⟨q73, H⟩ | ⟨q73, H⟩
    ·refine W_true (cb q73) <| W_skip <| thn_n <| W_seq <| W_block <| W_seq <| W_seq ?_
     obtain ⟨c74, H⟩ := bif_some H
     obtain ⟨c77, H⟩ := bif_some H
     obtain ⟨c78, H⟩ := bif_some H
     refine W_dM [LEq (.bool x8_49), LEq (.bool (!x8_49)), LEq (.bool (!x8_49)), LIf (!x8_49) (LEq (.pointer (some ⟨b1, 1, none⟩))), LIf (!x8_49) (LEq (S a1.path)), LIf (!x8_49) (LEq v14), LIf (!x8_49) (LEq (.int .i64 x9_50)), LIf (!x8_49) (LAt0 (encRec (gt x0_13 x9_50))), LIf (!x8_49) (LAt 1 (encRec (gt x0_13 x9_50))), LIf (!x8_49) (LEq (S ((gt x0_13 x9_50).path))), LIf (!x8_49) (LEq (.bool (lessL (cut 47 a1.path) (cut 47 ((gt x0_13 x9_50).path))))), LEq (.bool ((!x8_49) && (lessL (cut 47 a1.path) (cut 47 ((gt x0_13 x9_50).path)))))] (by kernel_rfl) (by kernel_rfl) ⟨qm, qm, qm, lm, lm, lm, lm, (LIf.mono LAt0.mono), (LIf.mono LAt.mono), lm, lm, qm, trivial⟩ ⟨?_, ?_, ?_, ?_, ?_, ?_, ?_, ?_, ?_, ?_, ?_, ?_, trivial⟩ ?_
     ·exact fun s x e f d u => lp rfl rfl (xm (.bool x8_49) ((f 8 rfl).trans h69)) <| se rfl rfl
     ·exact fun s x e f d u => lp rfl rfl (X_not (d 0 rfl)) <| se rfl rfl
     ·exact fun s x e f d u => lp rfl rfl (X_move (d 1 rfl)) <| se rfl rfl
     ·exact fun s x e f d u => gT rfl rfl rfl rfl (d 2 rfl) rfl fun b t => lt t rfl rfl (X_fieldAddr Tryz.underlying58 rfl Tryz.sizeOf9 rfl ((f 3 rfl).trans ((K64 3 rfl).trans (K36 3 rfl)))) <| sg rfl rfl b rfl
     ·exact fun s x e f d u => gT rfl rfl rfl rfl (d 2 rfl) rfl fun b t => lt t rfl rfl (X_loadB Tryz.isAgg9 (Blk.ext k6 ((((e9.t e37).t e45).t e65).t e)) ((d 3 rfl).1 b) rfl) <| sg rfl rfl b rfl
     ·exact fun s x e f d u => gT rfl rfl rfl rfl (d 2 rfl) rfl fun b t => lt t rfl rfl (xm v14 ((f 0 rfl).trans ((K64 0 rfl).trans h39))) <| sg rfl rfl b rfl
     ·exact fun s x e f d u => gT rfl rfl rfl rfl (d 2 rfl) rfl fun b t => lt t rfl rfl (xm (.int .i64 x9_50) ((f 9 rfl).trans h70)) <| sg rfl rfl b rfl
     ·exact fun s x e f d u => gT rfl rfl rfl rfl (d 2 rfl) rfl fun b t => L_idx t rfl (ltb rfl) rfl Tryz.underlying35 Tryz.sizeOf58 ((d 5 rfl).1 b) (Rd.ext h40 ((e45.t e65).t e)) ((d 6 rfl).1 b) (imp_take b c74) <| fun p82 h83 => sg rfl rfl b ⟨_, rfl, h83⟩
     ·intro s x e f d u
      refine gT rfl rfl rfl rfl (d 2 rfl) rfl fun b t => ?_
      obtain ⟨p84, h85, h86⟩ := ((d 7 rfl).1 b)
      exact lt t rfl rfl (X_fieldAddr Tryz.underlying58 rfl Tryz.sizeOf9 rfl h85) <| sg rfl rfl b ⟨_, rfl, h86⟩
     ·intro s x e f d u
      refine gT rfl rfl rfl rfl (d 2 rfl) rfl fun b t => ?_
      obtain ⟨p87, h88, h89⟩ := ((d 8 rfl).1 b)
      exact lt t rfl rfl (X_loadF Tryz.isAgg9 (j := 1) h89 h88 rfl) <| sg rfl rfl b rfl
     ·exact fun s x e f d u => gT rfl rfl rfl rfl (d 2 rfl) rfl fun b t => L_callP t rfl (ltb rfl) rfl Tryz.call205 (spec_l01Less.calls (w := x) (a0 := a1.path) (a1 := (gt x0_13 x9_50).path) (od (imp_take b c77)) (od (imp_take b c78))) (cons2 ((d 4 rfl).1 b) (cons2 ((d 9 rfl).1 b) rfl)) <| fun w92 e93 => sgx rfl rfl b e93 rfl
     ·exact fun s x e f d u => lp rfl rfl (X_pickA (d 2 rfl) rfl fun h => ((d 10 rfl).1 h)) <| se rfl rfl
     intro s94 w95 e96 hf97 ha98
     have K99 := Kp.ofD (kp := [(39, 51)]) rfl hf97
     have d100 : s94 50 = (.bool ((!x8_49) && (lessL (cut 47 a1.path) (cut 47 ((gt x0_13 x9_50).path))))) := ha98 11 rfl
     clear ha98 hf97
     refine thn_n ?_
     obtain ⟨z101, L102, C103⟩ := bind_some H
     clear H
     refine W_cutQ (fun s0 sQ wQ => ∃ (x7_104 : List Rec) (v105 : Value) (x8_106 : Bool), Kp [(7, 9), (51, 55)] s0 sQ ∧ sQ 7 = v105 ∧ Ow 58 5 encRec w42.heap.size wQ v105 x7_104 ∧ sQ 8 = .bool x8_106 ∧ Ext w42 wQ ∧ z101 = .inr (x7_104, x8_106)) ?_ ?_
     ·have H := L102
      rcases bif_two H with ⟨q107, H⟩ | ⟨q107, H⟩
      ·refine W_true (d100.trans (cb q107)) <| wr <| lp rfl rfl (xm v48 ((K99 7 rfl).trans h67)) <| lp rfl rfl (X_loadS Tryz.isAgg58 Tryz.sizeOf58 rfl ((K99 3 rfl).trans ((K64 3 rfl).trans (K36 3 rfl))) (Blk.at0 (Blk.ext k6 ((((e9.t e37).t e45).t e65).t e96)))) <| L_lit (.plain rfl) rfl (ltb rfl) rfl Tryz.underlying35 Tryz.sizeOf58 Tryz.zeroValue58 rfl rfl rfl (vs := [(.agg #[(.int .i64 a1.kind), (S a1.path), (S a1.body), (.int .i64 a1.mode), (.bool a1.opq)])]) rfl (lit_all rfl) <| fun b108 w109 z110 z111 e112 k113 => ?_
       obtain ⟨c114, H⟩ := bif_some H
       refine L_append (enc := encRec) (.plain rfl) rfl (ltb rfl) rfl El.t35 rfl rfl (Ow.ext h68 (e96.t e112)) (Ow.rd (Ow.new (xs := [a1]) (sz := 5) (enc := encRec) (base := w95.heap.size) k113 (Nat.le_of_eq z110) rfl (fun _ _ => by rfl) (Nat.le_of_ble_eq_true rfl))) (ones_Rec _) (od c114) (((e65.t e96).t e112)).size <| fun v115 w116 o117 z118 g119 => lp rfl rfl (xa v115 rfl) <| nx <| W_reg <| lp rfl rfl (xa (.bool true) rfl) <| nx ?_
       obtain rfl := si H
       exact ⟨x7_47 ++ ([a1] : List Rec), v115, true, (ku2 (ku4 kz rfl) rfl), rfl, o117, rfl, (g119 _ ((e65.t e96).t e112)), rfl⟩
      ·refine W_false (d100.trans (cb q107)) <| W_skip <| thn_n ?_
       obtain rfl := si H
       exact ⟨x7_47, v48, x8_49, kz, ((K99 7 rfl).trans h67), (Ow.ext h68 e96), ((K99 8 rfl).trans h69), (e65.t e96), rfl⟩
     ·rintro s121 w120 ⟨x7_104, v105, x8_106, K122, h125, h126, h127, e123, y124⟩
      rw [y124] at C103
      have H := C103
      refine thn_n <| W_seq ?_
      obtain ⟨c128, H⟩ := bif_some H
      obtain ⟨c131, H⟩ := bif_some H
      refine W_dM [LEq v14, LEq (.int .i64 x9_50), LAt0 (encRec (gt x0_13 x9_50)), LAt 1 (encRec (gt x0_13 x9_50)), LEq (S ((gt x0_13 x9_50).path)), LEq (.pointer (some ⟨b1, 1, none⟩)), LEq (S a1.path), LEq (.bool (!decide (((gt x0_13 x9_50).path) = a1.path))), LEq (.bool (!decide (((gt x0_13 x9_50).path) = a1.path))), LIf (!decide (((gt x0_13 x9_50).path) = a1.path)) (LEq (.pointer (some ⟨b1, 0, none⟩))), LIf (!decide (((gt x0_13 x9_50).path) = a1.path)) (LEq (.int .i64 a1.kind)), LIf (!decide (((gt x0_13 x9_50).path) = a1.path)) (LEq (.bool (decide (a1.kind = 3)))), LIf (!decide (((gt x0_13 x9_50).path) = a1.path)) (LEq (.bool (decide (a1.kind = 3)))), LIf (spec_l03Put0.e1 a1 x0_13 x9_50) (LEq v14), LIf (spec_l03Put0.e1 a1 x0_13 x9_50) (LEq (.int .i64 x9_50)), LIf (spec_l03Put0.e1 a1 x0_13 x9_50) (LAt0 (encRec (gt x0_13 x9_50))), LIf (spec_l03Put0.e1 a1 x0_13 x9_50) (LAt 1 (encRec (gt x0_13 x9_50))), LIf (spec_l03Put0.e1 a1 x0_13 x9_50) (LEq (S ((gt x0_13 x9_50).path))), LIf (spec_l03Put0.e1 a1 x0_13 x9_50) (LEq (.pointer (some ⟨b1, 1, none⟩))), LIf (spec_l03Put0.e1 a1 x0_13 x9_50) (LEq (S a1.path)), LIf (spec_l03Put0.e1 a1 x0_13 x9_50) (LEq (.bool (spec_l03Put0.e2 a1 x0_13 x9_50))), LIf (spec_l03Put0.e1 a1 x0_13 x9_50) (LEq (.bool (!(spec_l03Put0.e2 a1 x0_13 x9_50)))), LIf (!decide (((gt x0_13 x9_50).path) = a1.path)) (LEq (.bool ((decide (a1.kind = 3)) || (!(spec_l03Put0.e2 a1 x0_13 x9_50))))), LEq (.bool ((!decide (((gt x0_13 x9_50).path) = a1.path)) && ((decide (a1.kind = 3)) || (!(spec_l03Put0.e2 a1 x0_13 x9_50)))))] (by kernel_rfl) (by kernel_rfl) ⟨qm, qm, LAt0.mono, LAt.mono, qm, qm, qm, qm, qm, lm, lm, lm, lm, lm, lm, (LIf.mono LAt0.mono), (LIf.mono LAt.mono), lm, lm, lm, lm, lm, lm, qm, trivial⟩ ⟨?_, ?_, ?_, ?_, ?_, ?_, ?_, ?_, ?_, ?_, ?_, ?_, ?_, ?_, ?_, ?_, ?_, ?_, ?_, ?_, ?_, ?_, ?_, ?_, trivial⟩ ?_
      ·exact fun s x e f d u => lp rfl rfl (xm v14 ((f 0 rfl).trans ((K122 0 rfl).trans ((K99 0 rfl).trans ((K64 0 rfl).trans h39))))) <| se rfl rfl
      ·exact fun s x e f d u => lp rfl rfl (xm (.int .i64 x9_50) ((f 9 rfl).trans ((K122 9 rfl).trans ((K99 9 rfl).trans h70)))) <| se rfl rfl
      ·exact fun s x e f d u => L_idx (.plain rfl) rfl (ltb rfl) rfl Tryz.underlying35 Tryz.sizeOf58 (d 0 rfl) (Rd.ext h40 ((e45.t e123).t e)) (d 1 rfl) c128 <| fun p137 h138 => se rfl ⟨_, rfl, h138⟩
      ·intro s x e f d u
       obtain ⟨p139, h140, h141⟩ := (d 2 rfl)
       exact lp rfl rfl (X_fieldAddr Tryz.underlying58 rfl Tryz.sizeOf9 rfl h140) <| se rfl ⟨_, rfl, h141⟩
      ·intro s x e f d u
       obtain ⟨p142, h143, h144⟩ := (d 3 rfl)
       exact lp rfl rfl (X_loadF Tryz.isAgg9 (j := 1) h144 h143 rfl) <| se rfl rfl
      ·exact fun s x e f d u => lp rfl rfl (X_fieldAddr Tryz.underlying58 rfl Tryz.sizeOf9 rfl ((f 3 rfl).trans ((K122 3 rfl).trans ((K99 3 rfl).trans ((K64 3 rfl).trans (K36 3 rfl)))))) <| se rfl rfl
      ·exact fun s x e f d u => lp rfl rfl (X_loadB Tryz.isAgg9 (Blk.ext k6 ((((e9.t e37).t e45).t e123).t e)) (d 5 rfl) rfl) <| se rfl rfl
      ·exact fun s x e f d u => lp rfl rfl (X_sne (d 4 rfl) (d 6 rfl)) <| se rfl rfl
      ·exact fun s x e f d u => lp rfl rfl (X_move (d 7 rfl)) <| se rfl rfl
      ·exact fun s x e f d u => gT rfl rfl rfl rfl (d 8 rfl) rfl fun b t => lt t rfl rfl (X_fieldAddr Tryz.underlying58 rfl Tryz.sizeOf3 rfl ((f 3 rfl).trans ((K122 3 rfl).trans ((K99 3 rfl).trans ((K64 3 rfl).trans (K36 3 rfl)))))) <| sg rfl rfl b rfl
      ·exact fun s x e f d u => gT rfl rfl rfl rfl (d 8 rfl) rfl fun b t => lt t rfl rfl (X_loadB Tryz.isAgg3 (Blk.ext k6 ((((e9.t e37).t e45).t e123).t e)) ((d 9 rfl).1 b) rfl) <| sg rfl rfl b rfl
      ·exact fun s x e f d u => gT rfl rfl rfl rfl (d 8 rfl) rfl fun b t => lt t rfl rfl (X_eql ((d 10 rfl).1 b) rfl) <| sg rfl rfl b rfl
      ·exact fun s x e f d u => gT rfl rfl rfl rfl (d 8 rfl) rfl fun b t => lt t rfl rfl (xm (.bool (decide (a1.kind = 3))) ((d 11 rfl).1 b)) <| sg rfl rfl b rfl
      ·exact fun s x e f d u => hF rfl rfl rfl rfl (d 12 rfl) rfl fun b t => lt t rfl rfl (xm v14 ((f 0 rfl).trans ((K122 0 rfl).trans ((K99 0 rfl).trans ((K64 0 rfl).trans h39))))) <| sg rfl rfl b rfl
      ·exact fun s x e f d u => hF rfl rfl rfl rfl (d 12 rfl) rfl fun b t => lt t rfl rfl (xm (.int .i64 x9_50) ((f 9 rfl).trans ((K122 9 rfl).trans ((K99 9 rfl).trans h70)))) <| sg rfl rfl b rfl
      ·exact fun s x e f d u => hF rfl rfl rfl rfl (d 12 rfl) rfl fun b t => L_idx t rfl (ltb rfl) rfl Tryz.underlying35 Tryz.sizeOf58 ((d 13 rfl).1 (and_mk (and_l b) (not_mk (not_f (and_r b))))) (Rd.ext h40 ((e45.t e123).t e)) ((d 14 rfl).1 (and_mk (and_l b) (not_mk (not_f (and_r b))))) (imp_take b c131) <| fun p146 h147 => sg rfl rfl b ⟨_, rfl, h147⟩
      ·intro s x e f d u
       refine hF rfl rfl rfl rfl (d 12 rfl) rfl fun b t => ?_
       obtain ⟨p148, h149, h150⟩ := ((d 15 rfl).1 (and_mk (and_l b) (not_mk (not_f (and_r b)))))
       exact lt t rfl rfl (X_fieldAddr Tryz.underlying58 rfl Tryz.sizeOf9 rfl h149) <| sg rfl rfl b ⟨_, rfl, h150⟩
      ·intro s x e f d u
       refine hF rfl rfl rfl rfl (d 12 rfl) rfl fun b t => ?_
       obtain ⟨p151, h152, h153⟩ := ((d 16 rfl).1 (and_mk (and_l b) (not_mk (not_f (and_r b)))))
       exact lt t rfl rfl (X_loadF Tryz.isAgg9 (j := 1) h153 h152 rfl) <| sg rfl rfl b rfl
      ·exact fun s x e f d u => hF rfl rfl rfl rfl (d 12 rfl) rfl fun b t => lt t rfl rfl (X_fieldAddr Tryz.underlying58 rfl Tryz.sizeOf9 rfl ((f 3 rfl).trans ((K122 3 rfl).trans ((K99 3 rfl).trans ((K64 3 rfl).trans (K36 3 rfl)))))) <| sg rfl rfl b rfl
      ·exact fun s x e f d u => hF rfl rfl rfl rfl (d 12 rfl) rfl fun b t => lt t rfl rfl (X_loadB Tryz.isAgg9 (Blk.ext k6 ((((e9.t e37).t e45).t e123).t e)) ((d 18 rfl).1 (and_mk (and_l b) (not_mk (not_f (and_r b))))) rfl) <| sg rfl rfl b rfl
      ·exact fun s x e f d u => hF rfl rfl rfl rfl (d 12 rfl) rfl fun b t => L_callP t rfl (ltb rfl) rfl Tryz.call171 (spec_l01Below.calls (w := x) (a0 := (gt x0_13 x9_50).path) (a1 := a1.path)) (cons2 ((d 17 rfl).1 (and_mk (and_l b) (not_mk (not_f (and_r b))))) (cons2 ((d 19 rfl).1 (and_mk (and_l b) (not_mk (not_f (and_r b))))) rfl)) <| fun w154 e155 => sgx rfl rfl b e155 rfl
      ·exact fun s x e f d u => hF rfl rfl rfl rfl (d 12 rfl) rfl fun b t => lt t rfl rfl (X_not ((d 20 rfl).1 (and_mk (and_l b) (not_mk (not_f (and_r b)))))) <| sg rfl rfl b rfl
      ·exact fun s x e f d u => gT rfl rfl rfl rfl (d 8 rfl) rfl fun b t => lt t rfl rfl (X_pickO ((d 12 rfl).1 b) rfl fun h => ((d 21 rfl).1 (and_mk b (not_mk h)))) <| sg rfl rfl b rfl
      ·exact fun s x e f d u => lp rfl rfl (X_pickA (d 8 rfl) rfl fun h => ((d 22 rfl).1 h)) <| se rfl rfl
      intro s156 w157 e158 hf159 ha160
      have K161 := Kp.ofD (kp := [(55, 79)]) rfl hf159
      have d162 : s156 78 = (.bool ((!decide (((gt x0_13 x9_50).path) = a1.path)) && ((decide (a1.kind = 3)) || (!(spec_l03Put0.e2 a1 x0_13 x9_50))))) := ha160 23 rfl
      clear ha160 hf159
      refine thn_n ?_
      rcases bif_two H with ⟨q163, H⟩ | ⟨q163, H⟩
      ·refine W_true (d162.trans (cb q163)) <| W_reg <| lp rfl rfl (xm v105 ((K161 7 rfl).trans h125)) <| lp rfl rfl (xm v14 ((K161 0 rfl).trans ((K122 0 rfl).trans ((K99 0 rfl).trans ((K64 0 rfl).trans h39))))) <| lp rfl rfl (xm (.int .i64 x9_50) ((K161 9 rfl).trans ((K122 9 rfl).trans ((K99 9 rfl).trans h70)))) ?_
       obtain ⟨c164, H⟩ := bif_some H
       refine L_idx (.plain rfl) rfl (ltb rfl) rfl Tryz.underlying35 Tryz.sizeOf58 rfl (Rd.ext h40 ((e45.t e123).t e158)) rfl c164 <| fun p165 h166 => lp rfl rfl (X_loadS Tryz.isAgg58 Tryz.sizeOf58 rfl rfl h166) <| L_lit (.plain rfl) rfl (ltb rfl) rfl Tryz.underlying35 Tryz.sizeOf58 Tryz.zeroValue58 rfl rfl rfl (vs := [(.agg (encRec (gt x0_13 x9_50)).toArray)]) rfl (lit_all rfl) <| fun b167 w168 z169 z170 e171 k172 => ?_
       obtain ⟨c173, H⟩ := bif_some H
       refine L_append (enc := encRec) (.plain rfl) rfl (ltb rfl) rfl El.t35 rfl rfl (Ow.ext h126 (e158.t e171)) (Ow.rd (Ow.new (xs := [gt x0_13 x9_50]) (sz := 5) (enc := encRec) (base := w157.heap.size) k172 (Nat.le_of_eq z169) rfl (fun _ _ => by rfl) (Nat.le_of_ble_eq_true rfl))) (ones_Rec _) (od c173) (((e123.t e158).t e171)).size <| fun v174 w175 o176 z177 g178 => lp rfl rfl (xa v174 rfl) <| L_nil <| blk_n <| thn_n <| W_reg <| lp rfl rfl (xm (.int .i64 x9_50) ((K161 9 rfl).trans ((K122 9 rfl).trans ((K99 9 rfl).trans h70)))) <| lp rfl rfl (X_add rfl rfl) <| lp rfl rfl (xa (.int .i64 (IntKind.wrap .i64 (x9_50 + 1))) rfl) <| nx ?_
       obtain rfl := si H
       exact ⟨_, Nat.lt_succ_self _, x7_104 ++ ([gt x0_13 x9_50] : List Rec), v174, x8_106, IntKind.wrap .i64 (x9_50 + 1), (ku3 (ku8 (Kp.cut (Kp.cut (Kp.cut (ku4 K64 rfl) K99 rfl) K122 rfl) K161 rfl) rfl) rfl), rfl, o176, ((K161 8 rfl).trans h127), rfl, (g178 _ ((e123.t e158).t e171)), S72⟩
      ·refine W_false (d162.trans (cb q163)) <| W_skip <| blk_n <| thn_n <| W_reg <| lp rfl rfl (xm (.int .i64 x9_50) ((K161 9 rfl).trans ((K122 9 rfl).trans ((K99 9 rfl).trans h70)))) <| lp rfl rfl (X_add rfl rfl) <| lp rfl rfl (xa (.int .i64 (IntKind.wrap .i64 (x9_50 + 1))) rfl) <| nx ?_
       obtain rfl := si H
       exact ⟨_, Nat.lt_succ_self _, x7_104, v105, x8_106, IntKind.wrap .i64 (x9_50 + 1), (ku3 (Kp.cut (Kp.cut (Kp.cut (ku4 K64 rfl) K99 rfl) K122 rfl) K161 rfl) rfl), ((K161 7 rfl).trans h125), (Ow.ext h126 e158), ((K161 8 rfl).trans h127), rfl, (e123.t e158), S72⟩
    ·refine W_false (cb q73) <| W_exit <| thn_x <| thn_x <| blk_x <| thn_n ?_
     obtain rfl := si H
     obtain rfl := si S72
     exact ⟨x7_47, v48, x8_49, (ku4 K64 rfl), h67, h68, h69, e65, rfl⟩
  ·rintro s58 w57 ⟨x7_54, v55, x8_56, K59, h179, h180, h181, e60, y182⟩
   rw [y182] at C53
   have H := C53
   replace H : _ = some _ := H
   refine thn_n <| W_seq <| wr <| lp rfl rfl (X_move h181) <| lp rfl rfl (X_not rfl) <| nx ?_
   rcases bif_two H with ⟨q183, H⟩ | ⟨q183, H⟩
   ·refine W_true (cb q183) <| W_reg <| lp rfl rfl (X_move h179) <| lp rfl rfl (X_loadS Tryz.isAgg58 Tryz.sizeOf58 rfl ((K59 3 rfl).trans (K36 3 rfl)) (Blk.at0 (Blk.ext k6 (((e9.t e37).t e45).t e60)))) <| L_lit (.plain rfl) rfl (ltb rfl) rfl Tryz.underlying35 Tryz.sizeOf58 Tryz.zeroValue58 rfl rfl rfl (vs := [(.agg #[(.int .i64 a1.kind), (S a1.path), (S a1.body), (.int .i64 a1.mode), (.bool a1.opq)])]) rfl (lit_all rfl) <| fun b184 w185 z186 z187 e188 k189 => ?_
    obtain ⟨c190, H⟩ := bif_some H
    refine L_append (enc := encRec) (.plain rfl) rfl (ltb rfl) rfl El.t35 rfl rfl (Ow.ext h180 e188) (Ow.rd (Ow.new (xs := [a1]) (sz := 5) (enc := encRec) (base := w57.heap.size) k189 (Nat.le_of_eq z186) rfl (fun _ _ => by rfl) (Nat.le_of_ble_eq_true rfl))) (ones_Rec _) (od c190) ((e60.t e188)).size <| fun v191 w192 o193 z194 g195 => lp rfl rfl (xa v191 rfl) <| nx <| wr <| lp rfl rfl (xm v191 rfl) <| lp rfl rfl (xa v191 rfl) <| nx <| W_ret <| fin_r ?_
    obtain rfl := si H
    exact fin1o rfl ((((e5.t e9).t e37).t e45).t (g195 _ (e60.t e188))) o193 ((((e5.t e9).t e37).t e45)).size
   ·refine W_false (cb q183) <| W_skip <| thn_n <| wr <| lp rfl rfl (X_move h179) <| lp rfl rfl (xa v55 rfl) <| nx <| W_ret <| fin_r ?_
    obtain rfl := si H
    exact fin1o rfl ((((e5.t e9).t e37).t e45).t e60) h180 ((((e5.t e9).t e37).t e45)).size
theorem spec_l03Put0.calls {w : World} {a0 : List Rec} {a1 : Rec} {v_a0 : Value} (f_a0 : Rd 5 encRec w v_a0 a0) (h0 : putOKb 0 a0 a1 = true) :
  Calls Tryz.prog 202 #[v_a0, .agg (encRec a1).toArray] w (Rt (RO 58 5 encRec w (putR 0 a0 a1))) := by
 obtain ⟨k, h⟩ := spec_l03Put0.eq a0 a1 h0
 exact spec_l03Put0.walk f_a0 h
end Go.Proofs.YtfefjaohlhkmaaaGreatDoor
