/- The walks, by program (wip/tools). -/
import Derived.Test.YtfefjaohlhkmaaaGreatDoorProg
import Derived.Test.YtfefjaohlhkmaaaGreatDoorKJ
import Derived.Test.YtfefjaohlhkmaaaGreatDoorKL
import Derived.Test.YtfefjaohlhkmaaaGreatDoorxWA
set_option linter.unusedVariables false
set_option linter.unusedSimpArgs false
set_option maxRecDepth 10000
namespace Go.Proofs.YtfefjaohlhkmaaaGreatDoor
open Go.UL Go.RowKit
/-! impl.StackOK -/
theorem QL.calls {w : World} {a0 : List (List Rec)} (gv : GV 0 w) {v_a0 : Value} (f_a0 : Rd2 5 qg w v_a0 a0) (h0 : a0.length ≤ 1048576) (h1 : ∀ l ∈ a0, l.length ≤ 1048576) (h2 : ∀ l ∈ a0, ∀ x ∈ l, x.path.length ≤ 1048576) :
  Calls Tryz.prog 21 #[v_a0] w (Rt (RP w (.bool (jQ a0)))) := by
 have H := QL.eq a0 h0 h1 h2
 generalize (jQ a0) = r at H ⊢
 unfold QL.sh at H
 refine qh Tryz.func21 rfl (Nat.le_of_ble_eq_true rfl) Tryz.ntmps21 rfl ?_
 refine wr <| lp rfl (xa (.bool false) rfl) <| nx <| wr <| lp rfl (xm v_a0 rfl) <| lp rfl (Ym Tryz.underlying23 rfl f_a0) <| lp rfl (Y4 rfl rfl) <| lp rfl (xm (.bool (decide ((a0.length : Int) ≤ 5))) rfl) ?_
 obtain ⟨z2, x3, H⟩ := bind_some H
 refine yk 3 [(7, 10)] 9 (fun q => q = z2) ?_ ?_
 ·rcases qd x3 with ⟨b0_, H⟩ | ⟨b0_, H⟩
  ·refine lg rfl rfl rfl rfl (cb b0_) (xm v_a0 rfl) ?_
   obtain ⟨c6, H⟩ := qa H
   obtain ⟨z7, x8, H⟩ := bind_some H
   refine vy (tg rfl rfl rfl (cb b0_)) rfl (ltb rfl) rfl Tryz.call113 (Qr.calls (w := w) (a0 := a0) (a1 := (fun (x0_ : List Rec) => bif decide (x0_.length ≤ 1048576) then (bif decide (∀ x ∈ x0_, x.path.length ≤ 1048576) then (some (decide ((qU x0_).2 = 0))) else none) else none)) f_a0 (fun x0_ r h ux0_ w2 k3 hx0_ => by obtain ⟨q0, h⟩ := qa h; obtain ⟨q1, h⟩ := qa h; have h := si h; subst h; exact jq.mk Tryz.call50 (by rfl) fun w4 k5 => jv.calls (w := w4) (a0 := x0_) (GV.ext gv (Ext.trans k3 k5)) (Rd.ext hx0_ k5) (od q0) (od q1)) rfl (od c6) x8) rfl <| fun w9 e10 => lp rfl (qu (b := true) (v := (.bool z7)) (cb b0_) rfl) ?_
   obtain rfl := si H
   exact nx ⟨(ku3 kz rfl), ⟨_, rfl, rfl⟩, e10⟩
  ·refine ls rfl rfl rfl (cb b0_) rfl <| ls rfl rfl rfl (cb b0_) rfl <| lp rfl (qu (b := false) (v := (.bool false)) (cb b0_) rfl) ?_
   obtain rfl := si H
   exact nx ⟨(ku3 kz rfl), ⟨_, rfl, rfl⟩, er⟩
 intro s11 w4 z12 K5 hq h6 e7
 rw [hq] at h6; clear hq
 refine lp rfl (qA h6) <| nx <| qn <| qt ?_
 obtain rfl := si H
 exact vh rfl e7
/-! impl.isLongList(impl.Node) -/
theorem jp.calls {w : World} {a0 : List Nd} {v_a0 : Value} (f_a0 : Rd 4 qr w v_a0 a0) :
  Calls Tryz.prog 127 #[v_a0] w (Rt (RP w (.bool (decide (4096 < a0.length))))) := by
 have H := jp.eq a0
 generalize (decide (4096 < a0.length)) = r at H ⊢
 unfold jp.sh at H
 refine qh Tryz.func127 rfl (Nat.le_of_ble_eq_true rfl) Tryz.ntmps127 rfl ?_
 refine wr <| lp rfl (xa (.bool false) rfl) <| nx <| wr <| lp rfl (xm v_a0 rfl) <| lp rfl (qO Tryz.underlying29 rfl f_a0) <| lp rfl (jJ rfl rfl) <| lp rfl (xa (.bool (decide (4096 < (a0.length : Int)))) rfl) <| nx <| qn <| qt ?_
 obtain rfl := si H
 exact vh rfl er
/-! spec.l03Canon -/
theorem yh.calls {w : World} {a0 : List Rec} {v_a0 : Value} (f_a0 : Rd 5 qg w v_a0 a0) (h0 : a0.length ≤ 1048576) (h1 : ∀ x ∈ a0, qH x.path = true) :
  Calls Tryz.prog 124 #[v_a0] w (Rt (RO 58 5 qg w (vV a0))) := by
 obtain ⟨k, H⟩ := yh.eq a0 h0 h1
 generalize (vV a0) = r at H ⊢
 unfold yh.sh at H
 refine qh Tryz.func124 rfl (Nat.le_of_ble_eq_true rfl) Tryz.ntmps124 rfl ?_
 refine wr <| lp rfl (xa (.slice none 0 0) rfl) <| nx <| wr <| vO (.plain rfl) rfl (ltb rfl) rfl Tryz.underlying35 Tryz.sizeOf58 Tryz.zeroValue58 rfl rfl rfl (vs := []) rfl (qR rfl) <| fun b1 w2 z3 z4 e5 k6 => lp rfl (xa (.slice (some ⟨b1, 0, none⟩) 0 0) rfl) <| nx <| qj <| wr <| lp rfl (xa (.int .i64 0) rfl) <| nx ?_
 obtain ⟨z10, L11, C12⟩ := bind_some H
 clear H
 refine  vD (fun s0 sQ wQ => ∃ (x3_13 : List Rec) (v14 : Value), Kp [(3, 6), (7, 44)] s0 sQ ∧ sQ 3 = v14 ∧ Ow 58 5 qg w2.heap.size wQ v14 x3_13 ∧ Ext w2 wQ ∧ z10 = .inr x3_13) ?_ ?_
 ·refine qB <| vo (fun s0 kk sQ wQ => ∃ (x3_7 : List Rec) (v8 : Value) (x4_9 : Int), Kp [(3, 6), (7, 44)] s0 sQ ∧ sQ 3 = v8 ∧ Ow 58 5 qg w2.heap.size wQ v8 x3_7 ∧ sQ 4 = .int .i64 x4_9 ∧ Ext w2 wQ ∧ qp (yh.b1 a0) kk (x3_7, x4_9) = some z10) k ⟨([] : List Rec), (.slice (some ⟨b1, 0, none⟩) 0 0), 0, kz, rfl, (Ow.zero), rfl, er, L11⟩ ?_
  rintro k19 s20 w21 ⟨x3_7, v8, x4_9, K22, h25, h26, h27, e23, L24⟩
  cases k19 with
  | zero => exact absurd L24 (by simp [qp])
  | succ k19 =>
   obtain ⟨t28, H, S29⟩ := qK L24
   clear L24
   unfold yh.b1 at H
   refine qj <| wr <| lp rfl (qf h27) <| lp rfl (xm v_a0 (K22 0 rfl)) <| lp rfl (qO Tryz.underlying35 rfl (Rd.ext f_a0 (e5.t e23))) <| lp rfl (yl rfl rfl) <| nx ?_
   rcases qd H with ⟨q30, H⟩ | ⟨q30, H⟩
   ·refine qk (cb q30) <| qo <| qe <| qj <| qB <| wr <| lp rfl (xm v_a0 (K22 0 rfl)) <| lp rfl (qf h27) ?_
    obtain ⟨c31, H⟩ := qa H
    refine q4 (.plain rfl) rfl (ltb rfl) rfl Tryz.underlying35 Tryz.sizeOf58 rfl (Rd.ext f_a0 (e5.t e23)) rfl c31 <| fun p32 h33 => lp rfl (qW Tryz.isAgg58 Tryz.sizeOf58 rfl rfl h33) <| QA (.plain rfl) rfl (ltb rfl) rfl Tryz.zeroValue58 <| fun b34 w35 z36 z37 e38 k39 => ji (.plain rfl) rfl rfl Tryz.sizeOf58 rfl rfl rfl rfl rfl k39 <| fun w40 h41 k42 => nx <| qj <| wr <| lp rfl (xm v_a0 (K22 0 rfl)) <| lp rfl (qb Tryz.underlying58 rfl Tryz.sizeOf9 rfl rfl) <| lp rfl (qz Tryz.isAgg9 k42 rfl rfl) ?_
    obtain ⟨c43, H⟩ := qa H
    obtain ⟨c44, H⟩ := qa H
    refine lc rfl rfl Tryz.call152 (yB.calls (w := w40) (a0 := a0) (a1 := (gt a0 x4_9).path) (Rd.ext f_a0 ((e5.t e23).t (Below.trans e38 (Wr.below h41 (Nat.le_of_eq z36))))) (od c43) (od c44)) rfl <| fun w45 e46 => lp rfl (yM rfl) <| nx ?_
    rcases qd H with ⟨q47, H⟩ | ⟨q47, H⟩
    ·refine qk (cb q47) <| wr <| lp rfl (qb Tryz.underlying58 rfl Tryz.sizeOf4 rfl rfl) <| lp rfl (qz Tryz.isAgg4 (Blk.ext k42 e46) rfl rfl) <| lp rfl (xm (.bool ((gt a0 x4_9).opq)) rfl) ?_
     obtain ⟨z49, x50, H⟩ := bind_some H
     refine yk 6 [(25, 31)] 30 (fun q => q = z49) ?_ ?_
     ·rcases qd x50 with ⟨b47_, H⟩ | ⟨b47_, H⟩
      ·refine lg rfl rfl rfl rfl (cb b47_) (qb Tryz.underlying58 rfl Tryz.sizeOf9 rfl rfl) <| lg rfl rfl rfl rfl (cb b47_) (qz Tryz.isAgg9 (Blk.ext k42 e46) rfl rfl) ?_
       obtain ⟨c49, H⟩ := qa H
       refine vp (tg rfl rfl rfl (cb b47_)) rfl (ltb rfl) rfl Tryz.call209 (yQ.calls (w := w45) (a0 := (gt a0 x4_9).path) (a1 := 47) (od c49)) rfl <| fun v52 w50 e51 o53 => lg rfl rfl rfl rfl (cb b47_) (qO Tryz.underlying42 rfl (Ow.rd o53)) <| lg rfl rfl rfl rfl (cb b47_) (yl rfl rfl) <| lp rfl (qu (b := true) (v := (.bool (decide (((cut 47 ((gt a0 x4_9).path)).length : Int) < 4)))) (cb b47_) rfl) ?_
       obtain rfl := si H
       exact nx ⟨(ku2 (ku4 kz rfl) rfl), ⟨_, rfl, rfl⟩, e51⟩
      ·refine ls rfl rfl rfl (cb b47_) rfl <| ls rfl rfl rfl (cb b47_) rfl <| ls rfl rfl rfl (cb b47_) rfl <| ls rfl rfl rfl (cb b47_) rfl <| ls rfl rfl rfl (cb b47_) rfl <| lp rfl (qu (b := false) (v := (.bool false)) (cb b47_) rfl) ?_
       obtain rfl := si H
       exact nx ⟨(ku2 (ku4 kz rfl) rfl), ⟨_, rfl, rfl⟩, er⟩
     intro s55 w51 z56 K52 hq h53 e54
     rw [hq] at h53; clear hq
     refine lp rfl (qb Tryz.underlying58 rfl Tryz.sizeOf4 rfl (K52 5 rfl)) <| Vb (.plain rfl) rfl rfl Tryz.sizeOf4 rfl h53 rfl (Blk.ext k42 (e46.t e54)) (ltb rfl) <| fun w57 h58 k59 => nx <| wr <| lp rfl (xm v8 ((K52 3 rfl).trans h25)) <| lp rfl (qW Tryz.isAgg58 Tryz.sizeOf58 rfl (K52 5 rfl) (Blk.at0 k59)) <| vO (.plain rfl) rfl (ltb rfl) rfl Tryz.underlying35 Tryz.sizeOf58 Tryz.zeroValue58 rfl rfl rfl (vs := [(.agg #[(.int .i64 ((gt a0 x4_9).kind)), (S ((gt a0 x4_9).path)), (S ((gt a0 x4_9).body)), (.int .i64 ((gt a0 x4_9).mode)), (.bool z49)])]) rfl (qR rfl) <| fun b60 w61 z62 z63 e64 k65 => ?_
     obtain ⟨c66, H⟩ := qa H
     refine vW (enc := qg) (.plain rfl) rfl (ltb rfl) rfl El.t35 rfl rfl (Ow.ext h26 (Ext.trans (Below.trans (Ext.trans (Ext.trans (Below.trans e38 (Wr.below h41 (Nat.le_of_eq z36))) e46) e54) (Wr.below h58 (Nat.le_of_eq z36))) e64)) (Ow.rd (Ow.new (xs := [(⟨(gt a0 x4_9).kind, (gt a0 x4_9).path, (gt a0 x4_9).body, (gt a0 x4_9).mode, z49⟩ : Rec)]) (sz := 5) (enc := qg) (base := w57.heap.size) k65 (Nat.le_of_eq z62) rfl (fun _ _ => by rfl) (Nat.le_of_ble_eq_true rfl))) (Qo _) (od c66) (((e23.t (Below.trans (Ext.trans (Ext.trans (Below.trans e38 (Wr.below h41 (Nat.le_of_eq z36))) e46) e54) (Wr.below h58 (Nat.le_of_eq z36)))).t e64)).size <| fun v67 w68 o69 z70 g71 => lp rfl (xa v67 rfl) <| nx <| vH <| qY <| yF <| qe <| qG <| lp rfl (xm (.int .i64 x4_9) ((K52 4 rfl).trans h27)) <| lp rfl (vi rfl rfl) <| lp rfl (xa (.int .i64 (IntKind.wrap .i64 (x4_9 + 1))) rfl) <| nx ?_
     obtain rfl := si H
     exact ⟨_, Nat.lt_succ_self _, x3_7 ++ ([(⟨(gt a0 x4_9).kind, (gt a0 x4_9).path, (gt a0 x4_9).body, (gt a0 x4_9).mode, z49⟩ : Rec)] : List Rec), v67, IntKind.wrap .i64 (x4_9 + 1), (ku1 (ku8 (Kp.cut (ku1 (ku8 (ku8 K22 rfl) rfl) rfl) K52 rfl) rfl) rfl), rfl, o69, rfl, (g71 _ ((e23.t (Below.trans (Ext.trans (Ext.trans (Below.trans e38 (Wr.below h41 (Nat.le_of_eq z36))) e46) e54) (Wr.below h58 (Nat.le_of_eq z36)))).t e64)), S29⟩
    ·refine qi (cb q47) <| qo <| qe <| wr <| lp rfl (qb Tryz.underlying58 rfl Tryz.sizeOf4 rfl rfl) <| Vb (.plain rfl) rfl rfl Tryz.sizeOf4 rfl rfl rfl (Blk.ext k42 e46) (ltb rfl) <| fun w72 h73 k74 => nx <| wr <| lp rfl (qb Tryz.underlying58 rfl Tryz.sizeOf3 rfl rfl) <| lp rfl (qz Tryz.isAgg3 k74 rfl rfl) <| lp rfl (j6 rfl rfl) <| nx ?_
     rcases qd H with ⟨q75, H⟩ | ⟨q75, H⟩
     ·refine qk (cb q75) <| qG <| lp rfl (qf h25) <| lp rfl (qW Tryz.isAgg58 Tryz.sizeOf58 rfl rfl (Blk.at0 k74)) <| vO (.plain rfl) rfl (ltb rfl) rfl Tryz.underlying35 Tryz.sizeOf58 Tryz.zeroValue58 rfl rfl rfl (vs := [(.agg #[(.int .i64 ((gt a0 x4_9).kind)), (S ((gt a0 x4_9).path)), (S ((gt a0 x4_9).body)), (.int .i64 ((gt a0 x4_9).mode)), (.bool false)])]) rfl (qR rfl) <| fun b76 w77 z78 z79 e80 k81 => ?_
      obtain ⟨c82, H⟩ := qa H
      refine vW (enc := qg) (.plain rfl) rfl (ltb rfl) rfl El.t35 rfl rfl (Ow.ext h26 (Ext.trans (Below.trans (Ext.trans (Below.trans e38 (Wr.below h41 (Nat.le_of_eq z36))) e46) (Wr.below h73 (Nat.le_of_eq z36))) e80)) (Ow.rd (Ow.new (xs := [(⟨(gt a0 x4_9).kind, (gt a0 x4_9).path, (gt a0 x4_9).body, (gt a0 x4_9).mode, false⟩ : Rec)]) (sz := 5) (enc := qg) (base := w72.heap.size) k81 (Nat.le_of_eq z78) rfl (fun _ _ => by rfl) (Nat.le_of_ble_eq_true rfl))) (Qo _) (od c82) (((e23.t (Below.trans (Ext.trans (Below.trans e38 (Wr.below h41 (Nat.le_of_eq z36))) e46) (Wr.below h73 (Nat.le_of_eq z36)))).t e80)).size <| fun v83 w84 o85 z86 g87 => lp rfl (xa v83 rfl) <| qJ <| vk <| qe <| qG <| lp rfl (qf h27) <| lp rfl (vi rfl rfl) <| lp rfl (xa (.int .i64 (IntKind.wrap .i64 (x4_9 + 1))) rfl) <| nx ?_
      obtain rfl := si H
      exact ⟨_, Nat.lt_succ_self _, x3_7 ++ ([(⟨(gt a0 x4_9).kind, (gt a0 x4_9).path, (gt a0 x4_9).body, (gt a0 x4_9).mode, false⟩ : Rec)] : List Rec), v83, IntKind.wrap .i64 (x4_9 + 1), (ku2 (ku8 (ku8 (ku8 K22 rfl) rfl) rfl) rfl), rfl, o85, rfl, (g87 _ ((e23.t (Below.trans (Ext.trans (Below.trans e38 (Wr.below h41 (Nat.le_of_eq z36))) e46) (Wr.below h73 (Nat.le_of_eq z36)))).t e80)), S29⟩
     ·refine qi (cb q75) <| qo <| vk <| qe <| qG <| lp rfl (qf h27) <| lp rfl (vi rfl rfl) <| lp rfl (xa (.int .i64 (IntKind.wrap .i64 (x4_9 + 1))) rfl) <| nx ?_
      obtain rfl := si H
      exact ⟨_, Nat.lt_succ_self _, x3_7, v8, IntKind.wrap .i64 (x4_9 + 1), (ku1 (ku4 (ku8 (ku8 K22 rfl) rfl) rfl) rfl), h25, (Ow.ext h26 (Below.trans (Ext.trans (Below.trans e38 (Wr.below h41 (Nat.le_of_eq z36))) e46) (Wr.below h73 (Nat.le_of_eq z36)))), rfl, (e23.t (Below.trans (Ext.trans (Below.trans e38 (Wr.below h41 (Nat.le_of_eq z36))) e46) (Wr.below h73 (Nat.le_of_eq z36)))), S29⟩
   ·refine qi (cb q30) <| vH <| qY <| qY <| yF <| qe ?_
    obtain rfl := si H
    obtain rfl := si S29
    exact ⟨x3_7, v8, (ku4 K22 rfl), h25, h26, e23, rfl⟩
 ·rintro s16 w15 ⟨x3_13, v14, K17, h88, h89, e18, y90⟩
  rw [y90] at C12
  have H := C12
  replace H : _ = some _ := H
  refine qe <| wr <| lp rfl (qf h88) <| lp rfl (xa v14 rfl) <| nx <| qn <| qt ?_
  obtain rfl := si H
  exact Qi rfl (e5.t e18) h89 (e5).size
/-! impl.canonical -/
theorem yc.calls {w : World} {a0 : List Rec} (gv : GV 0 w) {v_a0 : Value} (f_a0 : Rd 5 qg w v_a0 a0) (h0 : a0.length ≤ 1048576) (h1 : ∀ x ∈ a0, qH x.path = true) :
  Calls Tryz.prog 132 #[v_a0] w (Rt (RO 58 5 qg w (vV a0))) := by
 obtain ⟨k, H⟩ := yc.eq a0 h0 h1
 generalize (vV a0) = r at H ⊢
 unfold yc.sh at H
 refine qh Tryz.func132 rfl (Nat.le_of_ble_eq_true rfl) Tryz.ntmps132 rfl ?_
 refine wr <| lp rfl (xa (.slice none 0 0) rfl) <| nx <| wr <| vO (.plain rfl) rfl (ltb rfl) rfl Tryz.underlying35 Tryz.sizeOf58 Tryz.zeroValue58 rfl rfl rfl (vs := []) rfl (qR rfl) <| fun b1 w2 z3 z4 e5 k6 => lp rfl (xa (.slice (some ⟨b1, 0, none⟩) 0 0) rfl) <| nx <| qj <| wr <| lp rfl (xm v_a0 rfl) <| lp rfl (qO Tryz.underlying35 rfl (Rd.ext f_a0 e5)) <| lp rfl (xm (.int .i64 0) rfl) <| nx ?_
 obtain ⟨z10, L11, C12⟩ := bind_some H
 clear H
 refine  vD (fun s0 sQ wQ => ∃ (x3_13 : List Rec) (v14 : Value), Kp [(3, 4), (5, 7), (10, 38)] s0 sQ ∧ sQ 3 = v14 ∧ Ow 58 5 qg w2.heap.size wQ v14 x3_13 ∧ Ext w2 wQ ∧ z10 = .inr x3_13) ?_ ?_
 ·refine qB <| vo (fun s0 kk sQ wQ => ∃ (x3_7 : List Rec) (v8 : Value) (x10_9 : Int), Kp [(3, 4), (5, 7), (10, 38)] s0 sQ ∧ sQ 3 = v8 ∧ Ow 58 5 qg w2.heap.size wQ v8 x3_7 ∧ sQ 10 = .int .i64 x10_9 ∧ Ext w2 wQ ∧ qp (yc.b1 a0) kk (x3_7, x10_9) = some z10) k ⟨([] : List Rec), (.slice (some ⟨b1, 0, none⟩) 0 0), 0, kz, rfl, (Ow.zero), rfl, er, L11⟩ ?_
  rintro k19 s20 w21 ⟨x3_7, v8, x10_9, K22, h25, h26, h27, e23, L24⟩
  cases k19 with
  | zero => exact absurd L24 (by simp [qp])
  | succ k19 =>
   obtain ⟨t28, H, S29⟩ := qK L24
   clear L24
   unfold yc.b1 at H
   refine wr <| lp rfl (yl h27 (K22 9 rfl)) <| nx <| qj ?_
   rcases qd H with ⟨q30, H⟩ | ⟨q30, H⟩
   ·refine qk (cb q30) <| qo <| qe <| qj <| qB <| wr ?_
    obtain ⟨c31, H⟩ := qa H
    refine q4 (.plain rfl) rfl (ltb rfl) rfl Tryz.underlying35 Tryz.sizeOf58 (K22 8 rfl) (Rd.ext f_a0 (e5.t e23)) h27 c31 <| fun p32 h33 => lp rfl (qW Tryz.isAgg58 Tryz.sizeOf58 rfl rfl h33) <| QA (.plain rfl) rfl (ltb rfl) rfl Tryz.zeroValue58 <| fun b34 w35 z36 z37 e38 k39 => ji (.plain rfl) rfl rfl Tryz.sizeOf58 rfl rfl rfl rfl rfl k39 <| fun w40 h41 k42 => nx <| wr <| lp rfl (xm v_a0 (K22 0 rfl)) <| lp rfl (qb Tryz.underlying58 rfl Tryz.sizeOf9 rfl rfl) <| lp rfl (qz Tryz.isAgg9 k42 rfl rfl) ?_
    obtain ⟨c43, H⟩ := qa H
    obtain ⟨c44, H⟩ := qa H
    refine lc rfl rfl Tryz.call151 (jF.calls (w := w40) (a0 := a0) (a1 := (gt a0 x10_9).path) (Rd.ext f_a0 ((e5.t e23).t (Below.trans e38 (Wr.below h41 (Nat.le_of_eq z36))))) (od c43) (od c44)) rfl <| fun w45 e46 => lp rfl (xa (.bool (yz a0 ((gt a0 x10_9).path))) rfl) <| nx <| qj <| wr <| lp rfl (xm (.bool (yz a0 ((gt a0 x10_9).path))) rfl) <| lp rfl (xm (.bool (yz a0 ((gt a0 x10_9).path))) rfl) <| jI 4 [(20, 24)] 23 (.bool ((yz a0 ((gt a0 x10_9).path)) && (decide (((gt a0 x10_9).kind) = 4)))) ?_ ?_
    ·rcases ql (yz a0 ((gt a0 x10_9).path)) with b46_ | b46_
     ·exact lg rfl rfl rfl rfl (cb b46_) (qb Tryz.underlying58 rfl Tryz.sizeOf3 rfl rfl) <| lg rfl rfl rfl rfl (cb b46_) (qz Tryz.isAgg3 (Blk.ext k42 e46) rfl rfl) <| lg rfl rfl rfl rfl (cb b46_) (yn rfl rfl) <| lp rfl (qu (b := true) (v := (.bool (decide (((gt a0 x10_9).kind) = 4)))) (cb b46_) rfl) <| nx ⟨(ku4 kz rfl), (VP b46_), er⟩
     ·exact ls rfl rfl rfl (cb b46_) rfl <| ls rfl rfl rfl (cb b46_) rfl <| ls rfl rfl rfl (cb b46_) rfl <| lp rfl (qu (b := false) (v := (.bool false)) (cb b46_) rfl) <| nx ⟨(ku4 kz rfl), (VS b46_), er⟩
    intro s52 w48 K49 h50 e51
    refine nx ?_
    rcases qd H with ⟨q53, H⟩ | ⟨q53, H⟩
    ·refine qk (h50.trans (cb q53)) <| vH <| qY <| yF <| qe <| qG <| lp rfl (vi ((K49 10 rfl).trans h27) rfl) <| lp rfl (xm (.int .i64 (IntKind.wrap .i64 (x10_9 + 1))) rfl) <| nx ?_
     obtain rfl := si H
     exact ⟨_, Nat.lt_succ_self _, x3_7, v8, IntKind.wrap .i64 (x10_9 + 1), (ku2 (Kp.cut (ku3 (ku8 K22 rfl) rfl) K49 rfl) rfl), ((K49 3 rfl).trans h25), (Ow.ext h26 (Ext.trans (Ext.trans (Below.trans e38 (Wr.below h41 (Nat.le_of_eq z36))) e46) e51)), rfl, (((e23.t (Below.trans e38 (Wr.below h41 (Nat.le_of_eq z36)))).t e46).t e51), S29⟩
    ·refine qi (h50.trans (cb q53)) <| qo <| qe <| qj <| wr <| lp rfl (xm (.bool (yz a0 ((gt a0 x10_9).path))) (K49 6 rfl)) <| lp rfl (xm (.bool (yz a0 ((gt a0 x10_9).path))) rfl) ?_
     obtain ⟨z55, x56, H⟩ := bind_some H
     refine yk 6 [(26, 32)] 31 (fun q => q = z55) ?_ ?_
     ·rcases qd x56 with ⟨b53_, H⟩ | ⟨b53_, H⟩
      ·refine ls rfl rfl rfl (cb b53_) rfl <| ls rfl rfl rfl (cb b53_) rfl <| ls rfl rfl rfl (cb b53_) rfl <| ls rfl rfl rfl (cb b53_) rfl <| ls rfl rfl rfl (cb b53_) rfl <| lp rfl (qu (b := true) (v := (.bool true)) (cb b53_) rfl) ?_
       obtain rfl := si H
       exact nx ⟨(ku2 (ku4 kz rfl) rfl), ⟨_, rfl, rfl⟩, er⟩
      ·refine lg rfl rfl rfl rfl (cb b53_) (qb Tryz.underlying58 rfl Tryz.sizeOf9 rfl (K49 5 rfl)) <| lg rfl rfl rfl rfl (cb b53_) (qz Tryz.isAgg9 (Blk.ext k42 (e46.t e51)) rfl rfl) ?_
       obtain ⟨c55, H⟩ := qa H
       refine vp (tg rfl rfl rfl (cb b53_)) rfl (ltb rfl) rfl Tryz.call212 (yd.calls (w := w48) (a0 := (gt a0 x10_9).path) (GV.ext gv ((((e5.t e23).t (Below.trans e38 (Wr.below h41 (Nat.le_of_eq z36)))).t e46).t e51)) (od c55)) rfl <| fun v58 w56 e57 o59 => lg rfl rfl rfl rfl (cb b53_) (qO Tryz.underlying42 rfl (Ow.rd o59)) <| lg rfl rfl rfl rfl (cb b53_) (yn rfl rfl) <| lp rfl (qu (b := false) (v := (.bool (decide (((cut 47 ((gt a0 x10_9).path)).length : Int) = 4)))) (cb b53_) rfl) ?_
       obtain rfl := si H
       exact nx ⟨(ku2 (ku4 kz rfl) rfl), ⟨_, rfl, rfl⟩, e57⟩
     intro s61 w57 z62 K58 hq h59 e60
     rw [hq] at h59; clear hq
     refine nx ?_
     rcases qd H with ⟨q63, H⟩ | ⟨q63, H⟩
     ·refine qk (h59.trans (cb q63)) <| qG <| lp rfl (qb Tryz.underlying58 rfl Tryz.sizeOf4 rfl ((K58 5 rfl).trans (K49 5 rfl))) <| Vb (.plain rfl) rfl rfl Tryz.sizeOf4 rfl rfl rfl (Blk.ext k42 ((e46.t e51).t e60)) (ltb rfl) <| fun w64 h65 k66 => nx <| qG <| lp rfl (xm v8 ((K58 3 rfl).trans ((K49 3 rfl).trans h25))) <| lp rfl (qW Tryz.isAgg58 Tryz.sizeOf58 rfl ((K58 5 rfl).trans (K49 5 rfl)) (Blk.at0 k66)) <| vO (.plain rfl) rfl (ltb rfl) rfl Tryz.underlying35 Tryz.sizeOf58 Tryz.zeroValue58 rfl rfl rfl (vs := [(.agg #[(.int .i64 ((gt a0 x10_9).kind)), (S ((gt a0 x10_9).path)), (S ((gt a0 x10_9).body)), (.int .i64 ((gt a0 x10_9).mode)), (.bool false)])]) rfl (qR rfl) <| fun b67 w68 z69 z70 e71 k72 => ?_
      obtain ⟨c73, H⟩ := qa H
      refine vW (enc := qg) (.plain rfl) rfl (ltb rfl) rfl El.t35 rfl rfl (Ow.ext h26 (Ext.trans (Below.trans (Ext.trans (Ext.trans (Ext.trans (Below.trans e38 (Wr.below h41 (Nat.le_of_eq z36))) e46) e51) e60) (Wr.below h65 (Nat.le_of_eq z36))) e71)) (Ow.rd (Ow.new (xs := [(⟨(gt a0 x10_9).kind, (gt a0 x10_9).path, (gt a0 x10_9).body, (gt a0 x10_9).mode, false⟩ : Rec)]) (sz := 5) (enc := qg) (base := w64.heap.size) k72 (Nat.le_of_eq z69) rfl (fun _ _ => by rfl) (Nat.le_of_ble_eq_true rfl))) (Qo _) (od c73) (((e23.t (Below.trans (Ext.trans (Ext.trans (Ext.trans (Below.trans e38 (Wr.below h41 (Nat.le_of_eq z36))) e46) e51) e60) (Wr.below h65 (Nat.le_of_eq z36)))).t e71)).size <| fun v74 w75 o76 z77 g78 => lp rfl (xa v74 rfl) <| qJ <| vk <| qe <| qG <| lp rfl (vi ((K58 10 rfl).trans ((K49 10 rfl).trans h27)) rfl) <| lp rfl (xm (.int .i64 (IntKind.wrap .i64 (x10_9 + 1))) rfl) <| nx ?_
      obtain rfl := si H
      exact ⟨_, Nat.lt_succ_self _, x3_7 ++ ([(⟨(gt a0 x10_9).kind, (gt a0 x10_9).path, (gt a0 x10_9).body, (gt a0 x10_9).mode, false⟩ : Rec)] : List Rec), v74, IntKind.wrap .i64 (x10_9 + 1), (ku8 (Kp.cut (ku2 (Kp.cut (ku3 (ku8 K22 rfl) rfl) K49 rfl) rfl) K58 rfl) rfl), rfl, o76, rfl, (g78 _ ((e23.t (Below.trans (Ext.trans (Ext.trans (Ext.trans (Below.trans e38 (Wr.below h41 (Nat.le_of_eq z36))) e46) e51) e60) (Wr.below h65 (Nat.le_of_eq z36)))).t e71)), S29⟩
     ·refine qi (h59.trans (cb q63)) <| qo <| qe <| qG <| lp rfl (xm v8 ((K58 3 rfl).trans ((K49 3 rfl).trans h25))) <| lp rfl (qW Tryz.isAgg58 Tryz.sizeOf58 rfl ((K58 5 rfl).trans (K49 5 rfl)) (Blk.at0 (Blk.ext k42 ((e46.t e51).t e60)))) <| vO (.plain rfl) rfl (ltb rfl) rfl Tryz.underlying35 Tryz.sizeOf58 Tryz.zeroValue58 rfl rfl rfl (vs := [(.agg #[(.int .i64 ((gt a0 x10_9).kind)), (S ((gt a0 x10_9).path)), (S ((gt a0 x10_9).body)), (.int .i64 ((gt a0 x10_9).mode)), (.bool ((gt a0 x10_9).opq))])]) rfl (qR rfl) <| fun b79 w80 z81 z82 e83 k84 => ?_
      obtain ⟨c85, H⟩ := qa H
      refine vW (enc := qg) (.plain rfl) rfl (ltb rfl) rfl El.t35 rfl rfl (Ow.ext h26 (Ext.trans (Ext.trans (Ext.trans (Ext.trans (Below.trans e38 (Wr.below h41 (Nat.le_of_eq z36))) e46) e51) e60) e83)) (Ow.rd (Ow.new (xs := [(gt a0 x10_9)]) (sz := 5) (enc := qg) (base := w57.heap.size) k84 (Nat.le_of_eq z81) rfl (fun _ _ => by rfl) (Nat.le_of_ble_eq_true rfl))) (Qo _) (od c85) ((((((e23.t (Below.trans e38 (Wr.below h41 (Nat.le_of_eq z36)))).t e46).t e51).t e60).t e83)).size <| fun v86 w87 o88 z89 g90 => lp rfl (xa v86 rfl) <| qJ <| vk <| qe <| qG <| lp rfl (vi ((K58 10 rfl).trans ((K49 10 rfl).trans h27)) rfl) <| lp rfl (xm (.int .i64 (IntKind.wrap .i64 (x10_9 + 1))) rfl) <| nx ?_
      obtain rfl := si H
      exact ⟨_, Nat.lt_succ_self _, x3_7 ++ ([(gt a0 x10_9)] : List Rec), v86, IntKind.wrap .i64 (x10_9 + 1), (ku3 (ku4 (Kp.cut (ku2 (Kp.cut (ku3 (ku8 K22 rfl) rfl) K49 rfl) rfl) K58 rfl) rfl) rfl), rfl, o88, rfl, (g90 _ (((((e23.t (Below.trans e38 (Wr.below h41 (Nat.le_of_eq z36)))).t e46).t e51).t e60).t e83)), S29⟩
   ·refine qi (cb q30) <| vH <| qY <| qY <| yF <| qe ?_
    obtain rfl := si H
    obtain rfl := si S29
    exact ⟨x3_7, v8, (ku1 K22 rfl), h25, h26, e23, rfl⟩
 ·rintro s16 w15 ⟨x3_13, v14, K17, h91, h92, e18, y93⟩
  rw [y93] at C12
  have H := C12
  replace H : _ = some _ := H
  refine qe <| wr <| lp rfl (qf h91) <| lp rfl (xa v14 rfl) <| nx <| qn <| qt ?_
  obtain rfl := si H
  exact Qi rfl (e5.t e18) h92 (e5).size
/-! impl.IsCanonical -/
theorem jG.calls {w : World} {a0 : List Rec} (gv : GV 0 w) {v_a0 : Value} (f_a0 : Rd 5 qg w v_a0 a0) (h0 : a0.length ≤ 1048576) (h1 : ∀ x ∈ a0, x.path.length ≤ 1048576) :
  Calls Tryz.prog 37 #[v_a0] w (Rt (RP w (.bool (YP a0)))) := by
 have H := jG.eq a0 h0 h1
 generalize (YP a0) = r at H ⊢
 unfold jG.sh at H
 refine qh Tryz.func37 rfl (Nat.le_of_ble_eq_true rfl) Tryz.ntmps37 rfl ?_
 refine wr <| lp rfl (xa (.bool false) rfl) <| nx <| wr <| lp rfl (xm v_a0 rfl) ?_
 obtain ⟨c1, H⟩ := qa H
 obtain ⟨c2, H⟩ := qa H
 refine lc rfl rfl Tryz.call50 (jv.calls (w := w) (a0 := a0) gv f_a0 (od c1) (od c2)) rfl <| fun w3 e4 => lp rfl (xm (.bool (decide ((qU a0).2 = 0))) rfl) ?_
 obtain ⟨z6, x7, H⟩ := bind_some H
 refine yk 5 [(6, 11)] 10 (fun q => q = z6) ?_ ?_
 ·rcases qd x7 with ⟨b4_, H⟩ | ⟨b4_, H⟩
  ·refine lg rfl rfl rfl rfl (cb b4_) (xm v_a0 rfl) ?_
   obtain ⟨c6, H⟩ := qa H
   obtain ⟨c7, H⟩ := qa H
   refine vp (tg rfl rfl rfl (cb b4_)) rfl (ltb rfl) rfl Tryz.call132 (yc.calls (w := w3) (a0 := a0) (GV.ext gv e4) (Rd.ext f_a0 e4) (od c6) (od c7)) rfl <| fun v10 w8 e9 o11 => lg rfl rfl rfl rfl (cb b4_) (xm v_a0 rfl) ?_
   obtain ⟨c12, H⟩ := qa H
   refine vy (tg rfl rfl rfl (cb b4_)) rfl (ltb rfl) rfl Tryz.call131 (yE.calls (w := w8) (a0 := (vV a0)) (a1 := a0) (Ow.rd o11) (Rd.ext f_a0 (e4.t e9)) (od c12)) rfl <| fun w13 e14 => lp rfl (qu (b := true) (v := (.bool (decide ((vV a0) = a0)))) (cb b4_) rfl) ?_
   obtain rfl := si H
   exact nx ⟨(ku1 (ku4 kz rfl) rfl), ⟨_, rfl, rfl⟩, (e9.t e14)⟩
  ·refine ls rfl rfl rfl (cb b4_) rfl <| ls rfl rfl rfl (cb b4_) rfl <| ls rfl rfl rfl (cb b4_) rfl <| ls rfl rfl rfl (cb b4_) rfl <| lp rfl (qu (b := false) (v := (.bool false)) (cb b4_) rfl) ?_
   obtain rfl := si H
   exact nx ⟨(ku1 (ku4 kz rfl) rfl), ⟨_, rfl, rfl⟩, er⟩
 intro s15 w8 z16 K9 hq h10 e11
 rw [hq] at h10; clear hq
 refine lp rfl (qA h10) <| nx <| qn <| qt ?_
 obtain rfl := si H
 exact vh rfl (e4.t e11)
/-! impl.pairCode -/
theorem j7.calls {w : World} {a0 : List Rec} {a1 : List Rec} (gv : GV 0 w) {v_a0 : Value} (f_a0 : Rd 5 qg w v_a0 a0) {v_a1 : Value} (f_a1 : Rd 5 qg w v_a1 a1) (h0 : a0.length ≤ 1048576) (h1 : a1.length ≤ 1048576) (h2 : ∀ x ∈ a0, x.path.length ≤ 1048576) (h3 : ∀ x ∈ a1, x.path.length ≤ 1048576) :
  Calls Tryz.prog 117 #[v_a0, v_a1] w (Rt (RP w (.int .i64 (pairCode a0 a1)))) := by
 have H := j7.eq a0 a1 h0 h1 h2 h3
 generalize (pairCode a0 a1) = r at H ⊢
 unfold j7.sh at H
 refine qh Tryz.func117 rfl (Nat.le_of_ble_eq_true rfl) Tryz.ntmps117 rfl ?_
 refine wr <| lp rfl (xa (.int .i64 0) rfl) <| nx <| wr <| lp rfl (xm v_a0 rfl) <| lc rfl rfl Tryz.call126 (yO.calls (w := w) (a0 := a0) f_a0) rfl <| fun w1 e2 => lp rfl (xm (.bool (decide (4096 < a0.length))) rfl) <| jI 3 [(8, 11)] 10 (.bool ((decide (4096 < a0.length)) || (decide (4096 < a1.length)))) ?_ ?_
 ·rcases ql (decide (4096 < a0.length)) with b2_ | b2_
  ·exact ls rfl rfl rfl (cb b2_) rfl <| ls rfl rfl rfl (cb b2_) rfl <| lp rfl (qu (b := true) (v := (.bool true)) (cb b2_) rfl) <| nx ⟨(ku3 kz rfl), (Jo b2_), er⟩
  ·exact lg rfl rfl rfl rfl (cb b2_) (xm v_a1 rfl) <| vy (tg rfl rfl rfl (cb b2_)) rfl (ltb rfl) rfl Tryz.call126 (yO.calls (w := w1) (a0 := a1) (Rd.ext f_a1 e2)) rfl <| fun w4 e5 => lp rfl (qu (b := false) (v := (.bool (decide (4096 < a1.length)))) (cb b2_) rfl) <| nx ⟨(ku3 kz rfl), (Jn b2_), e5⟩
 intro s8 w4 K5 h6 e7
 refine lp rfl (vl Tryz.underlying4 rfl h6) <| lp rfl (vl Tryz.underlying3 rfl rfl) <| lp rfl (xm v_a0 (K5 0 rfl)) ?_
 obtain ⟨c9, H⟩ := qa H
 obtain ⟨c10, H⟩ := qa H
 refine lc rfl rfl Tryz.call50 (jv.calls (w := w4) (a0 := a0) (GV.ext gv (e2.t e7)) (Rd.ext f_a0 (e2.t e7)) (od c9) (od c10)) rfl <| fun w11 e12 => lp rfl (yM rfl) <| lp rfl (xm (.bool (!(decide ((qU a0).2 = 0)))) rfl) ?_
 obtain ⟨z14, x15, H⟩ := bind_some H
 refine yk 4 [(17, 21)] 20 (fun q => q = z14) ?_ ?_
 ·rcases qd x15 with ⟨b12_, H⟩ | ⟨b12_, H⟩
  ·refine ls rfl rfl rfl (cb b12_) rfl <| ls rfl rfl rfl (cb b12_) rfl <| ls rfl rfl rfl (cb b12_) rfl <| lp rfl (qu (b := true) (v := (.bool true)) (cb b12_) rfl) ?_
   obtain rfl := si H
   exact nx ⟨(ku4 kz rfl), ⟨_, rfl, rfl⟩, er⟩
  ·refine lg rfl rfl rfl rfl (cb b12_) (xm v_a1 (K5 1 rfl)) ?_
   obtain ⟨c14, H⟩ := qa H
   obtain ⟨c15, H⟩ := qa H
   refine vy (tg rfl rfl rfl (cb b12_)) rfl (ltb rfl) rfl Tryz.call50 (jv.calls (w := w11) (a0 := a1) (GV.ext gv ((e2.t e7).t e12)) (Rd.ext f_a1 ((e2.t e7).t e12)) (od c14) (od c15)) rfl <| fun w16 e17 => lg rfl rfl rfl rfl (cb b12_) (yM rfl) <| lp rfl (qu (b := false) (v := (.bool (!(decide ((qU a1).2 = 0))))) (cb b12_) rfl) ?_
   obtain rfl := si H
   exact nx ⟨(ku4 kz rfl), ⟨_, rfl, rfl⟩, e17⟩
 intro s20 w16 z21 K17 hq h18 e19
 rw [hq] at h18; clear hq
 refine lp rfl (vl Tryz.underlying4 rfl h18) <| lp rfl (vl Tryz.underlying3 rfl rfl) <| vO (.plain rfl) rfl (ltb rfl) rfl Tryz.underlying171 Tryz.sizeOf20 Tryz.zeroValue20 rfl rfl rfl (vs := [(.iface 4 (.bool ((decide (4096 < a0.length)) || (decide (4096 < a1.length))))), (.iface 3 (.int .i64 2)), (.iface 4 (.bool z14)), (.iface 3 (.int .i64 1))]) (vc (K17 11 rfl) (vc (K17 12 rfl) (vc rfl (vc rfl rfl)))) (qR rfl) <| fun b22 w23 z24 z25 e26 k27 => ?_
 obtain ⟨c28, H⟩ := qa H
 obtain ⟨z31, x32, H⟩ := bind_some H
 replace x32 := si x32
 refine lc rfl rfl Tryz.call125 (yS.calls (w := w23) (a0 := ([.inl ((decide (4096 < a0.length)) || (decide (4096 < a1.length))), .inr 2, .inl z14, .inr 1] : List (Bool ⊕ Int))) (Ow.rd (Ow.new (xs := [.inl ((decide (4096 < a0.length)) || (decide (4096 < a1.length))), .inr 2, .inl z14, .inr 1]) (sz := 1) (enc := (Vl 4 3)) (base := w16.heap.size) k27 (Nat.le_of_eq z24) rfl (fun _ _ => by first | rfl | exact VY _ _ _) (Nat.le_of_ble_eq_true rfl))) (od c28)) rfl <| fun w29 e30 => lp rfl (xa (.int .i64 z31) (congrArg (Value.int .i64) x32)) <| nx <| qn <| qt ?_
 obtain rfl := si H
 exact vh rfl (((((e2.t e7).t e12).t e19).t e26).t e30)
/-! spec.Hidden -/
theorem yH.walk {k : Nat} {w : World} {a0 : List Rec} {a1 : List Rec} {v_a0 : Value} (f_a0 : Rd 5 qg w v_a0 a0) {v_a1 : Value} (f_a1 : Rd 5 qg w v_a1 a1) {r : List (List UInt8) × Int} (H : yH.sh k a0 a1 = some r) :
  Calls Tryz.prog 30 #[v_a0, v_a1] w (Rt (RT 9 1 yK w r.1 (.int .i64 r.2))) := by
 unfold yH.sh at H
 refine qh Tryz.func30 rfl (Nat.le_of_ble_eq_true rfl) Tryz.ntmps30 rfl ?_
 refine wr <| lp rfl (xa (.slice none 0 0) rfl) <| lp rfl (xa (.int .i64 0) rfl) <| nx <| qj <| wr <| lp rfl (xm v_a0 rfl) <| lp rfl (qO Tryz.underlying35 rfl f_a0) <| lp rfl (jJ rfl rfl) <| lp rfl (xm (.bool (decide (4096 < (a0.length : Int)))) rfl) <| jI 4 [(12, 16)] 15 (.bool ((decide (4096 < (a0.length : Int))) || (decide (4096 < (a1.length : Int))))) ?_ ?_
 ·rcases ql (decide (4096 < (a0.length : Int))) with b0_ | b0_
  ·exact ls rfl rfl rfl (cb b0_) rfl <| ls rfl rfl rfl (cb b0_) rfl <| ls rfl rfl rfl (cb b0_) rfl <| lp rfl (qu (b := true) (v := (.bool true)) (cb b0_) rfl) <| nx ⟨(ku4 kz rfl), (Jo b0_), er⟩
  ·exact lg rfl rfl rfl rfl (cb b0_) (xm v_a1 rfl) <| lg rfl rfl rfl rfl (cb b0_) (qO Tryz.underlying35 rfl f_a1) <| lg rfl rfl rfl rfl (cb b0_) (jJ rfl rfl) <| lp rfl (qu (b := false) (v := (.bool (decide (4096 < (a1.length : Int))))) (cb b0_) rfl) <| nx ⟨(ku4 kz rfl), (Jn b0_), er⟩
 intro s6 w2 K3 h4 e5
 refine nx ?_
 rcases qd H with ⟨q7, H⟩ | ⟨q7, H⟩
 ·refine qk (h4.trans (cb q7)) <| wr <| vO (.plain rfl) rfl (ltb rfl) rfl Tryz.underlying42 Tryz.sizeOf9 Tryz.zeroValue9 rfl rfl rfl (vs := []) rfl (qR rfl) <| fun b8 w9 z10 z11 e12 k13 => lp rfl (xa (.slice (some ⟨b8, 0, none⟩) 0 0) rfl) <| lp rfl (xa (.int .i64 2) rfl) <| nx <| qn <| qw <| qt ?_
  obtain rfl := si H
  exact QW rfl rfl (e5.t e12) (Ow.zero (base := w.heap.size)) (Nat.le_refl _)
 ·refine qi (h4.trans (cb q7)) <| qo <| qe <| qj <| wr <| lp rfl (xm v_a0 (K3 0 rfl)) ?_
  obtain ⟨c14, H⟩ := qa H
  obtain ⟨c15, H⟩ := qa H
  refine lc rfl rfl Tryz.call120 (jU.calls (w := w2) (a0 := a0) (Rd.ext f_a0 e5) (od c14) (od c15)) rfl <| fun w16 e17 => lp rfl (yM rfl) <| lp rfl (xm (.bool (!(decide ((qv a0).2 = 0)))) rfl) ?_
  obtain ⟨z19, x20, H⟩ := bind_some H
  refine yk 4 [(21, 25)] 24 (fun q => q = z19) ?_ ?_
  ·rcases qd x20 with ⟨b17_, H⟩ | ⟨b17_, H⟩
   ·refine ls rfl rfl rfl (cb b17_) rfl <| ls rfl rfl rfl (cb b17_) rfl <| ls rfl rfl rfl (cb b17_) rfl <| lp rfl (qu (b := true) (v := (.bool true)) (cb b17_) rfl) ?_
    obtain rfl := si H
    exact nx ⟨(ku4 kz rfl), ⟨_, rfl, rfl⟩, er⟩
   ·refine lg rfl rfl rfl rfl (cb b17_) (xm v_a1 (K3 1 rfl)) ?_
    obtain ⟨c19, H⟩ := qa H
    obtain ⟨c20, H⟩ := qa H
    refine vy (tg rfl rfl rfl (cb b17_)) rfl (ltb rfl) rfl Tryz.call120 (jU.calls (w := w16) (a0 := a1) (Rd.ext f_a1 (e5.t e17)) (od c19) (od c20)) rfl <| fun w21 e22 => lg rfl rfl rfl rfl (cb b17_) (yM rfl) <| lp rfl (qu (b := false) (v := (.bool (!(decide ((qv a1).2 = 0))))) (cb b17_) rfl) ?_
    obtain rfl := si H
    exact nx ⟨(ku4 kz rfl), ⟨_, rfl, rfl⟩, e22⟩
  intro s25 w21 z26 K22 hq h23 e24
  rw [hq] at h23; clear hq
  refine nx ?_
  rcases qd H with ⟨q27, H⟩ | ⟨q27, H⟩
  ·refine qk (h23.trans (cb q27)) <| wr <| vO (.plain rfl) rfl (ltb rfl) rfl Tryz.underlying42 Tryz.sizeOf9 Tryz.zeroValue9 rfl rfl rfl (vs := []) rfl (qR rfl) <| fun b28 w29 z30 z31 e32 k33 => lp rfl (xa (.slice (some ⟨b28, 0, none⟩) 0 0) rfl) <| lp rfl (xa (.int .i64 1) rfl) <| nx <| qn <| qw <| qt ?_
   obtain rfl := si H
   exact QW rfl rfl (((e5.t e17).t e24).t e32) (Ow.zero (base := w.heap.size)) (Nat.le_refl _)
  ·refine qi (h23.trans (cb q27)) <| qo <| qe <| wr <| vO (.plain rfl) rfl (ltb rfl) rfl Tryz.underlying42 Tryz.sizeOf9 Tryz.zeroValue9 rfl rfl rfl (vs := []) rfl (qR rfl) <| fun b34 w35 z36 z37 e38 k39 => lp rfl (xa (.slice (some ⟨b34, 0, none⟩) 0 0) rfl) <| nx <| qj <| wr <| lp rfl (xa (.int .i64 0) rfl) <| nx ?_
   obtain ⟨z43, L44, C45⟩ := bind_some H
   clear H
   refine  vD (fun s0 sQ wQ => ∃ (x6_46 : List (List UInt8)) (v47 : Value), Kp [(6, 8), (27, 48)] s0 sQ ∧ sQ 6 = v47 ∧ Ow 9 1 yK w35.heap.size wQ v47 x6_46 ∧ Ext w35 wQ ∧ z43 = .inr x6_46) ?_ ?_
   ·refine qB <| vo (fun s0 kk sQ wQ => ∃ (x6_40 : List (List UInt8)) (v41 : Value) (x7_42 : Int), Kp [(6, 8), (27, 48)] s0 sQ ∧ sQ 6 = v41 ∧ Ow 9 1 yK w35.heap.size wQ v41 x6_40 ∧ sQ 7 = .int .i64 x7_42 ∧ Ext w35 wQ ∧ qp (yH.b1 a0 a1) kk (x6_40, x7_42) = some z43) k ⟨([] : List (List UInt8)), (.slice (some ⟨b34, 0, none⟩) 0 0), 0, kz, rfl, (Ow.zero), rfl, er, L44⟩ ?_
    rintro k52 s53 w54 ⟨x6_40, v41, x7_42, K55, h58, h59, h60, e56, L57⟩
    cases k52 with
    | zero => exact absurd L57 (by simp [qp])
    | succ k52 =>
     obtain ⟨t61, H, S62⟩ := qK L57
     clear L57
     unfold yH.b1 at H
     refine qj <| wr <| lp rfl (qf h60) <| lp rfl (xm v_a0 ((K55 0 rfl).trans ((K22 0 rfl).trans (K3 0 rfl)))) <| lp rfl (qO Tryz.underlying35 rfl (Rd.ext f_a0 ((((e5.t e17).t e24).t e38).t e56))) <| lp rfl (yl rfl rfl) <| nx ?_
     rcases qd H with ⟨q63, H⟩ | ⟨q63, H⟩
     ·refine qk (cb q63) <| qo <| qe <| qj <| qB <| wr <| lp rfl (xm v_a1 ((K55 1 rfl).trans ((K22 1 rfl).trans (K3 1 rfl)))) <| lp rfl (xm v_a0 ((K55 0 rfl).trans ((K22 0 rfl).trans (K3 0 rfl)))) <| lp rfl (qf h60) ?_
      obtain ⟨c64, H⟩ := qa H
      refine q4 (.plain rfl) rfl (ltb rfl) rfl Tryz.underlying35 Tryz.sizeOf58 rfl (Rd.ext f_a0 ((((e5.t e17).t e24).t e38).t e56)) rfl c64 <| fun p65 h66 => lp rfl (qb Tryz.underlying58 rfl Tryz.sizeOf9 rfl rfl) <| lp rfl (vT Tryz.isAgg9 (j := 1) h66 rfl rfl) ?_
      obtain ⟨c67, H⟩ := qa H
      obtain ⟨c68, H⟩ := qa H
      refine lc rfl rfl Tryz.call123 (yI.calls (w := w54) (a0 := a1) (a1 := (gt a0 x7_42).path) (Rd.ext f_a1 ((((e5.t e17).t e24).t e38).t e56)) (od c67) (od c68)) rfl <| fun w69 e70 => nx ?_
      rcases qd H with ⟨q71, H⟩ | ⟨q71, H⟩
      ·refine qk (cb q71) <| qG <| lp rfl (qf h58) <| lp rfl (xm v_a0 ((K55 0 rfl).trans ((K22 0 rfl).trans (K3 0 rfl)))) <| lp rfl (qf h60) ?_
       obtain ⟨c72, H⟩ := qa H
       refine q4 (.plain rfl) rfl (ltb rfl) rfl Tryz.underlying35 Tryz.sizeOf58 rfl (Rd.ext f_a0 (((((e5.t e17).t e24).t e38).t e56).t e70)) rfl c72 <| fun p73 h74 => lp rfl (qb Tryz.underlying58 rfl Tryz.sizeOf9 rfl rfl) <| lp rfl (vT Tryz.isAgg9 (j := 1) h74 rfl rfl) <| vO (.plain rfl) rfl (ltb rfl) rfl Tryz.underlying42 Tryz.sizeOf9 Tryz.zeroValue9 rfl rfl rfl (vs := [(S ((gt a0 x7_42).path))]) rfl (qR rfl) <| fun b75 w76 z77 z78 e79 k80 => ?_
       obtain ⟨c81, H⟩ := qa H
       refine vW (enc := yK) (.plain rfl) rfl (ltb rfl) rfl El.t42 rfl rfl (Ow.ext h59 (e70.t e79)) (Ow.rd (Ow.new (xs := [(gt a0 x7_42).path]) (sz := 1) (enc := yK) (base := w69.heap.size) k80 (Nat.le_of_eq z77) rfl (fun _ _ => by rfl) (Nat.le_of_ble_eq_true rfl))) (GJ _) (od c81) (((e56.t e70).t e79)).size <| fun v82 w83 o84 z85 g86 => lp rfl (xa v82 rfl) <| qJ <| vk <| qe <| qG <| lp rfl (qf h60) <| lp rfl (vi rfl rfl) <| lp rfl (xa (.int .i64 (IntKind.wrap .i64 (x7_42 + 1))) rfl) <| nx ?_
       obtain rfl := si H
       exact ⟨_, Nat.lt_succ_self _, x6_40 ++ ([(gt a0 x7_42).path] : List (List UInt8)), v82, IntKind.wrap .i64 (x7_42 + 1), (ku3 (ku4 (ku8 (ku8 K55 rfl) rfl) rfl) rfl), rfl, o84, rfl, (g86 _ ((e56.t e70).t e79)), S62⟩
      ·refine qi (cb q71) <| qo <| vk <| qe <| qG <| lp rfl (qf h60) <| lp rfl (vi rfl rfl) <| lp rfl (xa (.int .i64 (IntKind.wrap .i64 (x7_42 + 1))) rfl) <| nx ?_
       obtain rfl := si H
       exact ⟨_, Nat.lt_succ_self _, x6_40, v41, IntKind.wrap .i64 (x7_42 + 1), (ku2 (ku4 (ku8 K55 rfl) rfl) rfl), h58, (Ow.ext h59 e70), rfl, (e56.t e70), S62⟩
     ·refine qi (cb q63) <| vH <| qY <| qY <| yF <| qe ?_
      obtain rfl := si H
      obtain rfl := si S62
      exact ⟨x6_40, v41, (ku4 K55 rfl), h58, h59, e56, rfl⟩
   ·rintro s49 w48 ⟨x6_46, v47, K50, h87, h88, e51, y89⟩
    rw [y89] at C45
    have H := C45
    replace H : _ = some _ := H
    refine qe <| wr <| lp rfl (qf h87) <| lp rfl (xa v47 rfl) <| lp rfl (xa (.int .i64 0) rfl) <| nx <| qn <| qt ?_
    obtain rfl := si H
    exact QW rfl rfl ((((e5.t e17).t e24).t e38).t e51) h88 ((((e5.t e17).t e24).t e38)).size
theorem yH.calls {w : World} {a0 : List Rec} {a1 : List Rec} {v_a0 : Value} (f_a0 : Rd 5 qg w v_a0 a0) {v_a1 : Value} (f_a1 : Rd 5 qg w v_a1 a1) (h0 : a0.length ≤ 1048576) (h1 : a1.length ≤ 1048576) (h2 : ∀ x ∈ a0, x.path.length ≤ 1048576) (h3 : ∀ x ∈ a1, x.path.length ≤ 1048576) :
  Calls Tryz.prog 30 #[v_a0, v_a1] w (Rt (RT 9 1 yK w ((yL a0 a1).1) (.int .i64 ((yL a0 a1).2)))) := by
 obtain ⟨k, h⟩ := yH.eq a0 a1 h0 h1 h2 h3
 exact yH.walk f_a0 f_a1 h
/-! impl.Hidden -/
theorem yG.walk {k : Nat} {w : World} {a0 : List Rec} {a1 : List Rec} (gv : GV 0 w) {v_a0 : Value} (f_a0 : Rd 5 qg w v_a0 a0) {v_a1 : Value} (f_a1 : Rd 5 qg w v_a1 a1) {r : List (List UInt8) × Int} (H : yG.sh k a0 a1 = some r) :
  Calls Tryz.prog 29 #[v_a0, v_a1] w (Rt (RT 9 1 yK w r.1 (.int .i64 r.2))) := by
 unfold yG.sh at H
 refine qh Tryz.func29 rfl (Nat.le_of_ble_eq_true rfl) Tryz.ntmps29 rfl ?_
 refine wr <| lp rfl (xa (.slice none 0 0) rfl) <| lp rfl (xa (.int .i64 0) rfl) <| nx <| qj <| wr <| lp rfl (xm v_a0 rfl) <| lp rfl (xm v_a1 rfl) ?_
 obtain ⟨c1, H⟩ := qa H
 obtain ⟨c2, H⟩ := qa H
 obtain ⟨c3, H⟩ := qa H
 obtain ⟨c4, H⟩ := qa H
 refine lc rfl rfl Tryz.call117 (j7.calls (w := w) (a0 := a0) (a1 := a1) gv f_a0 f_a1 (od c1) (od c2) (od c3) (od c4)) rfl <| fun w5 e6 => lp rfl (xa (.int .i64 (pairCode a0 a1)) rfl) <| nx <| wr <| lp rfl (xm (.int .i64 (pairCode a0 a1)) rfl) <| lp rfl (j6 rfl rfl) <| nx ?_
 rcases qd H with ⟨q7, H⟩ | ⟨q7, H⟩
 ·refine qk (cb q7) <| wr <| lp rfl (xm (.int .i64 (pairCode a0 a1)) rfl) <| lp rfl (xa (.slice none 0 0) rfl) <| lp rfl (xa (.int .i64 (pairCode a0 a1)) rfl) <| nx <| qn <| qw <| qt ?_
  obtain rfl := si H
  exact QW rfl rfl e6 (Ow.zero (base := w.heap.size)) (Nat.le_refl _)
 ·refine qi (cb q7) <| qo <| qe <| wr <| vO (.plain rfl) rfl (ltb rfl) rfl Tryz.underlying42 Tryz.sizeOf9 Tryz.zeroValue9 rfl rfl rfl (vs := []) rfl (qR rfl) <| fun b8 w9 z10 z11 e12 k13 => lp rfl (xa (.slice (some ⟨b8, 0, none⟩) 0 0) rfl) <| nx <| qj <| wr <| lp rfl (xm v_a0 rfl) <| lp rfl (qO Tryz.underlying35 rfl (Rd.ext f_a0 (e6.t e12))) <| lp rfl (xm (.int .i64 0) rfl) <| nx ?_
  obtain ⟨z17, L18, C19⟩ := bind_some H
  clear H
  refine  vD (fun s0 sQ wQ => ∃ (x7_20 : List (List UInt8)) (v21 : Value), Kp [(7, 8), (9, 10), (19, 33)] s0 sQ ∧ sQ 7 = v21 ∧ Ow 9 1 yK w9.heap.size wQ v21 x7_20 ∧ Ext w9 wQ ∧ z17 = .inr x7_20) ?_ ?_
  ·refine qB <| vo (fun s0 kk sQ wQ => ∃ (x7_14 : List (List UInt8)) (v15 : Value) (x19_16 : Int), Kp [(7, 8), (9, 10), (19, 33)] s0 sQ ∧ sQ 7 = v15 ∧ Ow 9 1 yK w9.heap.size wQ v15 x7_14 ∧ sQ 19 = .int .i64 x19_16 ∧ Ext w9 wQ ∧ qp (yG.b1 a0 a1) kk (x7_14, x19_16) = some z17) k ⟨([] : List (List UInt8)), (.slice (some ⟨b8, 0, none⟩) 0 0), 0, kz, rfl, (Ow.zero), rfl, er, L18⟩ ?_
   rintro k26 s27 w28 ⟨x7_14, v15, x19_16, K29, h32, h33, h34, e30, L31⟩
   cases k26 with
   | zero => exact absurd L31 (by simp [qp])
   | succ k26 =>
    obtain ⟨t35, H, S36⟩ := qK L31
    clear L31
    unfold yG.b1 at H
    refine wr <| lp rfl (yl h34 (K29 18 rfl)) <| nx <| qj ?_
    rcases qd H with ⟨q37, H⟩ | ⟨q37, H⟩
    ·refine qk (cb q37) <| qo <| qe <| qj <| qB <| wr ?_
     obtain ⟨c38, H⟩ := qa H
     refine q4 (.plain rfl) rfl (ltb rfl) rfl Tryz.underlying35 Tryz.sizeOf58 (K29 17 rfl) (Rd.ext f_a0 ((e6.t e12).t e30)) h34 c38 <| fun p39 h40 => lp rfl (qW Tryz.isAgg58 Tryz.sizeOf58 rfl rfl h40) <| QA (.plain rfl) rfl (ltb rfl) rfl Tryz.zeroValue58 <| fun b41 w42 z43 z44 e45 k46 => ji (.plain rfl) rfl rfl Tryz.sizeOf58 rfl rfl rfl rfl rfl k46 <| fun w47 h48 k49 => nx <| wr <| lp rfl (xm v_a1 (K29 1 rfl)) <| lp rfl (qb Tryz.underlying58 rfl Tryz.sizeOf9 rfl rfl) <| lp rfl (qz Tryz.isAgg9 k49 rfl rfl) ?_
     obtain ⟨c50, H⟩ := qa H
     obtain ⟨c51, H⟩ := qa H
     refine lc rfl rfl Tryz.call122 (Vr.calls (w := w47) (a0 := a1) (a1 := (gt a0 x19_16).path) (Rd.ext f_a1 (((e6.t e12).t e30).t (Below.trans e45 (Wr.below h48 (Nat.le_of_eq z43))))) (od c50) (od c51)) rfl <| fun w52 e53 => nx ?_
     rcases qd H with ⟨q54, H⟩ | ⟨q54, H⟩
     ·refine qk (cb q54) <| qG <| lp rfl (qf h32) <| lp rfl (qb Tryz.underlying58 rfl Tryz.sizeOf9 rfl rfl) <| lp rfl (qz Tryz.isAgg9 (Blk.ext k49 e53) rfl rfl) <| vO (.plain rfl) rfl (ltb rfl) rfl Tryz.underlying42 Tryz.sizeOf9 Tryz.zeroValue9 rfl rfl rfl (vs := [(S ((gt a0 x19_16).path))]) rfl (qR rfl) <| fun b55 w56 z57 z58 e59 k60 => ?_
      obtain ⟨c61, H⟩ := qa H
      refine vW (enc := yK) (.plain rfl) rfl (ltb rfl) rfl El.t42 rfl rfl (Ow.ext h33 (Ext.trans (Ext.trans (Below.trans e45 (Wr.below h48 (Nat.le_of_eq z43))) e53) e59)) (Ow.rd (Ow.new (xs := [(gt a0 x19_16).path]) (sz := 1) (enc := yK) (base := w52.heap.size) k60 (Nat.le_of_eq z57) rfl (fun _ _ => by rfl) (Nat.le_of_ble_eq_true rfl))) (GJ _) (od c61) ((((e30.t (Below.trans e45 (Wr.below h48 (Nat.le_of_eq z43)))).t e53).t e59)).size <| fun v62 w63 o64 z65 g66 => lp rfl (xa v62 rfl) <| qJ <| vk <| qe <| qG <| lp rfl (vi h34 rfl) <| lp rfl (xm (.int .i64 (IntKind.wrap .i64 (x19_16 + 1))) rfl) <| nx ?_
      obtain rfl := si H
      exact ⟨_, Nat.lt_succ_self _, x7_14 ++ ([(gt a0 x19_16).path] : List (List UInt8)), v62, IntKind.wrap .i64 (x19_16 + 1), (ku8 (ku8 K29 rfl) rfl), rfl, o64, rfl, (g66 _ (((e30.t (Below.trans e45 (Wr.below h48 (Nat.le_of_eq z43)))).t e53).t e59)), S36⟩
     ·refine qi (cb q54) <| qo <| vk <| qe <| qG <| lp rfl (vi h34 rfl) <| lp rfl (xm (.int .i64 (IntKind.wrap .i64 (x19_16 + 1))) rfl) <| nx ?_
      obtain rfl := si H
      exact ⟨_, Nat.lt_succ_self _, x7_14, v15, IntKind.wrap .i64 (x19_16 + 1), (ku2 (ku8 K29 rfl) rfl), h32, (Ow.ext h33 (Ext.trans (Below.trans e45 (Wr.below h48 (Nat.le_of_eq z43))) e53)), rfl, ((e30.t (Below.trans e45 (Wr.below h48 (Nat.le_of_eq z43)))).t e53), S36⟩
    ·refine qi (cb q37) <| vH <| qY <| qY <| yF <| qe ?_
     obtain rfl := si H
     obtain rfl := si S36
     exact ⟨x7_14, v15, (ku1 K29 rfl), h32, h33, e30, rfl⟩
  ·rintro s23 w22 ⟨x7_20, v21, K24, h67, h68, e25, y69⟩
   rw [y69] at C19
   have H := C19
   replace H : _ = some _ := H
   refine qe <| wr <| lp rfl (qf h67) <| lp rfl (xa v21 rfl) <| lp rfl (xa (.int .i64 0) rfl) <| nx <| qn <| qt ?_
   obtain rfl := si H
   exact QW rfl rfl ((e6.t e12).t e25) h68 ((e6.t e12)).size
theorem yG.calls {w : World} {a0 : List Rec} {a1 : List Rec} (gv : GV 0 w) {v_a0 : Value} (f_a0 : Rd 5 qg w v_a0 a0) {v_a1 : Value} (f_a1 : Rd 5 qg w v_a1 a1) (h0 : a0.length ≤ 1048576) (h1 : a1.length ≤ 1048576) (h2 : ∀ x ∈ a0, x.path.length ≤ 1048576) (h3 : ∀ x ∈ a1, x.path.length ≤ 1048576) :
  Calls Tryz.prog 29 #[v_a0, v_a1] w (Rt (RT 9 1 yK w ((yL a0 a1).1) (.int .i64 ((yL a0 a1).2)))) := by
 obtain ⟨k, h⟩ := yG.eq a0 a1 h0 h1 h2 h3
 exact yG.walk gv f_a0 f_a1 h
/-! impl.isLongList(()impl.Record) -/
theorem jt.calls {w : World} {a0 : List (List Rec)} {v_a0 : Value} (f_a0 : Rd2 5 qg w v_a0 a0) :
  Calls Tryz.prog 129 #[v_a0] w (Rt (RP w (.bool (decide (4096 < a0.length))))) := by
 have H := jt.eq a0
 generalize (decide (4096 < a0.length)) = r at H ⊢
 unfold jt.sh at H
 refine qh Tryz.func129 rfl (Nat.le_of_ble_eq_true rfl) Tryz.ntmps129 rfl ?_
 refine wr <| lp rfl (xa (.bool false) rfl) <| nx <| wr <| lp rfl (xm v_a0 rfl) <| lp rfl (Ym Tryz.underlying23 rfl f_a0) <| lp rfl (jJ rfl rfl) <| lp rfl (xa (.bool (decide (4096 < (a0.length : Int)))) rfl) <| nx <| qn <| qt ?_
 obtain rfl := si H
 exact vh rfl er
/-! spec.Canonical -/
theorem jj.walk {w : World} {a0 : List Rec} {v_a0 : Value} (f_a0 : Rd 5 qg w v_a0 a0) {r : List Rec × Int} (H : jj.sh a0 = some r) :
  Calls Tryz.prog 33 #[v_a0] w (Rt (RT 58 5 qg w r.1 (.int .i64 r.2))) := by
 unfold jj.sh at H
 refine qh Tryz.func33 rfl (Nat.le_of_ble_eq_true rfl) Tryz.ntmps33 rfl ?_
 refine wr <| lp rfl (xa (.slice none 0 0) rfl) <| lp rfl (xa (.int .i64 0) rfl) <| nx <| qj <| wr <| lp rfl (xm v_a0 rfl) <| lp rfl (qO Tryz.underlying35 rfl f_a0) <| lp rfl (jJ rfl rfl) <| nx ?_
 rcases qd H with ⟨q1, H⟩ | ⟨q1, H⟩
 ·refine qk (cb q1) <| wr <| vO (.plain rfl) rfl (ltb rfl) rfl Tryz.underlying35 Tryz.sizeOf58 Tryz.zeroValue58 rfl rfl rfl (vs := []) rfl (qR rfl) <| fun b2 w3 z4 z5 e6 k7 => lp rfl (xa (.slice (some ⟨b2, 0, none⟩) 0 0) rfl) <| lp rfl (xa (.int .i64 2) rfl) <| nx <| qn <| qw <| qt ?_
  obtain rfl := si H
  exact QW rfl rfl e6 (Ow.zero (base := w.heap.size)) (Nat.le_refl _)
 ·refine qi (cb q1) <| qo <| qe <| qj <| wr <| lp rfl (xm v_a0 rfl) ?_
  obtain ⟨c8, H⟩ := qa H
  obtain ⟨c9, H⟩ := qa H
  refine lc rfl rfl Tryz.call120 (jU.calls (w := w) (a0 := a0) f_a0 (od c8) (od c9)) rfl <| fun w10 e11 => lp rfl (yM rfl) <| nx ?_
  rcases qd H with ⟨q12, H⟩ | ⟨q12, H⟩
  ·refine qk (cb q12) <| wr <| vO (.plain rfl) rfl (ltb rfl) rfl Tryz.underlying35 Tryz.sizeOf58 Tryz.zeroValue58 rfl rfl rfl (vs := []) rfl (qR rfl) <| fun b13 w14 z15 z16 e17 k18 => lp rfl (xa (.slice (some ⟨b13, 0, none⟩) 0 0) rfl) <| lp rfl (xa (.int .i64 1) rfl) <| nx <| qn <| qw <| qt ?_
   obtain rfl := si H
   exact QW rfl rfl (e11.t e17) (Ow.zero (base := w.heap.size)) (Nat.le_refl _)
  ·refine qi (cb q12) <| qo <| qe <| wr <| lp rfl (xm v_a0 rfl) ?_
   obtain ⟨c19, H⟩ := qa H
   obtain ⟨c20, H⟩ := qa H
   refine vp (.plain rfl) rfl (ltb rfl) rfl Tryz.call124 (yh.calls (w := w10) (a0 := a0) (Rd.ext f_a0 e11) (od c19) (od c20)) rfl <| fun v23 w21 e22 o24 => lp rfl (xa v23 rfl) <| lp rfl (xa (.int .i64 0) rfl) <| nx <| qn <| qt ?_
   obtain rfl := si H
   exact QW rfl rfl (e11.t e22) o24 (e11).size
theorem jj.calls {w : World} {a0 : List Rec} {v_a0 : Value} (f_a0 : Rd 5 qg w v_a0 a0) (h0 : a0.length ≤ 1048576) (h1 : ∀ x ∈ a0, x.path.length ≤ 1048576) :
  Calls Tryz.prog 33 #[v_a0] w (Rt (RT 58 5 qg w ((Qz a0).1) (.int .i64 ((Qz a0).2)))) := jj.walk f_a0 (jj.eq a0 h0 h1)
/-! spec.l04Without -/
theorem vR.calls {w : World} {a0 : List Nd} {a1 : List UInt8} {a2 : Bool} {v_a0 : Value} (f_a0 : Rd 4 qr w v_a0 a0) (h0 : a0.length ≤ 1048576) :
  Calls Tryz.prog 170 #[v_a0, S a1, .bool a2] w (Rt (RO 60 4 qr w (ye a0 a1 a2))) := by
 obtain ⟨k, H⟩ := vR.eq a0 a1 a2 h0
 generalize (ye a0 a1 a2) = r at H ⊢
 unfold vR.sh at H
 refine qh Tryz.func170 rfl (Nat.le_of_ble_eq_true rfl) Tryz.ntmps170 rfl ?_
 refine wr <| lp rfl (xa (.slice none 0 0) rfl) <| nx <| wr <| vO (.plain rfl) rfl (ltb rfl) rfl Tryz.underlying29 Tryz.sizeOf60 Tryz.zeroValue60 rfl rfl rfl (vs := []) rfl (qR rfl) <| fun b1 w2 z3 z4 e5 k6 => lp rfl (xa (.slice (some ⟨b1, 0, none⟩) 0 0) rfl) <| nx <| qj <| wr <| lp rfl (xa (.int .i64 0) rfl) <| nx ?_
 obtain ⟨z10, L11, C12⟩ := bind_some H
 clear H
 refine  vD (fun s0 sQ wQ => ∃ (x7_13 : List Nd) (v14 : Value), Kp [(7, 9), (10, 44)] s0 sQ ∧ sQ 7 = v14 ∧ Ow 60 4 qr w2.heap.size wQ v14 x7_13 ∧ Ext w2 wQ ∧ z10 = .inr x7_13) ?_ ?_
 ·refine qB <| vo (fun s0 kk sQ wQ => ∃ (x7_7 : List Nd) (v8 : Value) (x8_9 : Int), Kp [(7, 9), (10, 44)] s0 sQ ∧ sQ 7 = v8 ∧ Ow 60 4 qr w2.heap.size wQ v8 x7_7 ∧ sQ 8 = .int .i64 x8_9 ∧ Ext w2 wQ ∧ qp (vR.b1 a0 a1 a2) kk (x7_7, x8_9) = some z10) k ⟨([] : List Nd), (.slice (some ⟨b1, 0, none⟩) 0 0), 0, kz, rfl, (Ow.zero), rfl, er, L11⟩ ?_
  rintro k19 s20 w21 ⟨x7_7, v8, x8_9, K22, h25, h26, h27, e23, L24⟩
  cases k19 with
  | zero => exact absurd L24 (by simp [qp])
  | succ k19 =>
   obtain ⟨t28, H, S29⟩ := qK L24
   clear L24
   unfold vR.b1 at H
   refine qj <| wr <| lp rfl (qf h27) <| lp rfl (xm v_a0 (K22 0 rfl)) <| lp rfl (qO Tryz.underlying29 rfl (Rd.ext f_a0 (e5.t e23))) <| lp rfl (yl rfl rfl) <| nx ?_
   rcases qd H with ⟨q30, H⟩ | ⟨q30, H⟩
   ·refine qk (cb q30) <| qo <| qe <| qj <| qB <| wr <| lp rfl (xm v_a0 (K22 0 rfl)) <| lp rfl (qf h27) ?_
    obtain ⟨c31, H⟩ := qa H
    refine q4 (.plain rfl) rfl (ltb rfl) rfl Tryz.underlying29 Tryz.sizeOf60 rfl (Rd.ext f_a0 (e5.t e23)) rfl c31 <| fun p32 h33 => lp rfl (qb Tryz.underlying60 rfl Tryz.sizeOf9 rfl rfl) <| lp rfl (vT Tryz.isAgg9 (j := 1) h33 rfl rfl) <| lp rfl (xm (S a1) (K22 1 rfl)) <| lc rfl rfl Tryz.call171 (j2.calls (w := w21) (a0 := (gt a0 x8_9).path) (a1 := a1)) rfl <| fun w34 e35 => lp rfl (yM rfl) <| lp rfl (qf rfl) ?_
    obtain ⟨z37, x38, H⟩ := bind_some H
    refine yk 12 [(25, 37)] 36 (fun q => q = z37) ?_ ?_
    ·rcases qd x38 with ⟨b35_, H⟩ | ⟨b35_, H⟩
     ·refine lg rfl rfl rfl rfl (cb b35_) (xm (.bool a2) (K22 2 rfl)) <| lg rfl rfl rfl rfl (cb b35_) (yM rfl) <| lg rfl rfl rfl rfl (cb b35_) (xm (.bool (!a2)) rfl) ?_
      obtain ⟨z38, x39, H⟩ := bind_some H
      refine yk 8 [(28, 36)] 35 (fun q => q = z38) ?_ ?_
      ·rcases qd x39 with ⟨b36_, H⟩ | ⟨b36_, H⟩
       ·refine ls rfl rfl rfl (cb b36_) rfl <| ls rfl rfl rfl (cb b36_) rfl <| ls rfl rfl rfl (cb b36_) rfl <| ls rfl rfl rfl (cb b36_) rfl <| ls rfl rfl rfl (cb b36_) rfl <| ls rfl rfl rfl (cb b36_) rfl <| ls rfl rfl rfl (cb b36_) rfl <| lg rfl rfl rfl rfl (cb b35_) (qu (b := true) (v := (.bool true)) (cb b36_) rfl) ?_
        obtain rfl := si H
        exact nx ⟨(ku8 kz rfl), ⟨_, rfl, rfl⟩, er⟩
       ·refine lg rfl rfl rfl rfl (cb b36_) (xm v_a0 (K22 0 rfl)) <| lg rfl rfl rfl rfl (cb b36_) (qf h27) ?_
        obtain ⟨c38, H⟩ := qa H
        refine q4 (tg rfl rfl rfl (cb b36_)) rfl (ltb rfl) rfl Tryz.underlying29 Tryz.sizeOf60 rfl (Rd.ext f_a0 ((e5.t e23).t e35)) rfl c38 <| fun p39 h40 => lg rfl rfl rfl rfl (cb b36_) (qb Tryz.underlying60 rfl Tryz.sizeOf9 rfl rfl) <| lg rfl rfl rfl rfl (cb b36_) (vT Tryz.isAgg9 (j := 1) h40 rfl rfl) <| lg rfl rfl rfl rfl (cb b36_) (xm (S a1) (K22 1 rfl)) <| lg rfl rfl rfl rfl (cb b36_) (VK rfl rfl) <| lg rfl rfl rfl rfl (cb b35_) (qu (b := false) (v := (.bool (!decide (((gt a0 x8_9).path) = a1)))) (cb b36_) rfl) ?_
        obtain rfl := si H
        exact nx ⟨(ku8 kz rfl), ⟨_, rfl, rfl⟩, er⟩
      intro s44 w40 z45 K41 hq h42 e43
      rw [hq] at h42; clear hq
      refine lp rfl (qu (b := true) (v := (.bool z38)) ((K41 24 rfl).trans (cb b35_)) h42) ?_
      obtain rfl := si H
      exact nx ⟨(ku1 (Kp.cut (ku3 kz rfl) K41 rfl) rfl), ⟨_, rfl, rfl⟩, e43⟩
     ·refine ls rfl rfl rfl (cb b35_) rfl <| ls rfl rfl rfl (cb b35_) rfl <| ls rfl rfl rfl (cb b35_) rfl <| lu rfl rfl rfl rfl rfl <| lu rfl rfl rfl rfl rfl <| lu rfl rfl rfl rfl rfl <| lu rfl rfl rfl rfl rfl <| lu rfl rfl rfl rfl rfl <| lu rfl rfl rfl rfl rfl <| lu rfl rfl rfl rfl rfl <| ls rfl rfl rfl (cb b35_) rfl <| lp rfl (qu (b := false) (v := (.bool false)) (cb b35_) rfl) ?_
      obtain rfl := si H
      exact nx ⟨(ku4 (ku8 kz rfl) rfl), ⟨_, rfl, rfl⟩, er⟩
    intro s46 w39 z47 K40 hq h41 e42
    rw [hq] at h41; clear hq
    refine nx ?_
    rcases qd H with ⟨q48, H⟩ | ⟨q48, H⟩
    ·refine qk (h41.trans (cb q48)) <| qG <| lp rfl (xm v8 ((K40 7 rfl).trans h25)) <| lp rfl (xm v_a0 ((K40 0 rfl).trans (K22 0 rfl))) <| lp rfl (xm (.int .i64 x8_9) ((K40 8 rfl).trans h27)) ?_
     obtain ⟨c49, H⟩ := qa H
     refine q4 (.plain rfl) rfl (ltb rfl) rfl Tryz.underlying29 Tryz.sizeOf60 rfl (Rd.ext f_a0 (((e5.t e23).t e35).t e42)) rfl c49 <| fun p50 h51 => lp rfl (qW Tryz.isAgg60 Tryz.sizeOf60 rfl rfl h51) <| vO (.plain rfl) rfl (ltb rfl) rfl Tryz.underlying29 Tryz.sizeOf60 Tryz.zeroValue60 rfl rfl rfl (vs := [(.agg (qr (gt a0 x8_9)).toArray)]) rfl (qR rfl) <| fun b52 w53 z54 z55 e56 k57 => ?_
     obtain ⟨c58, H⟩ := qa H
     refine vW (enc := qr) (.plain rfl) rfl (ltb rfl) rfl El.t29 rfl rfl (Ow.ext h26 ((e35.t e42).t e56)) (Ow.rd (Ow.new (xs := [gt a0 x8_9]) (sz := 4) (enc := qr) (base := w39.heap.size) k57 (Nat.le_of_eq z54) rfl (fun _ _ => by rfl) (Nat.le_of_ble_eq_true rfl))) (QV _) (od c58) ((((e23.t e35).t e42).t e56)).size <| fun v59 w60 o61 z62 g63 => lp rfl (xa v59 rfl) <| qJ <| vk <| qe <| qG <| lp rfl (xm (.int .i64 x8_9) ((K40 8 rfl).trans h27)) <| lp rfl (vi rfl rfl) <| lp rfl (xa (.int .i64 (IntKind.wrap .i64 (x8_9 + 1))) rfl) <| nx ?_
     obtain rfl := si H
     exact ⟨_, Nat.lt_succ_self _, x7_7 ++ ([gt a0 x8_9] : List Nd), v59, IntKind.wrap .i64 (x8_9 + 1), (ku3 (ku8 (Kp.cut (ku1 (ku4 (ku8 K22 rfl) rfl) rfl) K40 rfl) rfl) rfl), rfl, o61, rfl, (g63 _ (((e23.t e35).t e42).t e56)), S29⟩
    ·refine qi (h41.trans (cb q48)) <| qo <| vk <| qe <| qG <| lp rfl (xm (.int .i64 x8_9) ((K40 8 rfl).trans h27)) <| lp rfl (vi rfl rfl) <| lp rfl (xa (.int .i64 (IntKind.wrap .i64 (x8_9 + 1))) rfl) <| nx ?_
     obtain rfl := si H
     exact ⟨_, Nat.lt_succ_self _, x7_7, v8, IntKind.wrap .i64 (x8_9 + 1), (ku3 (Kp.cut (ku1 (ku4 (ku8 K22 rfl) rfl) rfl) K40 rfl) rfl), ((K40 7 rfl).trans h25), (Ow.ext h26 (e35.t e42)), rfl, ((e23.t e35).t e42), S29⟩
   ·refine qi (cb q30) <| vH <| qY <| qY <| yF <| qe ?_
    obtain rfl := si H
    obtain rfl := si S29
    exact ⟨x7_7, v8, (ku4 K22 rfl), h25, h26, e23, rfl⟩
 ·rintro s16 w15 ⟨x7_13, v14, K17, h64, h65, e18, y66⟩
  rw [y66] at C12
  have H := C12
  replace H : _ = some _ := H
  refine qe <| wr <| lp rfl (qf h64) <| lp rfl (xa v14 rfl) <| nx <| qn <| qt ?_
  obtain rfl := si H
  exact Qi rfl (e5.t e18) h65 (e5).size
/-! slices.Clone(()impl.Node,impl.Node), by text -/
theorem V7.calls {w : World} {a0 : List Nd} {v_a0 : Value} (f_a0 : Rd 4 qr w v_a0 a0) (h0 : a0.length ≤ 1048576) :
    Calls Tryz.prog 156 #[v_a0] w (Rt (RO 60 4 qr w a0)) := by
  obtain ⟨A, c, hv⟩ := f_a0.shape
  refine qh Tryz.func156 rfl (Nat.le_of_ble_eq_true rfl) Tryz.ntmps156 rfl ?_
  refine wr <| lp rfl (qA (v := .slice none 0 0) rfl) <| nx <| qj <| wr <| lp rfl (xm v_a0 rfl) <| lp rfl (X_eqNil Tryz.underlying29 (by kernel_rfl) hv rfl) <| nx ?_
  cases A with
  | none =>
    have hn : a0 = [] := by
      obtain ⟨A', c', hv', ⟨hn, hz, _⟩, _⟩ := f_a0
      rw [hv] at hv'; injection hv' with e1 e2 e3
      have := hz e1.symm
      exact List.eq_nil_of_length_eq_zero (by omega)
    subst hn
    refine qk rfl <| wr <| lp rfl (qA (v := .slice none 0 0) rfl) <| nx <| qn <| qw <| qt ?_
    exact Qi rfl er (Ow.zero (base := w.heap.size)) (Nat.le_refl _)
  | some a =>
    refine qi rfl <| qo <| qe <| wr <| vO (.plain rfl) rfl (ltb rfl) rfl Tryz.underlying29 Tryz.sizeOf60 Tryz.zeroValue60 rfl rfl rfl (vs := []) rfl (qR rfl) <| fun b w1 z1 z2 e1 k1 => lp rfl (xm v_a0 rfl) <|
      vW (enc := qr) (.plain rfl) rfl (ltb rfl) rfl El.t29 rfl rfl (Ow.zero (base := w1.heap.size) (w := w1)) (Rd.ext f_a0 e1) (QV _) (by simp; omega) (Nat.le_refl _) <| fun v2 w2 o2 z3 g2 => lp rfl (xa v2 rfl) <| nx <| qn <| qt ?_
    have e2 : Ext w w2 := Ext.trans e1 (g2 _ er)
    have o3 : Ow 60 4 qr w1.heap.size w2 v2 a0 := by simpa using o2
    exact Qi rfl e2 o3 e1.size

/-! impl.removed$1 -/
theorem Qd.calls {w : World} {a0 : Nd} {a1 : List UInt8} {b_a1 : Nat} (k_a1 : Blk w b_a1 #[(S a1)] 9) (h0 : a1.length ≤ 1048576) :
  Calls Tryz.prog 243 #[.agg (qr a0).toArray, .pointer (some ⟨b_a1, 0, none⟩)] w (Rt (RP w (.bool (decide (a0.path = a1) || (decide (a1 = []) || vu a0.path a1))))) := by
 have H := Qd.eq a0 a1 h0
 generalize (decide (a0.path = a1) || (decide (a1 = []) || vu a0.path a1)) = r at H ⊢
 unfold Qd.sh at H
 refine qh Tryz.func243 rfl (Nat.le_of_ble_eq_true rfl) Tryz.ntmps243 rfl ?_
 refine wr <| j0 (.plain rfl) rfl (ltb rfl) rfl rfl <| fun b1 w2 z3 z4 e5 k6 => lp rfl (xa (.bool false) rfl) <| nx <| wr <| lp rfl (qb Tryz.underlying60 rfl Tryz.sizeOf9 rfl rfl) <| lp rfl (qz Tryz.isAgg9 k6 rfl rfl) <| lp rfl (qz Tryz.isAgg9 (Blk.ext k_a1 e5) rfl rfl) <| lp rfl (VR rfl rfl) <| lp rfl (xm (.bool (decide (a0.path = a1))) rfl) ?_
 obtain ⟨z8, x9, H⟩ := bind_some H
 refine yk 5 [(9, 14)] 13 (fun q => q = z8) ?_ ?_
 ·rcases qd x9 with ⟨b6_, H⟩ | ⟨b6_, H⟩
  ·refine ls rfl rfl rfl (cb b6_) rfl <| ls rfl rfl rfl (cb b6_) rfl <| ls rfl rfl rfl (cb b6_) rfl <| ls rfl rfl rfl (cb b6_) rfl <| lp rfl (qu (b := true) (v := (.bool true)) (cb b6_) rfl) ?_
   obtain rfl := si H
   exact nx ⟨(ku1 (ku4 kz rfl) rfl), ⟨_, rfl, rfl⟩, er⟩
  ·refine lg rfl rfl rfl rfl (cb b6_) (qb Tryz.underlying60 rfl Tryz.sizeOf9 rfl rfl) <| lg rfl rfl rfl rfl (cb b6_) (qz Tryz.isAgg9 k6 rfl rfl) <| lg rfl rfl rfl rfl (cb b6_) (qz Tryz.isAgg9 (Blk.ext k_a1 e5) rfl rfl) ?_
   obtain ⟨c8, H⟩ := qa H
   refine vy (tg rfl rfl rfl (cb b6_)) rfl (ltb rfl) rfl Tryz.call244 (Vo.calls (w := w2) (a0 := a0.path) (a1 := a1) (od c8)) rfl <| fun w9 e10 => lp rfl (qu (b := false) (v := (.bool (decide (a1 = []) || vu a0.path a1))) (cb b6_) rfl) ?_
   obtain rfl := si H
   exact nx ⟨(ku1 (ku4 kz rfl) rfl), ⟨_, rfl, rfl⟩, e10⟩
 intro s14 w10 z15 K11 hq h12 e13
 rw [hq] at h12; clear hq
 refine lp rfl (qA h12) <| nx <| qn <| qt ?_
 obtain rfl := si H
 exact vh rfl (e5.t e13)
/-! slices.DeleteFunc(()impl.Node,impl.Node), by text -/
theorem J3.calls {w wF : World} {B : Nat} {v : Value} {xs : List Nd} (hO : Ow 60 4 qr B w v xs) (kF : Ext wF w) (hF : wF.heap.size ≤ B) (hl : xs.length ≤ 1048576) {u : Value} {q : Nd → Bool}
    (hf : ∀ x, jq Tryz.prog wF u [.agg (qr x).toArray] (.bool (q x))) (hu : u.cells = #[u]) :
    Calls Tryz.prog 242 #[v, u] w (Rt (fun r w' => Ext wF w' ∧ Ow 60 4 qr B w' r (xs.filter fun x => !q x))) := by
  obtain ⟨A, c, hv⟩ := hO.rd.shape
  have hidx := Yr (p := fun x => some (q x)) (q := q) (l := xs) (fun _ _ => rfl)
  refine qh Tryz.func242 rfl (Nat.le_of_ble_eq_true rfl) Tryz.ntmps242 rfl ?_
  refine wr <| lp rfl (qA (v := .slice none 0 0) rfl) <| nx <| wr <| lp rfl (xm v rfl) <| lp rfl (xm u rfl) <|
    lc rfl rfl Tryz.call261 (vb.calls (w := w) (a0 := xs) (a1 := fun x => some (q x)) hO.rd (fun x r h => by have h := si h; subst h; exact (hf x).ext kF) hu (by omega) hidx) rfl <| fun w1 e1 => lp rfl (qA (v := .int .i64 (y8 q xs)) rfl) <| nx <|
    qj <| wr <| lp rfl (qf (v := .int .i64 (y8 q xs)) rfl) <| lp rfl (yn rfl rfl) <| nx ?_
  have hge := findI_ge q xs
  by_cases hm : y8 q xs = -1
  · have hnone : ∀ x ∈ xs, q x = false := by
      have := findI_any q xs
      rw [hm] at this
      intro x hx
      rcases ql (q x) with h | h
      · have h2 : xs.any q = true := List.any_eq_true.2 ⟨x, hx, h⟩
        rw [h2] at this; cases this
      · exact h
    have hfil : (xs.filter fun x => !q x) = xs := List.filter_eq_self.2 fun x hx => by rw [hnone x hx]; rfl
    refine qk (cb (decide_eq_true hm)) <| wr <| lp rfl (xm v rfl) <| lp rfl (xa v rfl) <| nx <| qn <| qw <| qt ?_
    rw [hfil]
    exact ⟨_, rfl, Ext.trans kF e1, hO.ext e1⟩
  · obtain ⟨hin, hq0⟩ := findI_get q xs (by omega)
    obtain ⟨i0, hi0⟩ : ∃ i0 : Nat, y8 q xs = i0 := ⟨(y8 q xs).toNat, by omega⟩
    rw [hi0] at hin hq0 ⊢
    have hlt0 : i0 < xs.length := by have := Qs hin; omega
    have hpre : (xs.take (i0 + 1)).filter (fun x => !q x) = xs.take i0 := by
      have hfst := findI_first q xs i0 hi0
      rw [List.take_succ_eq_append_getElem hlt0, List.filter_append]
      have h1 : (xs.take i0).filter (fun x => !q x) = xs.take i0 := List.filter_eq_self.2 fun x hx => by rw [hfst x hx]; rfl
      have h2 : q xs[i0] = true := by rw [vZ, vY hlt0] at hq0; exact hq0
      rw [h1]; simp [h2]
    have hpl : ((xs.take (i0 + 1)).filter (fun x => !q x)).length = i0 := by rw [hpre]; simp; omega
    have hwi : IntKind.wrap .i64 ((i0 : Int) + 1) = ((i0 + 1 : Nat) : Int) := by rw [Int.natCast_add, Int.natCast_one]; exact Go.UL.wrap_small (by omega) (by omega)
    refine qi (cb (decide_eq_false (by omega))) <| qo <| qe <| qj <| wr <| lp rfl (qf (v := .int .i64 (i0 : Int)) rfl) <| lp rfl (vi rfl rfl) <|
      lp rfl (qA (v := .int .i64 ((i0 + 1 : Nat) : Int)) (congrArg (Value.int .i64) hwi)) <| nx ?_
    refine vD (fun s0 σ W' => σ 0 = v ∧ Ext wF W' ∧ ∃ ys : List Nd, ys.length = xs.length ∧ σ 5 = .int .i64 ((xs.filter fun x => !q x).length : Int) ∧ Ow 60 4 qr B W' v ys ∧ ys.take (xs.filter fun x => !q x).length = xs.filter fun x => !q x) ?_ ?_
    · refine qB <| vo (fun s0 m σ W' => σ 0 = v ∧ σ 1 = u ∧ Ext wF W' ∧ ∃ (j : Nat) (ys : List Nd), j + m = xs.length ∧ i0 < j ∧ σ 6 = .int .i64 (j : Int) ∧ ys.length = xs.length ∧ σ 5 = .int .i64 (((xs.take j).filter fun x => !q x).length : Int) ∧ ((xs.take j).filter fun x => !q x).length < j ∧ Ow 60 4 qr B W' v ys ∧ ys.take ((xs.take j).filter fun x => !q x).length = (xs.take j).filter (fun x => !q x) ∧ ys.drop j = xs.drop j) (xs.length - (i0 + 1))
        ⟨rfl, rfl, Ext.trans kF e1, i0 + 1, xs, by omega, by omega, rfl, rfl, (congrArg (fun n : Nat => Value.int .i64 (n : Int)) hpl).symm, by omega, hO.ext e1, by rw [hpl, hpre], rfl⟩ ?_
      rintro m s1 W1 ⟨h0, h1, k1, j, ys, hjm, hij, h6, hyl, h5, hlt, hO1, htk, hdr⟩
      refine qj <| wr <| lp rfl (qf h6) <| lp rfl (qf h0) <| lp rfl (qO Tryz.underlying29 rfl hO1.rd) <| lp rfl (yl rfl rfl) <| nx ?_
      by_cases hjl : j < xs.length
      · have hjy : j < ys.length := by omega
        have hinj : inR (j : Int) ys.length = true := qV hjy
        have hyj : gt ys (j : Int) = xs[j] := by
          rw [vZ, vY hjy]
          have h2 : (ys.drop j)[0]? = (xs.drop j)[0]? := by rw [hdr]
          simp only [List.getElem?_drop, Nat.add_zero, List.getElem?_eq_getElem hjy, List.getElem?_eq_getElem hjl] at h2
          exact si h2
        refine qk (cb (decide_eq_true (by omega))) <| qo <| qe <| qj <| qB <| wr <| lp rfl (qf h0) <| lp rfl (qf h6) <| q4 (.plain rfl) rfl (ltb rfl) rfl Tryz.underlying29 Tryz.sizeOf60 rfl hO1.rd rfl hinj <| fun p hA =>
          lp rfl (qW (cs := qr (gt ys (j : Int))) Tryz.isAgg60 Tryz.sizeOf60 rfl rfl hA) <| QA (.plain rfl) rfl (ltb rfl) rfl Tryz.zeroValue60 <| fun b7 W2 z1 z2 e2 k2 => ji (.plain rfl) rfl rfl Tryz.sizeOf60 rfl rfl rfl rfl rfl k2 <| fun W3 hw3 k3 => nx ?_
        have e3 : Ext W1 W3 := Ext.wr e2 hw3 (Nat.le_of_eq z1) (Nat.le_refl _)
        have hO3 := hO1.ext e3
        have kF3 : Ext wF W3 := Ext.trans k1 e3
        refine wr <| lp rfl (qf h1) <| lp rfl (qW (cs := qr (gt ys (j : Int))) Tryz.isAgg60 Tryz.sizeOf60 rfl rfl (Blk.at0 k3)) <| Yb (.plain rfl) rfl (ltb rfl) rfl rfl ((hf (gt ys (j : Int))).ext kF3) rfl <| fun W4 e4 => lp rfl (yM rfl) <| nx ?_
        have hO4 := hO3.ext e4
        have kF4 := Ext.trans kF3 e4
        have hstep : (xs.take (j + 1)).filter (fun x => !q x) = (xs.take j).filter (fun x => !q x) ++ (if q xs[j] then [] else [xs[j]]) := by
          rw [List.take_succ_eq_append_getElem hjl, List.filter_append]
          congr 1
          rcases ql (q xs[j]) with h | h <;> simp [h]
        have hwj : IntKind.wrap .i64 ((j : Int) + 1) = ((j + 1 : Nat) : Int) := by rw [Int.natCast_add, Int.natCast_one]; exact Go.UL.wrap_small (by omega) (by omega)
        have hdr1 : ys.drop (j + 1) = xs.drop (j + 1) := by
          have := congrArg (List.drop 1) hdr
          simpa [List.drop_drop, Nat.add_comm] using this
        have h6' := h6
        rcases ql (q (gt ys (j : Int))) with hq | hq
        · refine qi (cb (by rw [hq]; rfl)) <| qo <| vk <| qe <| qG <| lp rfl (qf h6) <| lp rfl (vi rfl rfl) <| lp rfl (qA (v := .int .i64 ((j + 1 : Nat) : Int)) (congrArg (Value.int .i64) hwj)) <| nx ?_
          rw [hyj] at hq
          rw [hq] at hstep
          simp only [if_true, List.append_nil] at hstep
          refine ⟨m - 1, by omega, h0, h1, kF4, j + 1, ys, by omega, by omega, rfl, hyl, by rw [hstep]; exact h5, by rw [hstep]; omega, hO4, by rw [hstep]; exact htk, hdr1⟩
        · refine qk (cb (by rw [hq]; rfl)) <| wr <| lp rfl (qf h0) <| lp rfl (qf h5) <| lp rfl (qW (cs := qr (gt ys (j : Int))) Tryz.isAgg60 Tryz.sizeOf60 rfl rfl (Blk.at0 (k3.ext e4))) <|
            L_idxO (.plain rfl) rfl (ltb rfl) rfl Tryz.underlying29 Tryz.sizeOf60 rfl hO4 rfl (qV (show ((xs.take j).filter fun x => !q x).length < ys.length by omega)) <| fun p9 h9 => ?_
          refine Gs (a := gt ys (j : Int)) (u := .agg (qr (gt ys (j : Int))).toArray) (vs := qr (gt ys (j : Int))) (off := 0) (.plain rfl) rfl rfl Tryz.sizeOf60 rfl h9 rfl rfl rfl rfl (by simp [qr]) rfl <| fun b9 W5 hb9 hB9 hw9 hO5 => nx ?_
          have kF5 : Ext wF W5 := Ext.wr kF4 hw9 (Nat.le_trans hF hB9) (Nat.le_refl _)
          rw [hyj] at hq
          rw [hq] at hstep
          simp only [Bool.false_eq_true, if_false] at hstep
          have hw5 : IntKind.wrap .i64 ((((xs.take j).filter fun x => !q x).length : Int) + 1) = ((((xs.take j).filter fun x => !q x).length + 1 : Nat) : Int) := by rw [Int.natCast_add, Int.natCast_one]; exact Go.UL.wrap_small (by omega) (by omega)
          refine qG <| lp rfl (qf h5) <| lp rfl (vi rfl rfl) <| lp rfl (qA (v := .int .i64 ((((xs.take j).filter fun x => !q x).length + 1 : Nat) : Int)) (congrArg (Value.int .i64) hw5)) <| qJ <| vk <| qe <|
            qG <| lp rfl (qf h6') <| lp rfl (vi rfl rfl) <| lp rfl (qA (v := .int .i64 ((j + 1 : Nat) : Int)) (congrArg (Value.int .i64) hwj)) <| nx ?_
          refine ⟨m - 1, by omega, h0, h1, kF5, j + 1, _, by omega, by omega, rfl, by rw [JF]; exact hyl, by rw [hstep]; simp; rfl, by rw [hstep]; simp; omega, hO5, ?_, ?_⟩
          · rw [hstep, hyj]
            simp only [Y2, Int.toNat_natCast, List.length_append, List.length_cons, List.length_nil]
            rw [List.take_set_succ (by omega), htk]
          · simp only [Y2, Int.toNat_natCast]
            rw [List.drop_set_of_lt (by omega)]; exact hdr1
      · have hje : j = xs.length := by omega
        subst hje
        rw [List.take_length] at h5 htk
        refine qi (cb (decide_eq_false (by omega))) <| vH <| qY <| qY <| yF <| qe ?_
        exact ⟨h0, k1, ys, hyl, h5, hO1, htk⟩
    · rintro s2 W2 ⟨h0, k2, ys, hyl, h5, hO2, htk⟩
      have hli : (xs.filter fun x => !q x).length ≤ ys.length := by rw [hyl]; exact List.length_filter_le _ _
      have hv2 : v = .slice A ys.length c := by rw [hyl]; exact hv
      have hcap : ys.length ≤ c := by obtain ⟨A', c', hv', ⟨hn, _⟩, _⟩ := hO2.rd; rw [hv2] at hv'; injection hv' with _ _ e; omega
      refine qe <| wr <| lp rfl (qf h0) <| lp rfl (qf h5) <|
        lp rfl (Yt (A := A) (n := ys.length) (c := c) (l := ((xs.filter fun x => !q x).length : Int)) (h := (ys.length : Int)) Tryz.underlying29 Tryz.sizeOf60 hv2 ⟨_, rfl⟩ rfl (by omega) (by omega) (by omega)) <|
        L_clearO (enc := qr) (zr := (⟨0, [], [], 0⟩ : Nd)) (i := (xs.filter fun x => !q x).length) (.plain rfl) rfl rfl El.t29 Tryz.zeroValue60 rfl rfl hO2 hv2 hli rfl <| fun W3 hg3 hz3 hO3 => nx ?_
      have k3 : Ext wF W3 := Below.mono (hg3 W2 (Below.refl _ _)) hF |> Below.trans k2
      have hlz : (xs.filter fun x => !q x).length ≤ (ys.take (xs.filter fun x => !q x).length ++ List.replicate (ys.length - (xs.filter fun x => !q x).length) (⟨0, [], [], 0⟩ : Nd)).length := by simp; omega
      refine wr <| lp rfl (qf h0) <| lp rfl (qf h5) <| L_takeO (.plain rfl) rfl (ltb rfl) rfl Tryz.underlying29 Tryz.sizeOf60 rfl hO3 rfl hlz <| fun r hr => lp rfl (xa r rfl) <| nx <| qn <| qt ?_
      refine ⟨_, rfl, k3, ?_⟩
      have hx : (ys.take (xs.filter fun x => !q x).length ++ List.replicate (ys.length - (xs.filter fun x => !q x).length) (⟨0, [], [], 0⟩ : Nd)).take (xs.filter fun x => !q x).length = xs.filter fun x => !q x := by
        rw [htk, List.take_left]
      rw [hx] at hr
      exact hr

/-! impl.removed, by text -/
theorem impl_removed.calls {w : World} {a0 : List Nd} {a1 : List UInt8} {v_a0 : Value} (f_a0 : Rd 4 qr w v_a0 a0) (h0 : a0.length ≤ 1048576) (h1 : a1.length ≤ 1048576) :
    Calls Tryz.prog 169 #[v_a0, S a1] w (Rt (RO 60 4 qr w (ye a0 a1 true))) := by
  refine qh Tryz.func169 rfl (Nat.le_of_ble_eq_true rfl) Tryz.ntmps169 rfl ?_
  refine wr <| j0 (.plain rfl) rfl (ltb rfl) rfl rfl <| fun b w1 z1 z2 e1 k1 => lp rfl (qA (v := .slice none 0 0) rfl) <| nx <| wr <| lp rfl (xm v_a0 rfl) <|
    vp (.plain rfl) rfl (ltb rfl) rfl Tryz.call156 (V7.calls (w := w1) (a0 := a0) (f_a0.ext e1) h0) rfl <| fun v2 w2 e2 o2 => lp rfl (V0 (vs := #[]) (us := #[.pointer (some ⟨b, 0, none⟩)]) rfl rfl) <|
    QX (.plain rfl) rfl (ltb rfl) rfl Tryz.call242 (J3.calls (w := w2) (wF := w1) (B := w1.heap.size) (xs := a0) (q := fun x => decide (x.path = a1) || (decide (a1 = []) || vu x.path a1)) o2 e2 (Nat.le_refl _) h0
      (fun x => jq.mk Tryz.call243 (by rfl) fun w9 k9 => Qd.calls (w := w9) (a0 := x) (a1 := a1) (k1.ext k9) h1) rfl) rfl <| fun v3 w3 h3 => ?_
  obtain ⟨e3, o3⟩ := h3
  refine lp rfl (xa v3 rfl) <| nx <| qn <| qt ?_
  rw [without_impl]
  exact Qi rfl (e1.t e3) o3 e1.size

/-! impl.paths -/
theorem vA.calls {w : World} {a0 : List (List Rec)} (gv : GV 0 w) {v_a0 : Value} (f_a0 : Rd2 5 qg w v_a0 a0) (h0 : a0.length ≤ 5) (h1 : ∀ l ∈ a0, l.length ≤ 1048576) (h2 : ∀ l ∈ a0, ∀ x ∈ l, x.path.length ≤ 1048576) :
  Calls Tryz.prog 134 #[v_a0] w (Rt (RO 9 1 yK w (vm a0))) := by
 obtain ⟨k, H⟩ := vA.eq a0 h0 h1 h2
 generalize (vm a0) = r at H ⊢
 unfold vA.sh at H
 refine qh Tryz.func134 rfl (Nat.le_of_ble_eq_true rfl) Tryz.ntmps134 rfl ?_
 refine wr <| lp rfl (xa (.slice none 0 0) rfl) <| nx <| wr <| vO (.plain rfl) rfl (ltb rfl) rfl Tryz.underlying42 Tryz.sizeOf9 Tryz.zeroValue9 rfl rfl rfl (vs := []) rfl (qR rfl) <| fun b1 w2 z3 z4 e5 k6 => lp rfl (xa (.slice (some ⟨b1, 0, none⟩) 0 0) rfl) <| nx <| qj <| wr <| lp rfl (xm v_a0 rfl) <| lp rfl (Ym Tryz.underlying23 rfl (Rd2.ext f_a0 e5)) <| lp rfl (xm (.int .i64 0) rfl) <| nx ?_
 obtain ⟨z10, L11, C12⟩ := bind_some H
 clear H
 refine  vD (fun s0 sQ wQ => ∃ (x3_13 : List (List UInt8)) (v14 : Value), Kp [(3, 4), (5, 6), (7, 8), (11, 28)] s0 sQ ∧ sQ 3 = v14 ∧ Ow 9 1 yK w2.heap.size wQ v14 x3_13 ∧ Ext w2 wQ ∧ z10 = .inr x3_13) ?_ ?_
 ·refine qB <| vo (fun s0 kk sQ wQ => ∃ (x3_7 : List (List UInt8)) (v8 : Value) (x11_9 : Int), Kp [(3, 4), (5, 6), (7, 8), (11, 28)] s0 sQ ∧ sQ 3 = v8 ∧ Ow 9 1 yK w2.heap.size wQ v8 x3_7 ∧ sQ 11 = .int .i64 x11_9 ∧ Ext w2 wQ ∧ qp (vA.b1 k a0) kk (x3_7, x11_9) = some z10) k ⟨([] : List (List UInt8)), (.slice (some ⟨b1, 0, none⟩) 0 0), 0, kz, rfl, (Ow.zero), rfl, er, L11⟩ ?_
  rintro k19 s20 w21 ⟨x3_7, v8, x11_9, K22, h25, h26, h27, e23, L24⟩
  cases k19 with
  | zero => exact absurd L24 (by simp [qp])
  | succ k19 =>
   obtain ⟨t28, H, S29⟩ := qK L24
   clear L24
   unfold vA.b1 at H
   refine wr <| lp rfl (yl h27 (K22 10 rfl)) <| nx <| qj ?_
   rcases qd H with ⟨q30, H⟩ | ⟨q30, H⟩
   ·refine qk (cb q30) <| qo <| qe <| qj <| qB <| wr ?_
    obtain ⟨c31, H⟩ := qa H
    refine L_idx2o (.plain rfl) rfl (ltb rfl) rfl Tryz.underlying23 Tryz.sizeOf35 (K22 9 rfl) f_a0 (e5.t e23) h27 c31 <| fun p32 v34 h33 h35 => lp rfl (yr Tryz.isAgg35 rfl h33 rfl) <| lp rfl (xa v34 rfl) <| nx <| wr <| lp rfl (xm v34 rfl) <| lp rfl (qO Tryz.underlying35 rfl (Rd.ext h35 (e5.t e23))) <| lp rfl (xm (.int .i64 0) rfl) <| nx ?_
    obtain ⟨z39, L40, C41⟩ := bind_some H
    clear H
    refine  vD (fun s0 sQ wQ => ∃ (x3_42 : List (List UInt8)) (v43 : Value), Kp [(3, 4), (7, 8), (17, 27)] s0 sQ ∧ sQ 3 = v43 ∧ Ow 9 1 yK w2.heap.size wQ v43 x3_42 ∧ Ext w2 wQ ∧ z39 = .inr x3_42) ?_ ?_
    ·refine qB <| vo (fun s0 kk sQ wQ => ∃ (x3_36 : List (List UInt8)) (v37 : Value) (x17_38 : Int), Kp [(3, 4), (7, 8), (17, 27)] s0 sQ ∧ sQ 3 = v37 ∧ Ow 9 1 yK w2.heap.size wQ v37 x3_36 ∧ sQ 17 = .int .i64 x17_38 ∧ Ext w2 wQ ∧ qp (vA.b2 a0 x11_9) kk (x3_36, x17_38) = some z39) k ⟨x3_7, v8, 0, kz, h25, h26, rfl, e23, L40⟩ ?_
     rintro k48 s49 w50 ⟨x3_36, v37, x17_38, K51, h54, h55, h56, e52, L53⟩
     cases k48 with
     | zero => exact absurd L53 (by simp [qp])
     | succ k48 =>
      obtain ⟨t57, H, S58⟩ := qK L53
      clear L53
      unfold vA.b2 at H
      refine wr <| lp rfl (yl h56 (K51 16 rfl)) <| nx <| qj ?_
      rcases qd H with ⟨q59, H⟩ | ⟨q59, H⟩
      ·refine qk (cb q59) <| qo <| qe <| qj <| qB <| wr ?_
       obtain ⟨c60, H⟩ := qa H
       refine q4 (.plain rfl) rfl (ltb rfl) rfl Tryz.underlying35 Tryz.sizeOf58 (K51 15 rfl) (Rd.ext h35 (e5.t e52)) h56 c60 <| fun p61 h62 => lp rfl (qW Tryz.isAgg58 Tryz.sizeOf58 rfl rfl h62) <| QA (.plain rfl) rfl (ltb rfl) rfl Tryz.zeroValue58 <| fun b63 w64 z65 z66 e67 k68 => ji (.plain rfl) rfl rfl Tryz.sizeOf58 rfl rfl rfl rfl rfl k68 <| fun w69 h70 k71 => nx <| qG <| lp rfl (qf h54) <| lp rfl (qb Tryz.underlying58 rfl Tryz.sizeOf9 rfl rfl) <| lp rfl (qz Tryz.isAgg9 k71 rfl rfl) <| vO (.plain rfl) rfl (ltb rfl) rfl Tryz.underlying42 Tryz.sizeOf9 Tryz.zeroValue9 rfl rfl rfl (vs := [(S ((gt (gt a0 x11_9) x17_38).path))]) rfl (qR rfl) <| fun b72 w73 z74 z75 e76 k77 => ?_
       obtain ⟨c78, H⟩ := qa H
       refine vW (enc := yK) (.plain rfl) rfl (ltb rfl) rfl El.t42 rfl rfl (Ow.ext h55 (Ext.trans (Below.trans e67 (Wr.below h70 (Nat.le_of_eq z65))) e76)) (Ow.rd (Ow.new (xs := [(gt (gt a0 x11_9) x17_38).path]) (sz := 1) (enc := yK) (base := w69.heap.size) k77 (Nat.le_of_eq z74) rfl (fun _ _ => by rfl) (Nat.le_of_ble_eq_true rfl))) (GJ _) (od c78) (((e52.t (Below.trans e67 (Wr.below h70 (Nat.le_of_eq z65)))).t e76)).size <| fun v79 w80 o81 z82 g83 => lp rfl (xa v79 rfl) <| qJ <| vk <| qe <| qG <| lp rfl (vi h56 rfl) <| lp rfl (xm (.int .i64 (IntKind.wrap .i64 (x17_38 + 1))) rfl) <| nx ?_
       obtain rfl := si H
       exact ⟨_, Nat.lt_succ_self _, x3_36 ++ ([(gt (gt a0 x11_9) x17_38).path] : List (List UInt8)), v79, IntKind.wrap .i64 (x17_38 + 1), (ku4 (ku8 K51 rfl) rfl), rfl, o81, rfl, (g83 _ ((e52.t (Below.trans e67 (Wr.below h70 (Nat.le_of_eq z65)))).t e76)), S58⟩
      ·refine qi (cb q59) <| vH <| qY <| qY <| yF <| qe ?_
       obtain rfl := si H
       obtain rfl := si S58
       exact ⟨x3_36, v37, (ku1 K51 rfl), h54, h55, e52, rfl⟩
    ·rintro s45 w44 ⟨x3_42, v43, K46, h84, h85, e47, y86⟩
     rw [y86] at C41
     have H := C41
     replace H : _ = some _ := H
     refine vk <| qe <| qG <| lp rfl (vi ((K46 11 rfl).trans h27) rfl) <| lp rfl (xm (.int .i64 (IntKind.wrap .i64 (x11_9 + 1))) rfl) <| nx ?_
     obtain rfl := si H
     exact ⟨_, Nat.lt_succ_self _, x3_42, v43, IntKind.wrap .i64 (x11_9 + 1), (ku2 (Kp.cut (ku3 (ku4 K22 rfl) rfl) K46 rfl) rfl), h84, h85, rfl, e47, S29⟩
   ·refine qi (cb q30) <| vH <| qY <| qY <| yF <| qe ?_
    obtain rfl := si H
    obtain rfl := si S29
    exact ⟨x3_7, v8, (ku1 K22 rfl), h25, h26, e23, rfl⟩
 ·rintro s16 w15 ⟨x3_13, v14, K17, h87, h88, e18, y89⟩
  rw [y89] at C12
  have H := C12
  replace H : _ = some _ := H
  refine qe <| wr <| lp rfl (qf h87) ?_
  obtain ⟨c90, H⟩ := qa H
  obtain ⟨c91, H⟩ := qa H
  refine QX (.plain rfl) rfl (ltb rfl) rfl Tryz.call213 (GT.calls (w := w15) h88 (GV.ext gv (e5.t e18)) (GV.pos (GV.ext gv e5)) (od c90) (od c91)) rfl <| fun _ w92 A93 => ?_
  obtain ⟨rfl, B94, ys95, p96, q97, o98⟩ := A93
  refine nx <| wr <| lp rfl (qf h87) <| QX (.plain rfl) rfl (ltb rfl) rfl Tryz.call214 (Xf.calls (w := w92) o98 p96 q97) rfl <| fun v103 w99 A100 => ?_
  obtain ⟨B101, o102⟩ := A100
  refine lp rfl (xa v103 rfl) <| nx <| qn <| qt ?_
  obtain rfl := si H
  exact Qi rfl (e5.t (B101 _ (B94 _ e18))) o102 (e5).size
/-! spec.l06Over -/
theorem QJ.calls {w : World} {a0 : Rec} {a1 : Rec} :
  Calls Tryz.prog 206 #[.agg (qg a0).toArray, .agg (qg a1).toArray] w (Rt (RP w (.agg (qg (jg a0 a1)).toArray))) := by
 have H := QJ.eq a0 a1
 generalize (jg a0 a1) = r at H ⊢
 unfold QJ.sh at H
 refine VB Tryz.func206 rfl (Nat.le_of_ble_eq_true rfl) Tryz.ntmps206 ?_
 refine wr <| j0 (.plain rfl) rfl (ltb rfl) rfl rfl <| fun b1 w2 z3 z4 e5 k6 => j0 (.plain rfl) rfl (ltb rfl) rfl rfl <| fun b7 w8 z9 z10 e11 k12 => QA (.plain rfl) rfl (ltb rfl) rfl Tryz.zeroValue58 <| fun b13 w14 z15 z16 e17 k18 => nx <| qj <| wr <| lp rfl (qb Tryz.underlying58 rfl Tryz.sizeOf3 rfl rfl) <| lp rfl (qz Tryz.isAgg3 (Blk.ext k12 e17) rfl rfl) <| lp rfl (yn rfl rfl) <| lp rfl (xm (.bool (decide (a1.kind = 3))) rfl) <| jI 3 [(9, 12)] 11 (.bool ((decide (a1.kind = 3)) && (vz a0))) ?_ ?_
 ·rcases ql (decide (a1.kind = 3)) with b18_ | b18_
  ·exact lg rfl rfl rfl rfl (cb b18_) (qW Tryz.isAgg58 Tryz.sizeOf58 rfl rfl (Blk.at0 (Blk.ext k6 (e11.t e17)))) <| vy (tg rfl rfl rfl (cb b18_)) rfl (ltb rfl) rfl Tryz.call208 (Qw.calls (w := w14) (a0 := a0)) rfl <| fun w20 e21 => lp rfl (qu (b := true) (v := (.bool (vz a0))) (cb b18_) rfl) <| nx ⟨(ku3 kz rfl), (VP b18_), e21⟩
  ·exact ls rfl rfl rfl (cb b18_) rfl <| ls rfl rfl rfl (cb b18_) rfl <| lp rfl (qu (b := false) (v := (.bool false)) (cb b18_) rfl) <| nx ⟨(ku3 kz rfl), (VS b18_), er⟩
 intro s24 w20 K21 h22 e23
 refine nx ?_
 rcases qd H with ⟨q25, H⟩ | ⟨q25, H⟩
 ·refine qk (h22.trans (cb q25)) <| qG <| lp rfl (qb Tryz.underlying58 rfl Tryz.sizeOf4 rfl (K21 3 rfl)) <| Vb (.plain rfl) rfl rfl Tryz.sizeOf4 rfl rfl rfl (Blk.ext k12 (e17.t e23)) (ltb rfl) <| fun w26 h27 k28 => nx <| wr <| lp rfl (qW Tryz.isAgg58 Tryz.sizeOf58 rfl (K21 3 rfl) (Blk.at0 k28)) <| ji (.plain rfl) rfl rfl Tryz.sizeOf58 (K21 4 rfl) rfl rfl rfl rfl (Wr.blk h27 (Blk.ext k18 e23) (fun e9 => by have e8 : b13 = b7 := e9; clear e9; have h9 := Blk.lt k12; have h8 := z15; omega)) <| fun w29 h30 k31 => nx <| qn <| YC ?_
  obtain rfl := si H
  exact finC1 rfl (K21 4 rfl) k31 Tryz.isAgg58 Tryz.sizeOf58 rfl (e5.t (Below.trans (Below.trans ((e11.t e17).t e23) (Wr.below h27 (Nat.le_of_eq z9))) (Wr.below h30 (Nat.le_trans e11.size (Nat.le_of_eq z15)))))
 ·refine qi (h22.trans (cb q25)) <| qo <| qe <| wr <| lp rfl (qW Tryz.isAgg58 Tryz.sizeOf58 rfl (K21 3 rfl) (Blk.at0 (Blk.ext k12 (e17.t e23)))) <| ji (.plain rfl) rfl rfl Tryz.sizeOf58 (K21 4 rfl) rfl rfl rfl rfl (Blk.ext k18 e23) <| fun w32 h33 k34 => nx <| qn <| YC ?_
  obtain rfl := si H
  exact finC1 rfl (K21 4 rfl) k34 Tryz.isAgg58 Tryz.sizeOf58 rfl ((e5.t e11).t (Below.trans (e17.t e23) (Wr.below h33 (Nat.le_of_eq z15))))
/-! spec.l06Two -/
abbrev qS.e1 (a0 : List Rec) (a1 : List Rec) (x6_9 : Int) (x7_10 : Int) := ((!(decide (x7_10 = (a1.length : Int)))) && (decide (x6_9 < (a0.length : Int))))
abbrev qS.e2 (a0 : List Rec) (a1 : List Rec) (x6_9 : Int) (x7_10 : Int) := ((decide (x7_10 = (a1.length : Int))) || ((decide (x6_9 < (a0.length : Int))) && (vw (cut 47 ((gt a0 x6_9).path)) (cut 47 ((gt a1 x7_10).path)))))
theorem qS.walk {k : Nat} {w : World} {a0 : List Rec} {a1 : List Rec} {v_a0 : Value} (f_a0 : Rd 5 qg w v_a0 a0) {v_a1 : Value} (f_a1 : Rd 5 qg w v_a1 a1) {r : List Rec} (H : qS.sh k a0 a1 = some r) :
  Calls Tryz.prog 121 #[v_a0, v_a1] w (Rt (RO 58 5 qg w r)) := by
 unfold qS.sh at H
 refine qh Tryz.func121 rfl (Nat.le_of_ble_eq_true rfl) Tryz.ntmps121 rfl ?_
 refine wr <| lp rfl (xa (.slice none 0 0) rfl) <| nx <| wr <| vO (.plain rfl) rfl (ltb rfl) rfl Tryz.underlying35 Tryz.sizeOf58 Tryz.zeroValue58 rfl rfl rfl (vs := []) rfl (qR rfl) <| fun b1 w2 z3 z4 e5 k6 => lp rfl (xa (.slice (some ⟨b1, 0, none⟩) 0 0) rfl) <| nx <| wr <| lp rfl (xa (.int .i64 0) rfl) <| nx <| wr <| lp rfl (xa (.int .i64 0) rfl) <| nx <| qj ?_
 obtain ⟨z11, L12, C13⟩ := bind_some H
 clear H
 refine  vD (fun s0 sQ wQ => ∃ (x5_14 : List Rec) (v15 : Value), Kp [(5, 8), (9, 103)] s0 sQ ∧ sQ 5 = v15 ∧ Ow 58 5 qg w2.heap.size wQ v15 x5_14 ∧ Ext w2 wQ ∧ z11 = .inr x5_14) ?_ ?_
 ·refine qB <| vo (fun s0 kk sQ wQ => ∃ (x5_7 : List Rec) (v8 : Value) (x6_9 : Int) (x7_10 : Int), Kp [(5, 8), (9, 103)] s0 sQ ∧ sQ 5 = v8 ∧ Ow 58 5 qg w2.heap.size wQ v8 x5_7 ∧ sQ 6 = .int .i64 x6_9 ∧ sQ 7 = .int .i64 x7_10 ∧ Ext w2 wQ ∧ qp (qS.b1 a0 a1) kk (x5_7, x6_9, x7_10) = some z11) k ⟨([] : List Rec), (.slice (some ⟨b1, 0, none⟩) 0 0), 0, 0, kz, rfl, (Ow.zero), rfl, rfl, er, L12⟩ ?_
  rintro k20 s21 w22 ⟨x5_7, v8, x6_9, x7_10, K23, h26, h27, h28, h29, e24, L25⟩
  cases k20 with
  | zero => exact absurd L25 (by simp [qp])
  | succ k20 =>
   obtain ⟨t30, H, S31⟩ := qK L25
   clear L25
   unfold qS.b1 at H
   refine qj <| wr <| lp rfl (qf h28) <| lp rfl (xm v_a0 (K23 0 rfl)) <| lp rfl (qO Tryz.underlying35 rfl (Rd.ext f_a0 (e5.t e24))) <| lp rfl (yl rfl rfl) <| lp rfl (xm (.bool (decide (x6_9 < (a0.length : Int)))) rfl) <| jI 5 [(14, 19)] 18 (.bool ((decide (x6_9 < (a0.length : Int))) || (decide (x7_10 < (a1.length : Int))))) ?_ ?_
   ·rcases ql (decide (x6_9 < (a0.length : Int))) with b31_ | b31_
    ·exact ls rfl rfl rfl (cb b31_) rfl <| ls rfl rfl rfl (cb b31_) rfl <| ls rfl rfl rfl (cb b31_) rfl <| ls rfl rfl rfl (cb b31_) rfl <| lp rfl (qu (b := true) (v := (.bool true)) (cb b31_) rfl) <| nx ⟨(ku1 (ku4 kz rfl) rfl), (Jo b31_), er⟩
    ·exact lg rfl rfl rfl rfl (cb b31_) (qf h29) <| lg rfl rfl rfl rfl (cb b31_) (xm v_a1 (K23 1 rfl)) <| lg rfl rfl rfl rfl (cb b31_) (qO Tryz.underlying35 rfl (Rd.ext f_a1 (e5.t e24))) <| lg rfl rfl rfl rfl (cb b31_) (yl rfl rfl) <| lp rfl (qu (b := false) (v := (.bool (decide (x7_10 < (a1.length : Int))))) (cb b31_) rfl) <| nx ⟨(ku1 (ku4 kz rfl) rfl), (Jn b31_), er⟩
   intro s37 w33 K34 h35 e36
   refine nx ?_
   rcases qd H with ⟨q38, H⟩ | ⟨q38, H⟩
   ·refine qk (h35.trans (cb q38)) <| qo <| qe <| qB <| qB <| qj ?_
    obtain ⟨c39, H⟩ := qa H
    obtain ⟨c42, H⟩ := qa H
    obtain ⟨c45, H⟩ := qa H
    obtain ⟨c46, H⟩ := qa H
    refine Yp [LEq (.int .i64 x7_10), LEq v_a1, LEq (.int .i64 (a1.length : Int)), LEq (.bool (decide (x7_10 = (a1.length : Int)))), LEq (.bool (decide (x7_10 = (a1.length : Int)))), LIf (!(decide (x7_10 = (a1.length : Int)))) (LEq (.int .i64 x6_9)), LIf (!(decide (x7_10 = (a1.length : Int)))) (LEq v_a0), LIf (!(decide (x7_10 = (a1.length : Int)))) (LEq (.int .i64 (a0.length : Int))), LIf (!(decide (x7_10 = (a1.length : Int)))) (LEq (.bool (decide (x6_9 < (a0.length : Int))))), LIf (!(decide (x7_10 = (a1.length : Int)))) (LEq (.bool (decide (x6_9 < (a0.length : Int))))), LIf (qS.e1 a0 a1 x6_9 x7_10) (LEq v_a0), LIf (qS.e1 a0 a1 x6_9 x7_10) (LEq (.int .i64 x6_9)), LIf (qS.e1 a0 a1 x6_9 x7_10) (yu (qg (gt a0 x6_9))), LIf (qS.e1 a0 a1 x6_9 x7_10) (LAt 1 (qg (gt a0 x6_9))), LIf (qS.e1 a0 a1 x6_9 x7_10) (LEq (S ((gt a0 x6_9).path))), LIf (qS.e1 a0 a1 x6_9 x7_10) (LEq v_a1), LIf (qS.e1 a0 a1 x6_9 x7_10) (LEq (.int .i64 x7_10)), LIf (qS.e1 a0 a1 x6_9 x7_10) (yu (qg (gt a1 x7_10))), LIf (qS.e1 a0 a1 x6_9 x7_10) (LAt 1 (qg (gt a1 x7_10))), LIf (qS.e1 a0 a1 x6_9 x7_10) (LEq (S ((gt a1 x7_10).path))), LIf (qS.e1 a0 a1 x6_9 x7_10) (LEq (.bool (vw (cut 47 ((gt a0 x6_9).path)) (cut 47 ((gt a1 x7_10).path))))), LIf (!(decide (x7_10 = (a1.length : Int)))) (LEq (.bool ((decide (x6_9 < (a0.length : Int))) && (vw (cut 47 ((gt a0 x6_9).path)) (cut 47 ((gt a1 x7_10).path)))))), LEq (.bool (qS.e2 a0 a1 x6_9 x7_10)), LEq (.bool (qS.e2 a0 a1 x6_9 x7_10))] (by kernel_rfl) (by kernel_rfl) ⟨qm, qm, qm, qm, qm, lm, lm, lm, lm, lm, lm, lm, (LIf.mono yu.mono), (LIf.mono LAt.mono), lm, lm, lm, (LIf.mono yu.mono), (LIf.mono LAt.mono), lm, lm, lm, qm, qm, trivial⟩ ⟨?_, ?_, ?_, ?_, ?_, ?_, ?_, ?_, ?_, ?_, ?_, ?_, ?_, ?_, ?_, ?_, ?_, ?_, ?_, ?_, ?_, ?_, ?_, ?_, trivial⟩ ?_
    ·exact fun s x e f d u => lp rfl (xm (.int .i64 x7_10) ((f 7 rfl).trans ((K34 7 rfl).trans h29))) <| se rfl rfl
    ·exact fun s x e f d u => lp rfl (xm v_a1 ((f 1 rfl).trans ((K34 1 rfl).trans (K23 1 rfl)))) <| se rfl rfl
    ·exact fun s x e f d u => lp rfl (qO Tryz.underlying35 (d 1 rfl) (Rd.ext f_a1 (((e5.t e24).t e36).t e))) <| se rfl rfl
    ·exact fun s x e f d u => lp rfl (yn (d 0 rfl) (d 2 rfl)) <| se rfl rfl
    ·exact fun s x e f d u => lp rfl (qf (d 3 rfl)) <| se rfl rfl
    ·exact fun s x e f d u => gF rfl rfl rfl rfl (d 4 rfl) rfl fun b t => lt t rfl rfl (xm (.int .i64 x6_9) ((f 6 rfl).trans ((K34 6 rfl).trans h28))) <| sg rfl rfl b rfl
    ·exact fun s x e f d u => gF rfl rfl rfl rfl (d 4 rfl) rfl fun b t => lt t rfl rfl (xm v_a0 ((f 0 rfl).trans ((K34 0 rfl).trans (K23 0 rfl)))) <| sg rfl rfl b rfl
    ·exact fun s x e f d u => gF rfl rfl rfl rfl (d 4 rfl) rfl fun b t => lt t rfl rfl (qO Tryz.underlying35 ((d 6 rfl).1 (qC (qX b))) (Rd.ext f_a0 (((e5.t e24).t e36).t e))) <| sg rfl rfl b rfl
    ·exact fun s x e f d u => gF rfl rfl rfl rfl (d 4 rfl) rfl fun b t => lt t rfl rfl (yl ((d 5 rfl).1 (qC (qX b))) ((d 7 rfl).1 (qC (qX b)))) <| sg rfl rfl b rfl
    ·exact fun s x e f d u => gF rfl rfl rfl rfl (d 4 rfl) rfl fun b t => lt t rfl rfl (xm (.bool (decide (x6_9 < (a0.length : Int)))) ((d 8 rfl).1 (qC (qX b)))) <| sg rfl rfl b rfl
    ·exact fun s x e f d u => hT rfl rfl rfl rfl (d 9 rfl) rfl fun b t => lt t rfl rfl (xm v_a0 ((f 0 rfl).trans ((K34 0 rfl).trans (K23 0 rfl)))) <| sg rfl rfl b rfl
    ·exact fun s x e f d u => hT rfl rfl rfl rfl (d 9 rfl) rfl fun b t => lt t rfl rfl (xm (.int .i64 x6_9) ((f 6 rfl).trans ((K34 6 rfl).trans h28))) <| sg rfl rfl b rfl
    ·exact fun s x e f d u => hT rfl rfl rfl rfl (d 9 rfl) rfl fun b t => q4 t rfl (ltb rfl) rfl Tryz.underlying35 Tryz.sizeOf58 ((d 10 rfl).1 (qQ (qC (qX (y9 b))) (ja b))) (Rd.ext f_a0 (((e5.t e24).t e36).t e)) ((d 11 rfl).1 (qQ (qC (qX (y9 b))) (ja b))) (vE b c39) <| fun p50 h51 => sg rfl rfl b ⟨_, rfl, h51⟩
    ·intro s x e f d u
     refine hT rfl rfl rfl rfl (d 9 rfl) rfl fun b t => ?_
     obtain ⟨p52, h53, h54⟩ := ((d 12 rfl).1 (qQ (qC (qX (y9 b))) (ja b)))
     exact lt t rfl rfl (qb Tryz.underlying58 rfl Tryz.sizeOf9 rfl h53) <| sg rfl rfl b ⟨_, rfl, h54⟩
    ·intro s x e f d u
     refine hT rfl rfl rfl rfl (d 9 rfl) rfl fun b t => ?_
     obtain ⟨p55, h56, h57⟩ := ((d 13 rfl).1 (qQ (qC (qX (y9 b))) (ja b)))
     exact lt t rfl rfl (vT Tryz.isAgg9 (j := 1) h57 h56 rfl) <| sg rfl rfl b rfl
    ·exact fun s x e f d u => hT rfl rfl rfl rfl (d 9 rfl) rfl fun b t => lt t rfl rfl (xm v_a1 ((f 1 rfl).trans ((K34 1 rfl).trans (K23 1 rfl)))) <| sg rfl rfl b rfl
    ·exact fun s x e f d u => hT rfl rfl rfl rfl (d 9 rfl) rfl fun b t => lt t rfl rfl (xm (.int .i64 x7_10) ((f 7 rfl).trans ((K34 7 rfl).trans h29))) <| sg rfl rfl b rfl
    ·exact fun s x e f d u => hT rfl rfl rfl rfl (d 9 rfl) rfl fun b t => q4 t rfl (ltb rfl) rfl Tryz.underlying35 Tryz.sizeOf58 ((d 15 rfl).1 (qQ (qC (qX (y9 b))) (ja b))) (Rd.ext f_a1 (((e5.t e24).t e36).t e)) ((d 16 rfl).1 (qQ (qC (qX (y9 b))) (ja b))) (vE b c42) <| fun p59 h60 => sg rfl rfl b ⟨_, rfl, h60⟩
    ·intro s x e f d u
     refine hT rfl rfl rfl rfl (d 9 rfl) rfl fun b t => ?_
     obtain ⟨p61, h62, h63⟩ := ((d 17 rfl).1 (qQ (qC (qX (y9 b))) (ja b)))
     exact lt t rfl rfl (qb Tryz.underlying58 rfl Tryz.sizeOf9 rfl h62) <| sg rfl rfl b ⟨_, rfl, h63⟩
    ·intro s x e f d u
     refine hT rfl rfl rfl rfl (d 9 rfl) rfl fun b t => ?_
     obtain ⟨p64, h65, h66⟩ := ((d 18 rfl).1 (qQ (qC (qX (y9 b))) (ja b)))
     exact lt t rfl rfl (vT Tryz.isAgg9 (j := 1) h66 h65 rfl) <| sg rfl rfl b rfl
    ·exact fun s x e f d u => hT rfl rfl rfl rfl (d 9 rfl) rfl fun b t => vy t rfl (ltb rfl) rfl Tryz.call205 (vK.calls (w := x) (a0 := (gt a0 x6_9).path) (a1 := (gt a1 x7_10).path) (od (vE b c45)) (od (vE b c46))) (vc ((d 14 rfl).1 (qQ (qC (qX (y9 b))) (ja b))) (vc ((d 19 rfl).1 (qQ (qC (qX (y9 b))) (ja b))) rfl)) <| fun w69 e70 => sgx rfl rfl b e70 rfl
    ·exact fun s x e f d u => gF rfl rfl rfl rfl (d 4 rfl) rfl fun b t => lt t rfl rfl (Qh ((d 9 rfl).1 (qC (qX b))) rfl fun h => ((d 20 rfl).1 (qQ (qC (qX b)) h))) <| sg rfl rfl b rfl
    ·exact fun s x e f d u => lp rfl (Vd (d 4 rfl) rfl fun h => ((d 21 rfl).1 (qC h))) <| se rfl rfl
    ·exact fun s x e f d u => lp rfl (qA (d 22 rfl)) <| se rfl rfl
    intro s71 w72 e73 hf74 ha75
    have K76 := Kp.ofD (kp := [(35, 59)]) rfl hf74
    have d77 : s71 35 = (.bool (qS.e2 a0 a1 x6_9 x7_10)) := ha75 23 rfl
    clear ha75 hf74
    refine qe ?_
    rcases qd H with ⟨q78, H⟩ | ⟨q78, H⟩
    ·refine qk (d77.trans (cb q78)) <| qj <| wr <| lp rfl (xm v_a1 ((K76 1 rfl).trans ((K34 1 rfl).trans (K23 1 rfl)))) <| lp rfl (xm v_a0 ((K76 0 rfl).trans ((K34 0 rfl).trans (K23 0 rfl)))) <| lp rfl (xm (.int .i64 x6_9) ((K76 6 rfl).trans ((K34 6 rfl).trans h28))) ?_
     obtain ⟨c79, H⟩ := qa H
     refine q4 (.plain rfl) rfl (ltb rfl) rfl Tryz.underlying35 Tryz.sizeOf58 rfl (Rd.ext f_a0 (((e5.t e24).t e36).t e73)) rfl c79 <| fun p80 h81 => lp rfl (qb Tryz.underlying58 rfl Tryz.sizeOf9 rfl rfl) <| lp rfl (vT Tryz.isAgg9 (j := 1) h81 rfl rfl) ?_
     obtain ⟨c82, H⟩ := qa H
     obtain ⟨c83, H⟩ := qa H
     refine lc rfl rfl Tryz.call123 (yI.calls (w := w72) (a0 := a1) (a1 := (gt a0 x6_9).path) (Rd.ext f_a1 (((e5.t e24).t e36).t e73)) (od c82) (od c83)) rfl <| fun w84 e85 => lp rfl (yM rfl) <| nx ?_
     rcases qd H with ⟨q86, H⟩ | ⟨q86, H⟩
     ·refine qk (cb q86) <| qG <| lp rfl (xm v8 ((K76 5 rfl).trans ((K34 5 rfl).trans h26))) <| lp rfl (xm v_a0 ((K76 0 rfl).trans ((K34 0 rfl).trans (K23 0 rfl)))) <| lp rfl (xm (.int .i64 x6_9) ((K76 6 rfl).trans ((K34 6 rfl).trans h28))) ?_
      obtain ⟨c87, H⟩ := qa H
      refine q4 (.plain rfl) rfl (ltb rfl) rfl Tryz.underlying35 Tryz.sizeOf58 rfl (Rd.ext f_a0 ((((e5.t e24).t e36).t e73).t e85)) rfl c87 <| fun p88 h89 => lp rfl (qW Tryz.isAgg58 Tryz.sizeOf58 rfl rfl h89) <| vO (.plain rfl) rfl (ltb rfl) rfl Tryz.underlying35 Tryz.sizeOf58 Tryz.zeroValue58 rfl rfl rfl (vs := [(.agg (qg (gt a0 x6_9)).toArray)]) rfl (qR rfl) <| fun b90 w91 z92 z93 e94 k95 => ?_
      obtain ⟨c96, H⟩ := qa H
      refine vW (enc := qg) (.plain rfl) rfl (ltb rfl) rfl El.t35 rfl rfl (Ow.ext h27 (((e36.t e73).t e85).t e94)) (Ow.rd (Ow.new (xs := [gt a0 x6_9]) (sz := 5) (enc := qg) (base := w84.heap.size) k95 (Nat.le_of_eq z92) rfl (fun _ _ => by rfl) (Nat.le_of_ble_eq_true rfl))) (Qo _) (od c96) (((((e24.t e36).t e73).t e85).t e94)).size <| fun v97 w98 o99 z100 g101 => lp rfl (xa v97 rfl) <| nx <| qG <| lp rfl (xm (.int .i64 x6_9) ((K76 6 rfl).trans ((K34 6 rfl).trans h28))) <| lp rfl (vi rfl rfl) <| lp rfl (xa (.int .i64 (IntKind.wrap .i64 (x6_9 + 1))) rfl) <| qJ <| vk <| vk <| qe ?_
      obtain rfl := si H
      exact ⟨_, Nat.lt_succ_self _, x5_7 ++ ([gt a0 x6_9] : List Rec), v97, IntKind.wrap .i64 (x6_9 + 1), x7_10, (ku3 (ku8 (ku8 (Kp.cut (Kp.cut (ku1 (ku4 K23 rfl) rfl) K34 rfl) K76 rfl) rfl) rfl) rfl), rfl, o99, rfl, ((K76 7 rfl).trans ((K34 7 rfl).trans h29)), (g101 _ ((((e24.t e36).t e73).t e85).t e94)), S31⟩
     ·refine qi (cb q86) <| qo <| qe <| qG <| lp rfl (xm (.int .i64 x6_9) ((K76 6 rfl).trans ((K34 6 rfl).trans h28))) <| lp rfl (vi rfl rfl) <| lp rfl (xa (.int .i64 (IntKind.wrap .i64 (x6_9 + 1))) rfl) <| qJ <| vk <| vk <| qe ?_
      obtain rfl := si H
      exact ⟨_, Nat.lt_succ_self _, x5_7, v8, IntKind.wrap .i64 (x6_9 + 1), x7_10, (ku3 (ku8 (Kp.cut (Kp.cut (ku1 (ku4 K23 rfl) rfl) K34 rfl) K76 rfl) rfl) rfl), ((K76 5 rfl).trans ((K34 5 rfl).trans h26)), (Ow.ext h27 ((e36.t e73).t e85)), rfl, ((K76 7 rfl).trans ((K34 7 rfl).trans h29)), (((e24.t e36).t e73).t e85), S31⟩
    ·refine qi (d77.trans (cb q78)) <| qj ?_
     obtain ⟨c102, H⟩ := qa H
     obtain ⟨c105, H⟩ := qa H
     obtain ⟨c108, H⟩ := qa H
     obtain ⟨c109, H⟩ := qa H
     refine Yp [LEq (.int .i64 x6_9), LEq v_a0, LEq (.int .i64 (a0.length : Int)), LEq (.bool (decide (x6_9 = (a0.length : Int)))), LEq (.bool (decide (x6_9 = (a0.length : Int)))), LIf (!(decide (x6_9 = (a0.length : Int)))) (LEq v_a1), LIf (!(decide (x6_9 = (a0.length : Int)))) (LEq (.int .i64 x7_10)), LIf (!(decide (x6_9 = (a0.length : Int)))) (yu (qg (gt a1 x7_10))), LIf (!(decide (x6_9 = (a0.length : Int)))) (LAt 1 (qg (gt a1 x7_10))), LIf (!(decide (x6_9 = (a0.length : Int)))) (LEq (S ((gt a1 x7_10).path))), LIf (!(decide (x6_9 = (a0.length : Int)))) (LEq v_a0), LIf (!(decide (x6_9 = (a0.length : Int)))) (LEq (.int .i64 x6_9)), LIf (!(decide (x6_9 = (a0.length : Int)))) (yu (qg (gt a0 x6_9))), LIf (!(decide (x6_9 = (a0.length : Int)))) (LAt 1 (qg (gt a0 x6_9))), LIf (!(decide (x6_9 = (a0.length : Int)))) (LEq (S ((gt a0 x6_9).path))), LIf (!(decide (x6_9 = (a0.length : Int)))) (LEq (.bool (vw (cut 47 ((gt a1 x7_10).path)) (cut 47 ((gt a0 x6_9).path))))), LEq (.bool ((decide (x6_9 = (a0.length : Int))) || (vw (cut 47 ((gt a1 x7_10).path)) (cut 47 ((gt a0 x6_9).path))))), LEq (.bool ((decide (x6_9 = (a0.length : Int))) || (vw (cut 47 ((gt a1 x7_10).path)) (cut 47 ((gt a0 x6_9).path)))))] (by kernel_rfl) (by kernel_rfl) ⟨qm, qm, qm, qm, qm, lm, lm, (LIf.mono yu.mono), (LIf.mono LAt.mono), lm, lm, lm, (LIf.mono yu.mono), (LIf.mono LAt.mono), lm, lm, qm, qm, trivial⟩ ⟨?_, ?_, ?_, ?_, ?_, ?_, ?_, ?_, ?_, ?_, ?_, ?_, ?_, ?_, ?_, ?_, ?_, ?_, trivial⟩ ?_
     ·exact fun s x e f d u => lp rfl (xm (.int .i64 x6_9) ((f 6 rfl).trans ((K76 6 rfl).trans ((K34 6 rfl).trans h28)))) <| se rfl rfl
     ·exact fun s x e f d u => lp rfl (xm v_a0 ((f 0 rfl).trans ((K76 0 rfl).trans ((K34 0 rfl).trans (K23 0 rfl))))) <| se rfl rfl
     ·exact fun s x e f d u => lp rfl (qO Tryz.underlying35 (d 1 rfl) (Rd.ext f_a0 ((((e5.t e24).t e36).t e73).t e))) <| se rfl rfl
     ·exact fun s x e f d u => lp rfl (yn (d 0 rfl) (d 2 rfl)) <| se rfl rfl
     ·exact fun s x e f d u => lp rfl (qf (d 3 rfl)) <| se rfl rfl
     ·exact fun s x e f d u => gF rfl rfl rfl rfl (d 4 rfl) rfl fun b t => lt t rfl rfl (xm v_a1 ((f 1 rfl).trans ((K76 1 rfl).trans ((K34 1 rfl).trans (K23 1 rfl))))) <| sg rfl rfl b rfl
     ·exact fun s x e f d u => gF rfl rfl rfl rfl (d 4 rfl) rfl fun b t => lt t rfl rfl (xm (.int .i64 x7_10) ((f 7 rfl).trans ((K76 7 rfl).trans ((K34 7 rfl).trans h29)))) <| sg rfl rfl b rfl
     ·exact fun s x e f d u => gF rfl rfl rfl rfl (d 4 rfl) rfl fun b t => q4 t rfl (ltb rfl) rfl Tryz.underlying35 Tryz.sizeOf58 ((d 5 rfl).1 (qC (qX b))) (Rd.ext f_a1 ((((e5.t e24).t e36).t e73).t e)) ((d 6 rfl).1 (qC (qX b))) (vE b c102) <| fun p113 h114 => sg rfl rfl b ⟨_, rfl, h114⟩
     ·intro s x e f d u
      refine gF rfl rfl rfl rfl (d 4 rfl) rfl fun b t => ?_
      obtain ⟨p115, h116, h117⟩ := ((d 7 rfl).1 (qC (qX b)))
      exact lt t rfl rfl (qb Tryz.underlying58 rfl Tryz.sizeOf9 rfl h116) <| sg rfl rfl b ⟨_, rfl, h117⟩
     ·intro s x e f d u
      refine gF rfl rfl rfl rfl (d 4 rfl) rfl fun b t => ?_
      obtain ⟨p118, h119, h120⟩ := ((d 8 rfl).1 (qC (qX b)))
      exact lt t rfl rfl (vT Tryz.isAgg9 (j := 1) h120 h119 rfl) <| sg rfl rfl b rfl
     ·exact fun s x e f d u => gF rfl rfl rfl rfl (d 4 rfl) rfl fun b t => lt t rfl rfl (xm v_a0 ((f 0 rfl).trans ((K76 0 rfl).trans ((K34 0 rfl).trans (K23 0 rfl))))) <| sg rfl rfl b rfl
     ·exact fun s x e f d u => gF rfl rfl rfl rfl (d 4 rfl) rfl fun b t => lt t rfl rfl (xm (.int .i64 x6_9) ((f 6 rfl).trans ((K76 6 rfl).trans ((K34 6 rfl).trans h28)))) <| sg rfl rfl b rfl
     ·exact fun s x e f d u => gF rfl rfl rfl rfl (d 4 rfl) rfl fun b t => q4 t rfl (ltb rfl) rfl Tryz.underlying35 Tryz.sizeOf58 ((d 10 rfl).1 (qC (qX b))) (Rd.ext f_a0 ((((e5.t e24).t e36).t e73).t e)) ((d 11 rfl).1 (qC (qX b))) (vE b c105) <| fun p122 h123 => sg rfl rfl b ⟨_, rfl, h123⟩
     ·intro s x e f d u
      refine gF rfl rfl rfl rfl (d 4 rfl) rfl fun b t => ?_
      obtain ⟨p124, h125, h126⟩ := ((d 12 rfl).1 (qC (qX b)))
      exact lt t rfl rfl (qb Tryz.underlying58 rfl Tryz.sizeOf9 rfl h125) <| sg rfl rfl b ⟨_, rfl, h126⟩
     ·intro s x e f d u
      refine gF rfl rfl rfl rfl (d 4 rfl) rfl fun b t => ?_
      obtain ⟨p127, h128, h129⟩ := ((d 13 rfl).1 (qC (qX b)))
      exact lt t rfl rfl (vT Tryz.isAgg9 (j := 1) h129 h128 rfl) <| sg rfl rfl b rfl
     ·exact fun s x e f d u => gF rfl rfl rfl rfl (d 4 rfl) rfl fun b t => vy t rfl (ltb rfl) rfl Tryz.call205 (vK.calls (w := x) (a0 := (gt a1 x7_10).path) (a1 := (gt a0 x6_9).path) (od (vE b c108)) (od (vE b c109))) (vc ((d 9 rfl).1 (qC (qX b))) (vc ((d 14 rfl).1 (qC (qX b))) rfl)) <| fun w132 e133 => sgx rfl rfl b e133 rfl
     ·exact fun s x e f d u => lp rfl (Vd (d 4 rfl) rfl fun h => ((d 15 rfl).1 (qC h))) <| se rfl rfl
     ·exact fun s x e f d u => lp rfl (qA (d 16 rfl)) <| se rfl rfl
     intro s134 w135 e136 hf137 ha138
     have K139 := Kp.ofD (kp := [(76, 94)]) rfl hf137
     have d140 : s134 76 = (.bool ((decide (x6_9 = (a0.length : Int))) || (vw (cut 47 ((gt a1 x7_10).path)) (cut 47 ((gt a0 x6_9).path))))) := ha138 17 rfl
     clear ha138 hf137
     refine qe ?_
     rcases qd H with ⟨q141, H⟩ | ⟨q141, H⟩
     ·refine qk (d140.trans (cb q141)) <| wr <| lp rfl (xm v8 ((K139 5 rfl).trans ((K76 5 rfl).trans ((K34 5 rfl).trans h26)))) <| lp rfl (xm v_a1 ((K139 1 rfl).trans ((K76 1 rfl).trans ((K34 1 rfl).trans (K23 1 rfl))))) <| lp rfl (xm (.int .i64 x7_10) ((K139 7 rfl).trans ((K76 7 rfl).trans ((K34 7 rfl).trans h29)))) ?_
      obtain ⟨c142, H⟩ := qa H
      refine q4 (.plain rfl) rfl (ltb rfl) rfl Tryz.underlying35 Tryz.sizeOf58 rfl (Rd.ext f_a1 ((((e5.t e24).t e36).t e73).t e136)) rfl c142 <| fun p143 h144 => lp rfl (qW Tryz.isAgg58 Tryz.sizeOf58 rfl rfl h144) <| vO (.plain rfl) rfl (ltb rfl) rfl Tryz.underlying35 Tryz.sizeOf58 Tryz.zeroValue58 rfl rfl rfl (vs := [(.agg (qg (gt a1 x7_10)).toArray)]) rfl (qR rfl) <| fun b145 w146 z147 z148 e149 k150 => ?_
      obtain ⟨c151, H⟩ := qa H
      refine vW (enc := qg) (.plain rfl) rfl (ltb rfl) rfl El.t35 rfl rfl (Ow.ext h27 (((e36.t e73).t e136).t e149)) (Ow.rd (Ow.new (xs := [gt a1 x7_10]) (sz := 5) (enc := qg) (base := w135.heap.size) k150 (Nat.le_of_eq z147) rfl (fun _ _ => by rfl) (Nat.le_of_ble_eq_true rfl))) (Qo _) (od c151) (((((e24.t e36).t e73).t e136).t e149)).size <| fun v152 w153 o154 z155 g156 => lp rfl (xa v152 rfl) <| nx <| qG <| lp rfl (xm (.int .i64 x7_10) ((K139 7 rfl).trans ((K76 7 rfl).trans ((K34 7 rfl).trans h29)))) <| lp rfl (vi rfl rfl) <| lp rfl (xa (.int .i64 (IntKind.wrap .i64 (x7_10 + 1))) rfl) <| qJ <| vk <| vk <| qe ?_
      obtain rfl := si H
      exact ⟨_, Nat.lt_succ_self _, x5_7 ++ ([gt a1 x7_10] : List Rec), v152, x6_9, IntKind.wrap .i64 (x7_10 + 1), (ku3 (ku8 (Kp.cut (Kp.cut (Kp.cut (ku1 (ku4 K23 rfl) rfl) K34 rfl) K76 rfl) K139 rfl) rfl) rfl), rfl, o154, ((K139 6 rfl).trans ((K76 6 rfl).trans ((K34 6 rfl).trans h28))), rfl, (g156 _ ((((e24.t e36).t e73).t e136).t e149)), S31⟩
     ·refine qi (d140.trans (cb q141)) <| qj ?_
      obtain ⟨c157, H⟩ := qa H
      obtain ⟨c160, H⟩ := qa H
      obtain ⟨c171, H⟩ := qa H
      refine Gy (B := w2.heap.size) [LEq v8, LEq v_a0, LEq (.int .i64 x6_9), Gc w135 (qg (gt a0 x6_9)), LEq (.agg (qg (gt a0 x6_9)).toArray), LEq v_a1, LEq (.int .i64 x7_10), Gc w135 (qg (gt a1 x7_10)), LEq (.agg (qg (gt a1 x7_10)).toArray), LEq (.agg (qg (jg (gt a0 x6_9) (gt a1 x7_10))).toArray), LRd 5 qg ([(jg (gt a0 x6_9) (gt a1 x7_10))] : List Rec), LOw 58 5 qg w2.heap.size (x5_7 ++ ([(jg (gt a0 x6_9) (gt a1 x7_10))] : List Rec)), LOw 58 5 qg w2.heap.size (x5_7 ++ ([(jg (gt a0 x6_9) (gt a1 x7_10))] : List Rec))] [⟨true, true, true, false, []⟩, ⟨true, true, true, false, []⟩, ⟨true, true, true, false, []⟩, ⟨true, true, true, false, [1, 2]⟩, ⟨true, true, true, false, [3]⟩, ⟨true, true, true, false, []⟩, ⟨true, true, true, false, []⟩, ⟨true, true, true, false, [5, 6]⟩, ⟨true, true, true, false, [7]⟩, ⟨true, true, true, false, [4, 8]⟩, ⟨true, false, true, false, [9]⟩, ⟨false, false, true, false, [0, 10]⟩, ⟨true, false, false, true, [11]⟩] [(11, 0, []), (11, 1, [9, 4, 3]), (11, 2, [9, 4, 3]), (11, 3, [9, 4]), (11, 4, [9]), (11, 5, [9, 8, 7]), (11, 6, [9, 8, 7]), (11, 7, [9, 8]), (11, 8, [9]), (11, 9, []), (11, 10, []), (12, 11, [])] (by kernel_rfl) (by kernel_rfl) (((e24.t e36).t e73).t e136).size ⟨⟨LEq.rig.mono, fun _ => LEq.rig⟩, ⟨LEq.rig.mono, fun _ => LEq.rig⟩, ⟨LEq.rig.mono, fun _ => LEq.rig⟩, ⟨Gc.rig.mono, fun _ => Gc.rig⟩, ⟨LEq.rig.mono, fun _ => LEq.rig⟩, ⟨LEq.rig.mono, fun _ => LEq.rig⟩, ⟨LEq.rig.mono, fun _ => LEq.rig⟩, ⟨Gc.rig.mono, fun _ => Gc.rig⟩, ⟨LEq.rig.mono, fun _ => LEq.rig⟩, ⟨LEq.rig.mono, fun _ => LEq.rig⟩, ⟨LRd.mono, noR⟩, ⟨LOw.mono, noR⟩, ⟨LOw.mono, noR⟩, trivial⟩ ⟨?_, ?_, ?_, ?_, ?_, ?_, ?_, ?_, ?_, ?_, ?_, ?_, ?_, trivial⟩ ?_
      ·intro s177 w178 hb179 hx180 hf181 hd182 hu183
       have e184 : Ext w135 w178 := hx180 rfl
       exact lp rfl (xm v8 ((hu183 12 rfl).trans ((K139 5 rfl).trans ((K76 5 rfl).trans ((K34 5 rfl).trans h26))))) <| qJ <| y7 rfl rfl rfl er rfl
      ·intro s185 w186 hb187 hx188 hf189 hd190 hu191
       have e192 : Ext w135 w186 := hx188 rfl
       exact lp rfl (xm v_a0 ((hf189 0 rfl).trans ((K139 0 rfl).trans ((K76 0 rfl).trans ((K34 0 rfl).trans (K23 0 rfl)))))) <| qJ <| y7 rfl rfl rfl er rfl
      ·intro s193 w194 hb195 hx196 hf197 hd198 hu199
       have e200 : Ext w135 w194 := hx196 rfl
       exact lp rfl (xm (.int .i64 x6_9) ((hf197 6 rfl).trans ((K139 6 rfl).trans ((K76 6 rfl).trans ((K34 6 rfl).trans h28))))) <| qJ <| y7 rfl rfl rfl er rfl
      ·intro s201 w202 hb203 hx204 hf205 hd206 hu207
       have e208 : Ext w135 w202 := hx204 rfl
       have d209 : s201 20 = v_a0 := (hd206 1 rfl)
       have d210 : s201 21 = (.int .i64 x6_9) := (hd206 2 rfl)
       have c211 := c157
       exact q4 (.plain rfl) rfl (ltb rfl) rfl Tryz.underlying35 Tryz.sizeOf58 d209 (Rd.ext f_a0 ((((e5.t e24).t e36).t e73).t e136)) d210 c211 <| fun p212 h213 => qJ <| y7 rfl rfl rfl er ⟨_, rfl, h213⟩
      ·intro s214 w215 hb216 hx217 hf218 hd219 hu220
       have e221 : Ext w135 w215 := hx217 rfl
       obtain ⟨p222, h223, h224⟩ := (hd219 3 rfl)
       exact lp rfl (qW Tryz.isAgg58 Tryz.sizeOf58 rfl h223 (At.ext h224 e221)) <| qJ <| y7 rfl rfl rfl er rfl
      ·intro s225 w226 hb227 hx228 hf229 hd230 hu231
       have e232 : Ext w135 w226 := hx228 rfl
       exact lp rfl (xm v_a1 ((hf229 1 rfl).trans ((K139 1 rfl).trans ((K76 1 rfl).trans ((K34 1 rfl).trans (K23 1 rfl)))))) <| qJ <| y7 rfl rfl rfl er rfl
      ·intro s233 w234 hb235 hx236 hf237 hd238 hu239
       have e240 : Ext w135 w234 := hx236 rfl
       exact lp rfl (xm (.int .i64 x7_10) ((hf237 7 rfl).trans ((K139 7 rfl).trans ((K76 7 rfl).trans ((K34 7 rfl).trans h29))))) <| qJ <| y7 rfl rfl rfl er rfl
      ·intro s241 w242 hb243 hx244 hf245 hd246 hu247
       have e248 : Ext w135 w242 := hx244 rfl
       have d249 : s241 24 = v_a1 := (hd246 5 rfl)
       have d250 : s241 25 = (.int .i64 x7_10) := (hd246 6 rfl)
       have c251 := c160
       exact q4 (.plain rfl) rfl (ltb rfl) rfl Tryz.underlying35 Tryz.sizeOf58 d249 (Rd.ext f_a1 ((((e5.t e24).t e36).t e73).t e136)) d250 c251 <| fun p252 h253 => qJ <| y7 rfl rfl rfl er ⟨_, rfl, h253⟩
      ·intro s254 w255 hb256 hx257 hf258 hd259 hu260
       have e261 : Ext w135 w255 := hx257 rfl
       obtain ⟨p262, h263, h264⟩ := (hd259 7 rfl)
       exact lp rfl (qW Tryz.isAgg58 Tryz.sizeOf58 rfl h263 (At.ext h264 e261)) <| qJ <| y7 rfl rfl rfl er rfl
      ·intro s265 w266 hb267 hx268 hf269 hd270 hu271
       have e272 : Ext w135 w266 := hx268 rfl
       have d273 : s265 23 = (.agg (qg (gt a0 x6_9)).toArray) := (hd270 4 rfl)
       have d274 : s265 27 = (.agg (qg (gt a1 x7_10)).toArray) := (hd270 8 rfl)
       exact lc rfl rfl Tryz.call206 (QJ.calls (w := w266) (a0 := gt a0 x6_9) (a1 := gt a1 x7_10)) (vc d273 (vc d274 rfl)) <| fun w275 e276 => qJ <| y7 rfl rfl rfl e276 rfl
      ·intro s277 w278 hb279 hx280 hf281 hd282 hu283
       have e284 : Ext w135 w278 := hx280 rfl
       have d285 : s277 28 = (.agg (qg (jg (gt a0 x6_9) (gt a1 x7_10))).toArray) := (hd282 9 rfl)
       exact vO (.plain rfl) rfl (ltb rfl) rfl Tryz.underlying35 Tryz.sizeOf58 Tryz.zeroValue58 rfl rfl rfl (vs := [(.agg (qg (jg (gt a0 x6_9) (gt a1 x7_10))).toArray)]) (vc d285 rfl) (qR rfl) <| fun b286 w287 z288 z289 e290 k291 => qJ <| y7 rfl rfl rfl e290 (Ow.rd (Ow.new (xs := [(jg (gt a0 x6_9) (gt a1 x7_10))]) (sz := 5) (enc := qg) (base := w278.heap.size) k291 (Nat.le_of_eq z288) rfl (fun _ _ => by rfl) (Nat.le_of_ble_eq_true rfl)))
      ·intro s292 w293 hb294 hx295 hf296 hd297 hu298
       have e299 : Ext w135 w293 := hx295 rfl
       have d300 : s292 19 = v8 := (hd297 0 rfl)
       have d301 : Rd 5 qg w293 (s292 29) ([(jg (gt a0 x6_9) (gt a1 x7_10))] : List Rec) := (hd297 10 rfl)
       have c302 := c171
       exact vW (enc := qg) (.plain rfl) rfl (ltb rfl) rfl El.t35 d300 rfl (Ow.ext h27 (((e36.t e73).t e136).t e299)) d301 (Qo _) (od c302) (((((e24.t e36).t e73).t e136).t e299)).size <| fun v303 w304 o305 z306 g307 => qJ <| XE rfl rfl rfl (g307 _ (Below.refl _ _)) o305
      ·intro s308 w309 hb310 hx311 hf312 hd313 hu314
       have e315 : Ext w2 w309 := Below.trans (((e24.t e36).t e73).t e136) hb310
       have d316 : Ow 58 5 qg w2.heap.size w309 (s308 30) (x5_7 ++ ([(jg (gt a0 x6_9) (gt a1 x7_10))] : List Rec)) := (hd313 11 rfl)
       exact lp rfl (xa (s308 30) rfl) <| qJ <| y7 rfl rfl rfl er d316
      intro s317 w318 hb319 hf321 ha322
      have K323 := Kp.ofD (kp := [(5, 6), (19, 31)]) rfl hf321
      have e320 : Ext w2 w318 := Below.trans (((e24.t e36).t e73).t e136) hb319
      have d324 : Ow 58 5 qg w2.heap.size w318 (s317 5) (x5_7 ++ ([(jg (gt a0 x6_9) (gt a1 x7_10))] : List Rec)) := ha322 12 rfl rfl
      clear ha322 hf321
      refine qe <| wr <| lp rfl (xm (.int .i64 x6_9) ((K323 6 rfl).trans ((K139 6 rfl).trans ((K76 6 rfl).trans ((K34 6 rfl).trans h28))))) <| lp rfl (vi rfl rfl) <| lp rfl (xa (.int .i64 (IntKind.wrap .i64 (x6_9 + 1))) rfl) <| nx <| qG <| lp rfl (xm (.int .i64 x7_10) ((K323 7 rfl).trans ((K139 7 rfl).trans ((K76 7 rfl).trans ((K34 7 rfl).trans h29))))) <| lp rfl (vi rfl rfl) <| lp rfl (xa (.int .i64 (IntKind.wrap .i64 (x7_10 + 1))) rfl) <| qJ <| vk <| vk <| qe ?_
      obtain rfl := si H
      exact ⟨_, Nat.lt_succ_self _, x5_7 ++ ([(jg (gt a0 x6_9) (gt a1 x7_10))] : List Rec), (s317 5), IntKind.wrap .i64 (x6_9 + 1), IntKind.wrap .i64 (x7_10 + 1), (ku2 (ku4 (Kp.cut (Kp.cut (Kp.cut (Kp.cut (ku1 (ku4 K23 rfl) rfl) K34 rfl) K76 rfl) K139 rfl) K323 rfl) rfl) rfl), rfl, d324, rfl, rfl, e320, S31⟩
   ·refine qi (h35.trans (cb q38)) <| vH <| qY <| qY <| yF <| qe ?_
    obtain rfl := si H
    obtain rfl := si S31
    exact ⟨x5_7, v8, (Kp.cut (ku1 (ku4 K23 rfl) rfl) K34 rfl), ((K34 5 rfl).trans h26), (Ow.ext h27 e36), (e24.t e36), rfl⟩
 ·rintro s17 w16 ⟨x5_14, v15, K18, h325, h326, e19, y327⟩
  rw [y327] at C13
  have H := C13
  replace H : _ = some _ := H
  refine qe <| wr <| lp rfl (qf h325) ?_
  obtain ⟨c328, H⟩ := qa H
  obtain ⟨c329, H⟩ := qa H
  refine vp (.plain rfl) rfl (ltb rfl) rfl Tryz.call124 (yh.calls (w := w16) (a0 := x5_14) (Ow.rd h326) (od c328) (od c329)) rfl <| fun v332 w330 e331 o333 => lp rfl (xa v332 rfl) <| nx <| qn <| qt ?_
  obtain rfl := si H
  exact Qi rfl ((e5.t e19).t e331) o333 ((e5.t e19)).size
theorem qS.calls {w : World} {a0 : List Rec} {a1 : List Rec} {v_a0 : Value} (f_a0 : Rd 5 qg w v_a0 a0) {v_a1 : Value} (f_a1 : Rd 5 qg w v_a1 a1) (h0 : a0.length ≤ 500000) (h1 : a1.length ≤ 500000) (h2 : jm a0 = true) (h3 : jm a1 = true) :
  Calls Tryz.prog 121 #[v_a0, v_a1] w (Rt (RO 58 5 qg w (ym a0 a1))) := by
 obtain ⟨k, h⟩ := qS.eq a0 a1 h0 h1 h2 h3
 exact qS.walk f_a0 f_a1 h
/-! spec.Squash -/
theorem j8.walk {w : World} {a0 : List Rec} {a1 : List Rec} {v_a0 : Value} (f_a0 : Rd 5 qg w v_a0 a0) {v_a1 : Value} (f_a1 : Rd 5 qg w v_a1 a1) {r : List Rec × Int} (H : j8.sh a0 a1 = some r) :
  Calls Tryz.prog 28 #[v_a0, v_a1] w (Rt (RT 58 5 qg w r.1 (.int .i64 r.2))) := by
 unfold j8.sh at H
 refine qh Tryz.func28 rfl (Nat.le_of_ble_eq_true rfl) Tryz.ntmps28 rfl ?_
 refine wr <| lp rfl (xa (.slice none 0 0) rfl) <| lp rfl (xa (.int .i64 0) rfl) <| nx <| qj <| wr <| lp rfl (xm v_a0 rfl) <| lp rfl (qO Tryz.underlying35 rfl f_a0) <| lp rfl (jJ rfl rfl) <| lp rfl (xm (.bool (decide (4096 < (a0.length : Int)))) rfl) <| jI 4 [(11, 15)] 14 (.bool ((decide (4096 < (a0.length : Int))) || (decide (4096 < (a1.length : Int))))) ?_ ?_
 ·rcases ql (decide (4096 < (a0.length : Int))) with b0_ | b0_
  ·exact ls rfl rfl rfl (cb b0_) rfl <| ls rfl rfl rfl (cb b0_) rfl <| ls rfl rfl rfl (cb b0_) rfl <| lp rfl (qu (b := true) (v := (.bool true)) (cb b0_) rfl) <| nx ⟨(ku4 kz rfl), (Jo b0_), er⟩
  ·exact lg rfl rfl rfl rfl (cb b0_) (xm v_a1 rfl) <| lg rfl rfl rfl rfl (cb b0_) (qO Tryz.underlying35 rfl f_a1) <| lg rfl rfl rfl rfl (cb b0_) (jJ rfl rfl) <| lp rfl (qu (b := false) (v := (.bool (decide (4096 < (a1.length : Int))))) (cb b0_) rfl) <| nx ⟨(ku4 kz rfl), (Jn b0_), er⟩
 intro s6 w2 K3 h4 e5
 refine nx ?_
 rcases qd H with ⟨q7, H⟩ | ⟨q7, H⟩
 ·refine qk (h4.trans (cb q7)) <| wr <| vO (.plain rfl) rfl (ltb rfl) rfl Tryz.underlying35 Tryz.sizeOf58 Tryz.zeroValue58 rfl rfl rfl (vs := []) rfl (qR rfl) <| fun b8 w9 z10 z11 e12 k13 => lp rfl (xa (.slice (some ⟨b8, 0, none⟩) 0 0) rfl) <| lp rfl (xa (.int .i64 2) rfl) <| nx <| qn <| qw <| qt ?_
  obtain rfl := si H
  exact QW rfl rfl (e5.t e12) (Ow.zero (base := w.heap.size)) (Nat.le_refl _)
 ·refine qi (h4.trans (cb q7)) <| qo <| qe <| qj <| wr <| lp rfl (xm v_a0 (K3 0 rfl)) ?_
  obtain ⟨c14, H⟩ := qa H
  obtain ⟨c15, H⟩ := qa H
  refine lc rfl rfl Tryz.call120 (jU.calls (w := w2) (a0 := a0) (Rd.ext f_a0 e5) (od c14) (od c15)) rfl <| fun w16 e17 => lp rfl (yM rfl) <| lp rfl (xm (.bool (!(decide ((qv a0).2 = 0)))) rfl) ?_
  obtain ⟨z19, x20, H⟩ := bind_some H
  refine yk 4 [(20, 24)] 23 (fun q => q = z19) ?_ ?_
  ·rcases qd x20 with ⟨b17_, H⟩ | ⟨b17_, H⟩
   ·refine ls rfl rfl rfl (cb b17_) rfl <| ls rfl rfl rfl (cb b17_) rfl <| ls rfl rfl rfl (cb b17_) rfl <| lp rfl (qu (b := true) (v := (.bool true)) (cb b17_) rfl) ?_
    obtain rfl := si H
    exact nx ⟨(ku4 kz rfl), ⟨_, rfl, rfl⟩, er⟩
   ·refine lg rfl rfl rfl rfl (cb b17_) (xm v_a1 (K3 1 rfl)) ?_
    obtain ⟨c19, H⟩ := qa H
    obtain ⟨c20, H⟩ := qa H
    refine vy (tg rfl rfl rfl (cb b17_)) rfl (ltb rfl) rfl Tryz.call120 (jU.calls (w := w16) (a0 := a1) (Rd.ext f_a1 (e5.t e17)) (od c19) (od c20)) rfl <| fun w21 e22 => lg rfl rfl rfl rfl (cb b17_) (yM rfl) <| lp rfl (qu (b := false) (v := (.bool (!(decide ((qv a1).2 = 0))))) (cb b17_) rfl) ?_
    obtain rfl := si H
    exact nx ⟨(ku4 kz rfl), ⟨_, rfl, rfl⟩, e22⟩
  intro s25 w21 z26 K22 hq h23 e24
  rw [hq] at h23; clear hq
  refine nx ?_
  rcases qd H with ⟨q27, H⟩ | ⟨q27, H⟩
  ·refine qk (h23.trans (cb q27)) <| wr <| vO (.plain rfl) rfl (ltb rfl) rfl Tryz.underlying35 Tryz.sizeOf58 Tryz.zeroValue58 rfl rfl rfl (vs := []) rfl (qR rfl) <| fun b28 w29 z30 z31 e32 k33 => lp rfl (xa (.slice (some ⟨b28, 0, none⟩) 0 0) rfl) <| lp rfl (xa (.int .i64 1) rfl) <| nx <| qn <| qw <| qt ?_
   obtain rfl := si H
   exact QW rfl rfl (((e5.t e17).t e24).t e32) (Ow.zero (base := w.heap.size)) (Nat.le_refl _)
  ·refine qi (h23.trans (cb q27)) <| qo <| qe <| wr <| lp rfl (xm v_a0 ((K22 0 rfl).trans (K3 0 rfl))) <| lp rfl (xm v_a1 ((K22 1 rfl).trans (K3 1 rfl))) ?_
   obtain ⟨c34, H⟩ := qa H
   obtain ⟨c35, H⟩ := qa H
   obtain ⟨c36, H⟩ := qa H
   obtain ⟨c37, H⟩ := qa H
   refine vp (.plain rfl) rfl (ltb rfl) rfl Tryz.call121 (qS.calls (w := w21) (a0 := a0) (a1 := a1) (Rd.ext f_a0 ((e5.t e17).t e24)) (Rd.ext f_a1 ((e5.t e17).t e24)) (od c34) (od c35) (od c36) (od c37)) rfl <| fun v40 w38 e39 o41 => lp rfl (xa v40 rfl) <| nx <| qj <| wr <| lp rfl (xm v40 rfl) <| lp rfl (qO Tryz.underlying35 rfl (Ow.rd o41)) <| lp rfl (jJ rfl rfl) <| nx ?_
   rcases qd H with ⟨q42, H⟩ | ⟨q42, H⟩
   ·refine qk (cb q42) <| wr <| vO (.plain rfl) rfl (ltb rfl) rfl Tryz.underlying35 Tryz.sizeOf58 Tryz.zeroValue58 rfl rfl rfl (vs := []) rfl (qR rfl) <| fun b43 w44 z45 z46 e47 k48 => lp rfl (xa (.slice (some ⟨b43, 0, none⟩) 0 0) rfl) <| lp rfl (xa (.int .i64 7) rfl) <| nx <| qn <| qw <| qt ?_
    obtain rfl := si H
    exact QW rfl rfl ((((e5.t e17).t e24).t e39).t e47) (Ow.zero (base := w.heap.size)) (Nat.le_refl _)
   ·refine qi (cb q42) <| qo <| qe <| wr <| lp rfl (xm v40 rfl) <| lp rfl (xa v40 rfl) <| lp rfl (xa (.int .i64 0) rfl) <| nx <| qn <| qt ?_
    obtain rfl := si H
    exact QW rfl rfl (((e5.t e17).t e24).t e39) o41 (((e5.t e17).t e24)).size
theorem j8.calls {w : World} {a0 : List Rec} {a1 : List Rec} {v_a0 : Value} (f_a0 : Rd 5 qg w v_a0 a0) {v_a1 : Value} (f_a1 : Rd 5 qg w v_a1 a1) (h0 : a0.length ≤ 1048576) (h1 : a1.length ≤ 1048576) (h2 : ∀ x ∈ a0, x.path.length ≤ 1048576) (h3 : ∀ x ∈ a1, x.path.length ≤ 1048576) :
  Calls Tryz.prog 28 #[v_a0, v_a1] w (Rt (RT 58 5 qg w ((qE a0 a1).1) (.int .i64 ((qE a0 a1).2)))) := j8.walk f_a0 f_a1 (j8.eq a0 a1 h0 h1 h2 h3)
/-! impl.squash -/
abbrev qP.e1 (a0 : List Rec) (a1 : List Rec) (x17_22 : Int) := (gt a1 (qD a1 (gt (vm ([a0, a1] : List (List Rec))) x17_22)))
theorem qP.walk {k : Nat} {w : World} {a0 : List Rec} {a1 : List Rec} (gv : GV 0 w) {v_a0 : Value} (f_a0 : Rd 5 qg w v_a0 a0) {v_a1 : Value} (f_a1 : Rd 5 qg w v_a1 a1) {r : List Rec} (H : qP.sh k a0 a1 = some r) :
  Calls Tryz.prog 119 #[v_a0, v_a1] w (Rt (RO 58 5 qg w r)) := by
 unfold qP.sh at H
 refine qh Tryz.func119 rfl (Nat.le_of_ble_eq_true rfl) Tryz.ntmps119 rfl ?_
 refine wr <| lp rfl (xa (.slice none 0 0) rfl) <| nx <| wr <| vO (.plain rfl) rfl (ltb rfl) rfl Tryz.underlying35 Tryz.sizeOf58 Tryz.zeroValue58 rfl rfl rfl (vs := []) rfl (qR rfl) <| fun b1 w2 z3 z4 e5 k6 => lp rfl (xa (.slice (some ⟨b1, 0, none⟩) 0 0) rfl) <| nx <| qj <| wr <| lp rfl (xm v_a0 rfl) <| lp rfl (xm v_a1 rfl) <| vO (.plain rfl) rfl (ltb rfl) rfl Tryz.underlying23 Tryz.sizeOf35 Tryz.zeroValue35 rfl rfl rfl (vs := [v_a0, v_a1]) rfl (by simp; exact ⟨(Rd.one (Rd.ext f_a0 e5)), (Rd.one (Rd.ext f_a1 e5))⟩) <| fun b7 w8 z9 z10 e11 k12 => ?_
 obtain ⟨c13, H⟩ := qa H
 obtain ⟨c14, H⟩ := qa H
 obtain ⟨c15, H⟩ := qa H
 refine vp (.plain rfl) rfl (ltb rfl) rfl Tryz.call134 (vA.calls (w := w8) (a0 := ([a0, a1] : List (List Rec))) (GV.ext gv (e5.t e11)) (Rd2.new (vs := [v_a0, v_a1]) k12 ⟨(Rd.ext f_a0 (e5.t e11)), (Rd.ext f_a1 (e5.t e11)), trivial⟩ (Nat.le_of_ble_eq_true rfl)) (od c13) (od c14) (od c15)) rfl <| fun v18 w16 e17 o19 => lp rfl (qO Tryz.underlying42 rfl (Ow.rd o19)) <| lp rfl (xm (.int .i64 0) rfl) <| nx ?_
 obtain ⟨z23, L24, C25⟩ := bind_some H
 clear H
 refine  vD (fun s0 sQ wQ => ∃ (x5_26 : List Rec) (v27 : Value), Kp [(5, 6), (7, 11), (17, 66)] s0 sQ ∧ sQ 5 = v27 ∧ Ow 58 5 qg w16.heap.size wQ v27 x5_26 ∧ Ext w16 wQ ∧ z23 = .inr x5_26) ?_ ?_
 ·refine qB <| vo (fun s0 kk sQ wQ => ∃ (x5_20 : List Rec) (v21 : Value) (x17_22 : Int), Kp [(5, 6), (7, 11), (17, 66)] s0 sQ ∧ sQ 5 = v21 ∧ Ow 58 5 qg w16.heap.size wQ v21 x5_20 ∧ sQ 17 = .int .i64 x17_22 ∧ Ext w16 wQ ∧ qp (qP.b1 a0 a1) kk (x5_20, x17_22) = some z23) k ⟨([] : List Rec), (.slice (some ⟨b1, 0, none⟩) 0 0), 0, kz, rfl, (Ow.zero), rfl, er, L24⟩ ?_
  rintro k32 s33 w34 ⟨x5_20, v21, x17_22, K35, h38, h39, h40, e36, L37⟩
  cases k32 with
  | zero => exact absurd L37 (by simp [qp])
  | succ k32 =>
   obtain ⟨t41, H, S42⟩ := qK L37
   clear L37
   unfold qP.b1 at H
   refine wr <| lp rfl (yl h40 (K35 16 rfl)) <| nx <| qj ?_
   rcases qd H with ⟨q43, H⟩ | ⟨q43, H⟩
   ·refine qk (cb q43) <| qo <| qe <| qj <| qB <| wr ?_
    obtain ⟨c44, H⟩ := qa H
    refine q4 (.plain rfl) rfl (ltb rfl) rfl Tryz.underlying42 Tryz.sizeOf9 (K35 15 rfl) (Ow.rd (Ow.ext o19 e36)) h40 c44 <| fun p45 h46 => lp rfl (yr Tryz.isAgg9 rfl h46 rfl) <| lp rfl (xa (S (gt (vm ([a0, a1] : List (List Rec))) x17_22)) rfl) <| nx <| wr <| lp rfl (xm v_a0 (K35 0 rfl)) <| lp rfl (xm (S (gt (vm ([a0, a1] : List (List Rec))) x17_22)) rfl) ?_
    obtain ⟨c47, H⟩ := qa H
    refine lc rfl rfl Tryz.call135 (QT.calls (w := w34) (a0 := a0) (a1 := gt (vm ([a0, a1] : List (List Rec))) x17_22) (Rd.ext f_a0 (((e5.t e11).t e17).t e36)) (od c47)) rfl <| fun w48 e49 => lp rfl (xm v_a1 (K35 1 rfl)) <| lp rfl (xm (S (gt (vm ([a0, a1] : List (List Rec))) x17_22)) rfl) ?_
    obtain ⟨c50, H⟩ := qa H
    refine lc rfl rfl Tryz.call135 (QT.calls (w := w48) (a0 := a1) (a1 := gt (vm ([a0, a1] : List (List Rec))) x17_22) (Rd.ext f_a1 ((((e5.t e11).t e17).t e36).t e49)) (od c50)) rfl <| fun w51 e52 => lp rfl (qA rfl) <| lp rfl (qA rfl) <| nx <| qB <| wr <| lp rfl (qf rfl) <| lp rfl (VQ rfl rfl) <| lp rfl (qA rfl) <| nx ?_
    rcases qd H with ⟨q53, H⟩ | ⟨q53, H⟩
    ·refine qk (cb q53) <| wr <| lp rfl (xm v_a1 (K35 1 rfl)) <| lp rfl (qf rfl) ?_
     obtain ⟨c54, H⟩ := qa H
     refine q4 (.plain rfl) rfl (ltb rfl) rfl Tryz.underlying35 Tryz.sizeOf58 rfl (Rd.ext f_a1 (((((e5.t e11).t e17).t e36).t e49).t e52)) rfl c54 <| fun p55 h56 => lp rfl (qW Tryz.isAgg58 Tryz.sizeOf58 rfl rfl h56) <| QA (.plain rfl) rfl (ltb rfl) rfl Tryz.zeroValue58 <| fun b57 w58 z59 z60 e61 k62 => ji (.plain rfl) rfl rfl Tryz.sizeOf58 rfl rfl rfl rfl rfl k62 <| fun w63 h64 k65 => nx <| qj <| wr <| lp rfl (qf rfl) <| lp rfl (VQ rfl rfl) <| lp rfl (qf rfl) <| jI 4 [(37, 41)] 40 (.bool ((decide (0 ≤ (qD a0 (gt (vm ([a0, a1] : List (List Rec))) x17_22)))) && (decide (((qP.e1 a0 a1 x17_22).kind) = 3)))) ?_ ?_
     ·rcases ql (decide (0 ≤ (qD a0 (gt (vm ([a0, a1] : List (List Rec))) x17_22)))) with b65_ | b65_
      ·exact lg rfl rfl rfl rfl (cb b65_) (qb Tryz.underlying58 rfl Tryz.sizeOf3 rfl rfl) <| lg rfl rfl rfl rfl (cb b65_) (qz Tryz.isAgg3 k65 rfl rfl) <| lg rfl rfl rfl rfl (cb b65_) (yn rfl rfl) <| lp rfl (qu (b := true) (v := (.bool (decide (((qP.e1 a0 a1 x17_22).kind) = 3)))) (cb b65_) rfl) <| nx ⟨(ku4 kz rfl), (VP b65_), er⟩
      ·exact ls rfl rfl rfl (cb b65_) rfl <| ls rfl rfl rfl (cb b65_) rfl <| ls rfl rfl rfl (cb b65_) rfl <| lp rfl (qu (b := false) (v := (.bool false)) (cb b65_) rfl) <| nx ⟨(ku4 kz rfl), (VS b65_), er⟩
     intro s71 w67 K68 h69 e70
     refine lp rfl (qf h69) ?_
     obtain ⟨z73, x74, H⟩ := bind_some H
     refine yk 6 [(42, 48)] 47 (fun q => q = z73) ?_ ?_
     ·rcases qd x74 with ⟨b71_, H⟩ | ⟨b71_, H⟩
      ·refine lg rfl rfl rfl rfl (cb b71_) (xm v_a0 ((K68 0 rfl).trans (K35 0 rfl))) <| lg rfl rfl rfl rfl (cb b71_) (qf (K68 8 rfl)) ?_
       obtain ⟨c73, H⟩ := qa H
       refine q4 (tg rfl rfl rfl (cb b71_)) rfl (ltb rfl) rfl Tryz.underlying35 Tryz.sizeOf58 rfl (Rd.ext f_a0 (((((((e5.t e11).t e17).t e36).t e49).t e52).t (Below.trans e61 (Wr.below h64 (Nat.le_of_eq z59)))).t e70)) rfl c73 <| fun p74 h75 => lg rfl rfl rfl rfl (cb b71_) (qW Tryz.isAgg58 Tryz.sizeOf58 rfl rfl h75) <| vy (tg rfl rfl rfl (cb b71_)) rfl (ltb rfl) rfl Tryz.call204 (Vf.calls (w := w67) (a0 := gt a0 (qD a0 (gt (vm ([a0, a1] : List (List Rec))) x17_22)))) rfl <| fun w76 e77 => lp rfl (qu (b := true) (v := (.bool (vz (gt a0 (qD a0 (gt (vm ([a0, a1] : List (List Rec))) x17_22)))))) (cb b71_) rfl) ?_
       obtain rfl := si H
       exact nx ⟨(ku2 (ku4 kz rfl) rfl), ⟨_, rfl, rfl⟩, e77⟩
      ·refine ls rfl rfl rfl (cb b71_) rfl <| ls rfl rfl rfl (cb b71_) rfl <| ls rfl rfl rfl (cb b71_) rfl <| ls rfl rfl rfl (cb b71_) rfl <| ls rfl rfl rfl (cb b71_) rfl <| lp rfl (qu (b := false) (v := (.bool false)) (cb b71_) rfl) ?_
       obtain rfl := si H
       exact nx ⟨(ku2 (ku4 kz rfl) rfl), ⟨_, rfl, rfl⟩, er⟩
     intro s79 w75 z80 K76 hq h77 e78
     rw [hq] at h77; clear hq
     refine nx ?_
     rcases qd H with ⟨q81, H⟩ | ⟨q81, H⟩
     ·refine qk (h77.trans (cb q81)) <| qG <| lp rfl (qb Tryz.underlying58 rfl Tryz.sizeOf4 rfl ((K76 10 rfl).trans (K68 10 rfl))) <| Vb (.plain rfl) rfl rfl Tryz.sizeOf4 rfl rfl rfl (Blk.ext k65 (e70.t e78)) (ltb rfl) <| fun w82 h83 k84 => nx <| qG <| lp rfl (xm v21 ((K76 5 rfl).trans ((K68 5 rfl).trans h38))) <| lp rfl (qW Tryz.isAgg58 Tryz.sizeOf58 rfl ((K76 10 rfl).trans (K68 10 rfl)) (Blk.at0 k84)) <| vO (.plain rfl) rfl (ltb rfl) rfl Tryz.underlying35 Tryz.sizeOf58 Tryz.zeroValue58 rfl rfl rfl (vs := [(.agg #[(.int .i64 ((qP.e1 a0 a1 x17_22).kind)), (S ((qP.e1 a0 a1 x17_22).path)), (S ((qP.e1 a0 a1 x17_22).body)), (.int .i64 ((qP.e1 a0 a1 x17_22).mode)), (.bool true)])]) rfl (qR rfl) <| fun b85 w86 z87 z88 e89 k90 => ?_
      obtain ⟨c91, H⟩ := qa H
      refine vW (enc := qg) (.plain rfl) rfl (ltb rfl) rfl El.t35 rfl rfl (Ow.ext h39 (((e49.t e52).t (Below.trans (Ext.trans (Ext.trans (Below.trans e61 (Wr.below h64 (Nat.le_of_eq z59))) e70) e78) (Wr.below h83 (Nat.le_of_eq z59)))).t e89)) (Ow.rd (Ow.new (xs := [(⟨(qP.e1 a0 a1 x17_22).kind, (qP.e1 a0 a1 x17_22).path, (qP.e1 a0 a1 x17_22).body, (qP.e1 a0 a1 x17_22).mode, true⟩ : Rec)]) (sz := 5) (enc := qg) (base := w82.heap.size) k90 (Nat.le_of_eq z87) rfl (fun _ _ => by rfl) (Nat.le_of_ble_eq_true rfl))) (Qo _) (od c91) (((((e36.t e49).t e52).t (Below.trans (Ext.trans (Ext.trans (Below.trans e61 (Wr.below h64 (Nat.le_of_eq z59))) e70) e78) (Wr.below h83 (Nat.le_of_eq z59)))).t e89)).size <| fun v92 w93 o94 z95 g96 => lp rfl (xa v92 rfl) <| qJ <| vk <| vk <| qe <| qG <| lp rfl (vi ((K76 17 rfl).trans ((K68 17 rfl).trans h40)) rfl) <| lp rfl (xm (.int .i64 (IntKind.wrap .i64 (x17_22 + 1))) rfl) <| nx ?_
      obtain rfl := si H
      exact ⟨_, Nat.lt_succ_self _, x5_20 ++ ([(⟨(qP.e1 a0 a1 x17_22).kind, (qP.e1 a0 a1 x17_22).path, (qP.e1 a0 a1 x17_22).body, (qP.e1 a0 a1 x17_22).mode, true⟩ : Rec)] : List Rec), v92, IntKind.wrap .i64 (x17_22 + 1), (ku8 (Kp.cut (ku1 (Kp.cut (ku3 (ku4 (ku8 (ku8 K35 rfl) rfl) rfl) rfl) K68 rfl) rfl) K76 rfl) rfl), rfl, o94, rfl, (g96 _ ((((e36.t e49).t e52).t (Below.trans (Ext.trans (Ext.trans (Below.trans e61 (Wr.below h64 (Nat.le_of_eq z59))) e70) e78) (Wr.below h83 (Nat.le_of_eq z59)))).t e89)), S42⟩
     ·refine qi (h77.trans (cb q81)) <| qo <| qe <| qG <| lp rfl (xm v21 ((K76 5 rfl).trans ((K68 5 rfl).trans h38))) <| lp rfl (qW Tryz.isAgg58 Tryz.sizeOf58 rfl ((K76 10 rfl).trans (K68 10 rfl)) (Blk.at0 (Blk.ext k65 (e70.t e78)))) <| vO (.plain rfl) rfl (ltb rfl) rfl Tryz.underlying35 Tryz.sizeOf58 Tryz.zeroValue58 rfl rfl rfl (vs := [(.agg #[(.int .i64 ((qP.e1 a0 a1 x17_22).kind)), (S ((qP.e1 a0 a1 x17_22).path)), (S ((qP.e1 a0 a1 x17_22).body)), (.int .i64 ((qP.e1 a0 a1 x17_22).mode)), (.bool ((qP.e1 a0 a1 x17_22).opq))])]) rfl (qR rfl) <| fun b97 w98 z99 z100 e101 k102 => ?_
      obtain ⟨c103, H⟩ := qa H
      refine vW (enc := qg) (.plain rfl) rfl (ltb rfl) rfl El.t35 rfl rfl (Ow.ext h39 (((((e49.t e52).t (Below.trans e61 (Wr.below h64 (Nat.le_of_eq z59)))).t e70).t e78).t e101)) (Ow.rd (Ow.new (xs := [(qP.e1 a0 a1 x17_22)]) (sz := 5) (enc := qg) (base := w75.heap.size) k102 (Nat.le_of_eq z99) rfl (fun _ _ => by rfl) (Nat.le_of_ble_eq_true rfl))) (Qo _) (od c103) (((((((e36.t e49).t e52).t (Below.trans e61 (Wr.below h64 (Nat.le_of_eq z59)))).t e70).t e78).t e101)).size <| fun v104 w105 o106 z107 g108 => lp rfl (xa v104 rfl) <| qJ <| vk <| vk <| qe <| qG <| lp rfl (vi ((K76 17 rfl).trans ((K68 17 rfl).trans h40)) rfl) <| lp rfl (xm (.int .i64 (IntKind.wrap .i64 (x17_22 + 1))) rfl) <| nx ?_
      obtain rfl := si H
      exact ⟨_, Nat.lt_succ_self _, x5_20 ++ ([(qP.e1 a0 a1 x17_22)] : List Rec), v104, IntKind.wrap .i64 (x17_22 + 1), (ku3 (ku4 (Kp.cut (ku1 (Kp.cut (ku3 (ku4 (ku8 (ku8 K35 rfl) rfl) rfl) rfl) K68 rfl) rfl) K76 rfl) rfl) rfl), rfl, o106, rfl, (g108 _ ((((((e36.t e49).t e52).t (Below.trans e61 (Wr.below h64 (Nat.le_of_eq z59)))).t e70).t e78).t e101)), S42⟩
    ·refine qi (cb q53) <| wr <| lp rfl (xm v_a1 (K35 1 rfl)) <| lp rfl (xm (S (gt (vm ([a0, a1] : List (List Rec))) x17_22)) rfl) ?_
     obtain ⟨c109, H⟩ := qa H
     obtain ⟨c110, H⟩ := qa H
     refine lc rfl rfl Tryz.call122 (Vr.calls (w := w51) (a0 := a1) (a1 := gt (vm ([a0, a1] : List (List Rec))) x17_22) (Rd.ext f_a1 (((((e5.t e11).t e17).t e36).t e49).t e52)) (od c109) (od c110)) rfl <| fun w111 e112 => lp rfl (yM rfl) <| lp rfl (qA rfl) <| nx ?_
     rcases qd H with ⟨q113, H⟩ | ⟨q113, H⟩
     ·refine qk (cb q113) <| qG <| lp rfl (qf h38) <| lp rfl (xm v_a0 (K35 0 rfl)) <| lp rfl (qf rfl) ?_
      obtain ⟨c114, H⟩ := qa H
      refine q4 (.plain rfl) rfl (ltb rfl) rfl Tryz.underlying35 Tryz.sizeOf58 rfl (Rd.ext f_a0 ((((((e5.t e11).t e17).t e36).t e49).t e52).t e112)) rfl c114 <| fun p115 h116 => lp rfl (qW Tryz.isAgg58 Tryz.sizeOf58 rfl rfl h116) <| vO (.plain rfl) rfl (ltb rfl) rfl Tryz.underlying35 Tryz.sizeOf58 Tryz.zeroValue58 rfl rfl rfl (vs := [(.agg (qg (gt a0 (qD a0 (gt (vm ([a0, a1] : List (List Rec))) x17_22)))).toArray)]) rfl (qR rfl) <| fun b117 w118 z119 z120 e121 k122 => ?_
      obtain ⟨c123, H⟩ := qa H
      refine vW (enc := qg) (.plain rfl) rfl (ltb rfl) rfl El.t35 rfl rfl (Ow.ext h39 (((e49.t e52).t e112).t e121)) (Ow.rd (Ow.new (xs := [gt a0 (qD a0 (gt (vm ([a0, a1] : List (List Rec))) x17_22))]) (sz := 5) (enc := qg) (base := w111.heap.size) k122 (Nat.le_of_eq z119) rfl (fun _ _ => by rfl) (Nat.le_of_ble_eq_true rfl))) (Qo _) (od c123) (((((e36.t e49).t e52).t e112).t e121)).size <| fun v124 w125 o126 z127 g128 => lp rfl (xa v124 rfl) <| qJ <| vk <| vk <| qe <| qG <| lp rfl (vi h40 rfl) <| lp rfl (xm (.int .i64 (IntKind.wrap .i64 (x17_22 + 1))) rfl) <| nx ?_
      obtain rfl := si H
      exact ⟨_, Nat.lt_succ_self _, x5_20 ++ ([gt a0 (qD a0 (gt (vm ([a0, a1] : List (List Rec))) x17_22))] : List Rec), v124, IntKind.wrap .i64 (x17_22 + 1), (ku2 (ku4 (ku8 (ku8 (ku8 K35 rfl) rfl) rfl) rfl) rfl), rfl, o126, rfl, (g128 _ ((((e36.t e49).t e52).t e112).t e121)), S42⟩
     ·refine qi (cb q113) <| qo <| vk <| vk <| qe <| qG <| lp rfl (vi h40 rfl) <| lp rfl (xm (.int .i64 (IntKind.wrap .i64 (x17_22 + 1))) rfl) <| nx ?_
      obtain rfl := si H
      exact ⟨_, Nat.lt_succ_self _, x5_20, v21, IntKind.wrap .i64 (x17_22 + 1), (ku2 (ku4 (ku8 (ku8 K35 rfl) rfl) rfl) rfl), h38, (Ow.ext h39 ((e49.t e52).t e112)), rfl, (((e36.t e49).t e52).t e112), S42⟩
   ·refine qi (cb q43) <| vH <| qY <| qY <| yF <| qe ?_
    obtain rfl := si H
    obtain rfl := si S42
    exact ⟨x5_20, v21, (ku1 K35 rfl), h38, h39, e36, rfl⟩
 ·rintro s29 w28 ⟨x5_26, v27, K30, h129, h130, e31, y131⟩
  rw [y131] at C25
  have H := C25
  replace H : _ = some _ := H
  refine qe <| wr <| lp rfl (qf h129) ?_
  obtain ⟨c132, H⟩ := qa H
  obtain ⟨c133, H⟩ := qa H
  refine vp (.plain rfl) rfl (ltb rfl) rfl Tryz.call132 (yc.calls (w := w28) (a0 := x5_26) (GV.ext gv (((e5.t e11).t e17).t e31)) (Ow.rd h130) (od c132) (od c133)) rfl <| fun v136 w134 e135 o137 => lp rfl (xa v136 rfl) <| nx <| qn <| qt ?_
  obtain rfl := si H
  exact Qi rfl ((((e5.t e11).t e17).t e31).t e135) o137 ((((e5.t e11).t e17).t e31)).size
theorem qP.calls {w : World} {a0 : List Rec} {a1 : List Rec} (gv : GV 0 w) {v_a0 : Value} (f_a0 : Rd 5 qg w v_a0 a0) {v_a1 : Value} (f_a1 : Rd 5 qg w v_a1 a1) (h0 : a0.length ≤ 500000) (h1 : a1.length ≤ 500000) (h2 : jm a0 = true) (h3 : jm a1 = true) :
  Calls Tryz.prog 119 #[v_a0, v_a1] w (Rt (RO 58 5 qg w (ym a0 a1))) := by
 obtain ⟨k, h⟩ := qP.eq a0 a1 h0 h1 h2 h3
 exact qP.walk gv f_a0 f_a1 h
/-! impl.fitting, by text -/
theorem impl_fitting.calls {w : World} {a : List Rec} {v : Value} (h : Rd 5 qg w v a) :
    Calls Tryz.prog 118 #[v] w (Rt (fun r w' => r = .tuple #[fitV v a, .int .i64 (GQ a)] ∧ Ext w w')) := by
  refine qh Tryz.func118 rfl (Nat.le_of_ble_eq_true rfl) Tryz.ntmps118 rfl ?_
  refine wr <| lp rfl (qA rfl) <| lp rfl (qA rfl) <| nx <| qj <| wr <| lp rfl (xm v rfl) <| lp rfl (qO Tryz.underlying35 rfl h) <|
    lp rfl (jJ rfl rfl) <| nx ?_
  by_cases hc : 16 < a.length
  · refine qk (cb (decide_eq_true (by omega))) <| wr <| lp rfl (qA rfl) <| lp rfl (qA rfl) <| nx <| qn <| qw <| qt ?_
    exact ⟨_, rfl, by simp only [fitV, GQ, hc, if_true]; rfl, Ext.refl _⟩
  · refine qi (cb (decide_eq_false (by omega))) <| qo <| qe <| wr <| lp rfl (xm v rfl) <| lp rfl (xa v rfl) <| lp rfl (qA rfl) <| nx <| qn <| qt ?_
    exact ⟨_, rfl, by simp only [fitV, GQ, hc, if_false]; rfl, Ext.refl _⟩

/-! impl.Squash -/
theorem jz.walk {w : World} {a0 : List Rec} {a1 : List Rec} (gv : GV 0 w) {v_a0 : Value} (f_a0 : Rd 5 qg w v_a0 a0) {v_a1 : Value} (f_a1 : Rd 5 qg w v_a1 a1) {r : List Rec × Int} (H : jz.sh a0 a1 = some r) :
  Calls Tryz.prog 27 #[v_a0, v_a1] w (Rt (RT 58 5 qg w r.1 (.int .i64 r.2))) := by
 unfold jz.sh at H
 refine qh Tryz.func27 rfl (Nat.le_of_ble_eq_true rfl) Tryz.ntmps27 rfl ?_
 refine wr <| lp rfl (xa (.slice none 0 0) rfl) <| lp rfl (xa (.int .i64 0) rfl) <| nx <| qj <| wr <| lp rfl (xm v_a0 rfl) <| lp rfl (xm v_a1 rfl) ?_
 obtain ⟨c1, H⟩ := qa H
 obtain ⟨c2, H⟩ := qa H
 obtain ⟨c3, H⟩ := qa H
 obtain ⟨c4, H⟩ := qa H
 refine lc rfl rfl Tryz.call117 (j7.calls (w := w) (a0 := a0) (a1 := a1) gv f_a0 f_a1 (od c1) (od c2) (od c3) (od c4)) rfl <| fun w5 e6 => lp rfl (xa (.int .i64 (pairCode a0 a1)) rfl) <| nx <| wr <| lp rfl (xm (.int .i64 (pairCode a0 a1)) rfl) <| lp rfl (j6 rfl rfl) <| nx ?_
 rcases qd H with ⟨q7, H⟩ | ⟨q7, H⟩
 ·refine qk (cb q7) <| wr <| lp rfl (xm (.int .i64 (pairCode a0 a1)) rfl) <| lp rfl (xa (.slice none 0 0) rfl) <| lp rfl (xa (.int .i64 (pairCode a0 a1)) rfl) <| nx <| qn <| qw <| qt ?_
  obtain rfl := si H
  exact QW rfl rfl e6 (Ow.zero (base := w.heap.size)) (Nat.le_refl _)
 ·refine qi (cb q7) <| qo <| qe <| wr <| lp rfl (xm v_a0 rfl) <| lp rfl (xm v_a1 rfl) ?_
  obtain ⟨c8, H⟩ := qa H
  obtain ⟨c9, H⟩ := qa H
  obtain ⟨c10, H⟩ := qa H
  obtain ⟨c11, H⟩ := qa H
  refine vp (.plain rfl) rfl (ltb rfl) rfl Tryz.call119 (qP.calls (w := w5) (a0 := a0) (a1 := a1) (GV.ext gv e6) (Rd.ext f_a0 e6) (Rd.ext f_a1 e6) (od c8) (od c9) (od c10) (od c11)) rfl <| fun v14 w12 e13 o15 => QX (.plain rfl) rfl (ltb rfl) rfl Tryz.call118 (impl_fitting.calls (w := w12) (Ow.rd o15)) rfl <| fun _ w16 hA9 => ?_
  obtain ⟨rfl, e17⟩ := hA9
  refine lp rfl (vq (v := (fitV v14 (ym a0 a1))) rfl rfl) <| lp rfl (vq (v := (.int .i64 (GQ (ym a0 a1)))) rfl rfl) <| lp rfl (xa (fitV v14 (ym a0 a1)) rfl) <| lp rfl (xa (.int .i64 (GQ (ym a0 a1))) rfl) <| nx <| qn <| qt ?_
  obtain rfl := si H
  exact QW rfl rfl ((e6.t e13).t e17) (Ow.fit (Ow.ext o15 e17)) (e6).size
theorem jz.calls {w : World} {a0 : List Rec} {a1 : List Rec} (gv : GV 0 w) {v_a0 : Value} (f_a0 : Rd 5 qg w v_a0 a0) {v_a1 : Value} (f_a1 : Rd 5 qg w v_a1 a1) (h0 : a0.length ≤ 1048576) (h1 : a1.length ≤ 1048576) (h2 : ∀ x ∈ a0, x.path.length ≤ 1048576) (h3 : ∀ x ∈ a1, x.path.length ≤ 1048576) :
  Calls Tryz.prog 27 #[v_a0, v_a1] w (Rt (RT 58 5 qg w ((qE a0 a1).1) (.int .i64 ((qE a0 a1).2)))) := jz.walk gv f_a0 f_a1 (jz.eq a0 a1 h0 h1 h2 h3)
/-! slices.BinarySearchFunc(()impl.Node,impl.Node,impl.Node) -/
theorem qT.walk {k : Nat} {w : World} {a0 : List Nd} {a1 : Nd} {a2 : Nd → Nd → Option Int} {v_a0 : Value} (f_a0 : Rd 4 qr w v_a0 a0) {v_a2 : Value} (f_a2 : ∀ (x0 : Nd) (x1 : Nd) (r : Int), a2 x0 x1 = some r → jq Tryz.prog w v_a2 [(.agg (qr x0).toArray), (.agg (qr x1).toArray)] (.int .i64 r)) (g_a2 : v_a2.cells = #[v_a2]) {r : Int × Bool} (H : qT.sh k a0 a1 a2 = some r) :
  Calls Tryz.prog 238 #[v_a0, .agg (qr a1).toArray, v_a2] w (Rt (RP w (.tuple #[.int .i64 r.1, .bool r.2]))) := by
 unfold qT.sh at H
 refine qh Tryz.func238 rfl (Nat.le_of_ble_eq_true rfl) Tryz.ntmps238 rfl ?_
 refine wr <| j0 (.plain rfl) rfl (ltb rfl) rfl rfl <| fun b1 w2 z3 z4 e5 k6 => lp rfl (xa (.int .i64 0) rfl) <| lp rfl (xa (.bool false) rfl) <| nx <| wr <| lp rfl (xm v_a0 rfl) <| lp rfl (qO Tryz.underlying29 rfl (Rd.ext f_a0 e5)) <| lp rfl (xa (.int .i64 (a0.length : Int)) rfl) <| nx <| wr <| lp rfl (xm (.int .i64 (a0.length : Int)) rfl) <| lp rfl (xa (.int .i64 0) rfl) <| lp rfl (xa (.int .i64 (a0.length : Int)) rfl) <| nx <| qj ?_
 obtain ⟨z9, L10, C11⟩ := bind_some H
 clear H
 refine  vD (fun s0 sQ wQ => ∃ (x9_12 : Int), Kp [(9, 12), (15, 35)] s0 sQ ∧ sQ 9 = .int .i64 x9_12 ∧ Ext w2 wQ ∧ z9 = .inr x9_12) ?_ ?_
 ·refine qB <| vo (fun s0 kk sQ wQ => ∃ (x9_7 : Int) (x10_8 : Int), Kp [(9, 12), (15, 35)] s0 sQ ∧ sQ 9 = .int .i64 x9_7 ∧ sQ 10 = .int .i64 x10_8 ∧ Ext w2 wQ ∧ qp (qT.b1 a0 a1 a2) kk (x9_7, x10_8) = some z9) k ⟨0, (a0.length : Int), kz, rfl, rfl, er, L10⟩ ?_
  rintro k17 s18 w19 ⟨x9_7, x10_8, K20, h23, h24, e21, L22⟩
  cases k17 with
  | zero => exact absurd L22 (by simp [qp])
  | succ k17 =>
   obtain ⟨t25, H, S26⟩ := qK L22
   clear L22
   unfold qT.b1 at H
   refine qj <| wr <| lp rfl (qf h23) <| lp rfl (qf h24) <| lp rfl (yl rfl rfl) <| nx ?_
   rcases qd H with ⟨q27, H⟩ | ⟨q27, H⟩
   ·refine qk (cb q27) <| qo <| qe <| qB <| wr <| lp rfl (qf h23) <| lp rfl (qf h24) <| lp rfl (vi rfl rfl) <| lp rfl (Vz Tryz.underlying3 Tryz.underlying214 rfl) <| lp rfl (X_shr (n := 1) rfl rfl rfl) <| lp rfl (Vz Tryz.underlying214 Tryz.underlying3 rfl) <| lp rfl (qA rfl) <| nx <| qj ?_
    obtain ⟨c28, H⟩ := qa H
    obtain ⟨z31, x32, H⟩ := bind_some H
    refine Yp [LEq v_a2, LEq v_a0, LEq (.int .i64 (IntKind.wrap .i64 ((IntKind.wrap .u64 (IntKind.wrap .i64 (x9_7 + x10_8))).fdiv (2 ^ 1)))), yu (qr (gt a0 (IntKind.wrap .i64 ((IntKind.wrap .u64 (IntKind.wrap .i64 (x9_7 + x10_8))).fdiv (2 ^ 1))))), LEq (.agg (qr (gt a0 (IntKind.wrap .i64 ((IntKind.wrap .u64 (IntKind.wrap .i64 (x9_7 + x10_8))).fdiv (2 ^ 1))))).toArray), LEq (.agg #[(.int .i64 a1.kind), (S a1.path), (S a1.body), (.int .i64 a1.mode)]), LEq (.int .i64 z31), LEq (.bool (decide (z31 < 0)))] (by kernel_rfl) (by kernel_rfl) ⟨qm, qm, qm, yu.mono, qm, qm, qm, qm, trivial⟩ ⟨?_, ?_, ?_, ?_, ?_, ?_, ?_, ?_, trivial⟩ ?_
    ·exact fun s x e f d u => lp rfl (xm v_a2 ((f 2 rfl).trans (K20 2 rfl))) <| se rfl rfl
    ·exact fun s x e f d u => lp rfl (xm v_a0 ((f 0 rfl).trans (K20 0 rfl))) <| se rfl rfl
    ·exact fun s x e f d u => lp rfl (qf (f 11 rfl)) <| se rfl rfl
    ·exact fun s x e f d u => q4 (.plain rfl) rfl (ltb rfl) rfl Tryz.underlying29 Tryz.sizeOf60 (d 1 rfl) (Rd.ext f_a0 ((e5.t e21).t e)) (d 2 rfl) c28 <| fun p36 h37 => se rfl ⟨_, rfl, h37⟩
    ·intro s x e f d u
     obtain ⟨p38, h39, h40⟩ := (d 3 rfl)
     exact lp rfl (qW Tryz.isAgg60 Tryz.sizeOf60 rfl h39 h40) <| se rfl rfl
    ·exact fun s x e f d u => lp rfl (qW Tryz.isAgg60 Tryz.sizeOf60 rfl ((f 4 rfl).trans (K20 4 rfl)) (Blk.at0 (Blk.ext k6 (e21.t e)))) <| se rfl rfl
    ·exact fun s x e f d u => Yb (.plain rfl) rfl (ltb rfl) rfl (d 0 rfl) (jq.ext (f_a2 _ _ _ x32) ((e5.t e21).t e)) (vc (d 4 rfl) (vc (d 5 rfl) rfl)) <| fun w43 e44 => sx rfl e44 rfl
    ·exact fun s x e f d u => lp rfl (yl (d 6 rfl) rfl) <| se rfl rfl
    intro s45 w46 e47 hf48 ha49
    have K50 := Kp.ofD (kp := [(24, 32)]) rfl hf48
    have d51 : s45 31 = (.bool (decide (z31 < 0))) := ha49 7 rfl
    clear ha49 hf48
    refine qe ?_
    rcases qd H with ⟨q52, H⟩ | ⟨q52, H⟩
    ·refine qk (d51.trans (cb q52)) <| qG <| lp rfl (qf (K50 11 rfl)) <| lp rfl (vi rfl rfl) <| lp rfl (qA rfl) <| qJ <| vk <| qe ?_
     obtain rfl := si H
     exact ⟨_, Nat.lt_succ_self _, IntKind.wrap .i64 ((IntKind.wrap .i64 ((IntKind.wrap .u64 (IntKind.wrap .i64 (x9_7 + x10_8))).fdiv (2 ^ 1))) + 1), x10_8, (ku3 (Kp.cut (ku2 (ku8 K20 rfl) rfl) K50 rfl) rfl), rfl, ((K50 10 rfl).trans h24), (e21.t e47), S26⟩
    ·refine qi (d51.trans (cb q52)) <| qG <| lp rfl (qf (K50 11 rfl)) <| lp rfl (qA rfl) <| qJ <| vk <| qe ?_
     obtain rfl := si H
     exact ⟨_, Nat.lt_succ_self _, x9_7, IntKind.wrap .i64 ((IntKind.wrap .u64 (IntKind.wrap .i64 (x9_7 + x10_8))).fdiv (2 ^ 1)), (ku2 (Kp.cut (ku2 (ku8 K20 rfl) rfl) K50 rfl) rfl), ((K50 9 rfl).trans h23), rfl, (e21.t e47), S26⟩
   ·refine qi (cb q27) <| vH <| qY <| qY <| yF <| qe ?_
    obtain rfl := si H
    obtain rfl := si S26
    exact ⟨x9_7, (ku3 K20 rfl), h23, e21, rfl⟩
 ·rintro s14 w13 ⟨x9_12, K15, h53, e16, y54⟩
  rw [y54] at C11
  have H := C11
  replace H : _ = some _ := H
  refine qe <| qj ?_
  obtain ⟨c55, H⟩ := qa H
  obtain ⟨z58, x59, H⟩ := bind_some H
  refine Yp [LEq (.int .i64 x9_12), LEq (.int .i64 x9_12), LEq (.int .i64 (a0.length : Int)), LEq (.bool (decide (x9_12 < (a0.length : Int)))), LEq (.bool (decide (x9_12 < (a0.length : Int)))), LIf (decide (x9_12 < (a0.length : Int))) (LEq v_a2), LIf (decide (x9_12 < (a0.length : Int))) (LEq v_a0), LIf (decide (x9_12 < (a0.length : Int))) (LEq (.int .i64 x9_12)), LIf (decide (x9_12 < (a0.length : Int))) (yu (qr (gt a0 x9_12))), LIf (decide (x9_12 < (a0.length : Int))) (LEq (.agg (qr (gt a0 x9_12)).toArray)), LIf (decide (x9_12 < (a0.length : Int))) (LEq (.agg #[(.int .i64 a1.kind), (S a1.path), (S a1.body), (.int .i64 a1.mode)])), LIf (decide (x9_12 < (a0.length : Int))) (LEq (.int .i64 z58)), LIf (decide (x9_12 < (a0.length : Int))) (LEq (.bool (decide (z58 = 0)))), LEq (.bool ((decide (x9_12 < (a0.length : Int))) && (decide (z58 = 0)))), LEq (.int .i64 x9_12), LEq (.bool ((decide (x9_12 < (a0.length : Int))) && (decide (z58 = 0))))] (by kernel_rfl) (by kernel_rfl) ⟨qm, qm, qm, qm, qm, lm, lm, lm, (LIf.mono yu.mono), lm, lm, lm, lm, qm, qm, qm, trivial⟩ ⟨?_, ?_, ?_, ?_, ?_, ?_, ?_, ?_, ?_, ?_, ?_, ?_, ?_, ?_, ?_, ?_, trivial⟩ ?_
  ·exact fun s x e f d u => lp rfl (xm (.int .i64 x9_12) ((f 9 rfl).trans h53)) <| se rfl rfl
  ·exact fun s x e f d u => lp rfl (xm (.int .i64 x9_12) ((f 9 rfl).trans h53)) <| se rfl rfl
  ·exact fun s x e f d u => lp rfl (xm (.int .i64 (a0.length : Int)) ((f 8 rfl).trans (K15 8 rfl))) <| se rfl rfl
  ·exact fun s x e f d u => lp rfl (yl (d 1 rfl) (d 2 rfl)) <| se rfl rfl
  ·exact fun s x e f d u => lp rfl (qf (d 3 rfl)) <| se rfl rfl
  ·exact fun s x e f d u => gT rfl rfl rfl rfl (d 4 rfl) rfl fun b t => lt t rfl rfl (xm v_a2 ((f 2 rfl).trans (K15 2 rfl))) <| sg rfl rfl b rfl
  ·exact fun s x e f d u => gT rfl rfl rfl rfl (d 4 rfl) rfl fun b t => lt t rfl rfl (xm v_a0 ((f 0 rfl).trans (K15 0 rfl))) <| sg rfl rfl b rfl
  ·exact fun s x e f d u => gT rfl rfl rfl rfl (d 4 rfl) rfl fun b t => lt t rfl rfl (xm (.int .i64 x9_12) ((f 9 rfl).trans h53)) <| sg rfl rfl b rfl
  ·exact fun s x e f d u => gT rfl rfl rfl rfl (d 4 rfl) rfl fun b t => q4 t rfl (ltb rfl) rfl Tryz.underlying29 Tryz.sizeOf60 ((d 6 rfl).1 b) (Rd.ext f_a0 ((e5.t e16).t e)) ((d 7 rfl).1 b) (vE b c55) <| fun p63 h64 => sg rfl rfl b ⟨_, rfl, h64⟩
  ·intro s x e f d u
   refine gT rfl rfl rfl rfl (d 4 rfl) rfl fun b t => ?_
   obtain ⟨p65, h66, h67⟩ := ((d 8 rfl).1 b)
   exact lt t rfl rfl (qW Tryz.isAgg60 Tryz.sizeOf60 rfl h66 h67) <| sg rfl rfl b rfl
  ·exact fun s x e f d u => gT rfl rfl rfl rfl (d 4 rfl) rfl fun b t => lt t rfl rfl (qW Tryz.isAgg60 Tryz.sizeOf60 rfl ((f 4 rfl).trans (K15 4 rfl)) (Blk.at0 (Blk.ext k6 (e16.t e)))) <| sg rfl rfl b rfl
  ·exact fun s x e f d u => gT rfl rfl rfl rfl (d 4 rfl) rfl fun b t => Yb t rfl (ltb rfl) rfl ((d 5 rfl).1 b) (jq.ext (f_a2 _ _ _ x59) ((e5.t e16).t e)) (vc ((d 9 rfl).1 b) (vc ((d 10 rfl).1 b) rfl)) <| fun w70 e71 => sgx rfl rfl b e71 rfl
  ·exact fun s x e f d u => gT rfl rfl rfl rfl (d 4 rfl) rfl fun b t => lt t rfl rfl (yn ((d 11 rfl).1 b) rfl) <| sg rfl rfl b rfl
  ·exact fun s x e f d u => lp rfl (Qh (d 4 rfl) rfl fun h => ((d 12 rfl).1 h)) <| se rfl rfl
  ·exact fun s x e f d u => lp rfl (qA (d 0 rfl)) <| se rfl rfl
  ·exact fun s x e f d u => lp rfl (qA (d 13 rfl)) <| se rfl rfl
  intro s72 w73 e74 hf75 ha76
  have K77 := Kp.ofD (kp := [(6, 8), (35, 49)]) rfl hf75
  have d78 : s72 6 = (.int .i64 x9_12) := ha76 14 rfl
  have d79 : s72 7 = (.bool ((decide (x9_12 < (a0.length : Int))) && (decide (z58 = 0)))) := ha76 15 rfl
  clear ha76 hf75
  refine qe <| qn <| qt ?_
  obtain rfl := si H
  exact Xh d78 d79 ((e5.t e16).t e74)
theorem qT.calls {w : World} {a0 : List Nd} {a1 : Nd} {a2 : Nd → Nd → Option Int} {r : Int × Bool} {v_a0 : Value} (f_a0 : Rd 4 qr w v_a0 a0) {v_a2 : Value} (f_a2 : ∀ (x0 : Nd) (x1 : Nd) (r : Int), a2 x0 x1 = some r → jq Tryz.prog w v_a2 [(.agg (qr x0).toArray), (.agg (qr x1).toArray)] (.int .i64 r)) (g_a2 : v_a2.cells = #[v_a2]) (H : (qT.sh 64 a0 a1 a2) = some r) :
  Calls Tryz.prog 238 #[v_a0, .agg (qr a1).toArray, v_a2] w (Rt (RP w (.tuple #[.int .i64 r.1, .bool r.2]))) := by
 obtain ⟨k, h⟩ := qT.eq a0 a1 a2 H
 exact qT.walk f_a0 f_a2 g_a2 h
/-! impl.place$1 -/
theorem QK.calls {w : World} {a0 : Nd} {a1 : Nd} (gv : GV 0 w) (h0 : a0.path.length ≤ 1048576) (h1 : a1.path.length ≤ 1048576) :
  Calls Tryz.prog 239 #[.agg (qr a0).toArray, .agg (qr a1).toArray] w (Rt (RP w (.int .i64 (cmpL (cut 47 a0.path) (cut 47 a1.path))))) := by
 have H := QK.eq a0 a1 h0 h1
 generalize (cmpL (cut 47 a0.path) (cut 47 a1.path)) = r at H ⊢
 unfold QK.sh at H
 refine qh Tryz.func239 rfl (Nat.le_of_ble_eq_true rfl) Tryz.ntmps239 rfl ?_
 refine wr <| j0 (.plain rfl) rfl (ltb rfl) rfl rfl <| fun b1 w2 z3 z4 e5 k6 => j0 (.plain rfl) rfl (ltb rfl) rfl rfl <| fun b7 w8 z9 z10 e11 k12 => lp rfl (xa (.int .i64 0) rfl) <| nx <| wr <| lp rfl (qb Tryz.underlying60 rfl Tryz.sizeOf9 rfl rfl) <| lp rfl (qz Tryz.isAgg9 (Blk.ext k6 e11) rfl rfl) <| lp rfl (qb Tryz.underlying60 rfl Tryz.sizeOf9 rfl rfl) <| lp rfl (qz Tryz.isAgg9 k12 rfl rfl) ?_
 obtain ⟨c13, H⟩ := qa H
 obtain ⟨c14, H⟩ := qa H
 refine lc rfl rfl Tryz.call181 (impl_compare.calls (w := w8) (a0 := a0.path) (a1 := a1.path) (GV.ext gv (e5.t e11)) (od c13) (od c14)) rfl <| fun w15 e16 => lp rfl (xa (.int .i64 (cmpL (cut 47 a0.path) (cut 47 a1.path))) rfl) <| nx <| qn <| qt ?_
 obtain rfl := si H
 exact vh rfl ((e5.t e11).t e16)
/-! slices.Insert(()impl.Node,impl.Node), by text -/
theorem Xz.calls {w : World} {B : Nat} {v : Value} {xs : List Nd} {x : Nd} {i b9 : Nat} (hO : Ow 60 4 qr B w v xs) (hi : i ≤ xs.length) (hB : B ≤ w.heap.size) (k9 : Blk w b9 (qr x).toArray 60) (hne : (∃ A, v = .slice A 0 0) ∨ ∀ g, v.ownBlock = some g → b9 ≠ g) (hn : xs.length ≤ 1048576) :
    Calls Tryz.prog 240 #[v, .int .i64 i, .slice (some ⟨b9, 0, none⟩) 1 1] w (Rt (fun r w' => (∀ W, Below B W w → Below B W w') ∧ Ow 60 4 qr B w' r (YX xs i x))) := by
  obtain ⟨A0, c0, hv0⟩ := hO.rd.shape
  have hcap : xs.length ≤ c0 := by obtain ⟨A', c', hv', ⟨hn', _⟩, _⟩ := hO.rd; rw [hv0] at hv'; injection hv' with _ _ e9; omega
  have hxl : (qr x).length = 4 := rfl
  have hR1 : Rd 4 qr w (.slice (some ⟨b9, 0, none⟩) 1 1) [x] := (Ow.new (xs := [x]) (sz := 4) (enc := qr) (base := 0) k9 (Nat.zero_le _) (by simp) (fun _ _ => rfl) (Nat.le_of_ble_eq_true rfl)).rd
  refine qh Tryz.func240 rfl (Nat.le_of_ble_eq_true rfl) Tryz.ntmps240 rfl ?_
  refine wr <| lp rfl (qA rfl) <| nx <| wr <| lp rfl (xm v rfl) <| lp rfl (qf (v := .int .i64 (i : Int)) rfl) <|
    lp rfl (Yt (A := A0) (n := xs.length) (c := c0) (l := (i : Int)) (h := (xs.length : Int)) Tryz.underlying29 Tryz.sizeOf60 hv0 ⟨_, rfl⟩ rfl (by omega) (by omega) (by omega)) <| nx <|
    wr <| lp rfl (qf (v := .slice (some ⟨b9, 0, none⟩) 1 1) rfl) <| lp rfl (X_len Tryz.underlying29 rfl) <| lp rfl (qA rfl) <| nx <|
    qj <| wr <| lp rfl (qf (v := .int .i64 ((1 : Nat) : Int)) rfl) <| lp rfl (yn rfl rfl) <| nx <| qi (cb (decide_eq_false (by decide))) <| qo <| qe <|
    wr <| lp rfl (xm v rfl) <| lp rfl (X_len (A := A0) (n := xs.length) (c := c0) Tryz.underlying29 hv0) <| lp rfl (qA rfl) <| nx <|
    qj <| wr <| lp rfl (qf (v := .int .i64 (i : Int)) rfl) <| lp rfl (qf (v := .int .i64 (xs.length : Int)) rfl) <| lp rfl (yn rfl rfl) <| nx ?_
  by_cases hie : i = xs.length
  · refine qk (cb (decide_eq_true (by omega))) <| wr <| lp rfl (xm v rfl) <| lp rfl (qf (v := .slice (some ⟨b9, 0, none⟩) 1 1) rfl) <|
      vW (enc := qr) (.plain rfl) rfl (ltb rfl) rfl El.t29 rfl rfl hO hR1 (QV _) (by simp; omega) hB <| fun v1 w1 o1 z1 g1 => lp rfl (xa v1 rfl) <| nx <| qn <| qw <| qt ?_
    refine ⟨_, rfl, g1, ?_⟩
    have : YX xs i x = xs ++ [x] := by simp [YX, hie]
    rw [this]; exact o1
  obtain ⟨g, cap, cur, hv, hBg, hh, hnc, hcm, hsz, htk⟩ := hO.row (by omega)
  have hcc : A0 = some ⟨g, 0, none⟩ ∧ c0 = cap := by rw [hv] at hv0; injection hv0 with e1 _ e3; exact ⟨e1.symm, e3.symm⟩
  obtain ⟨rfl, rfl⟩ := hcc
  have hlen := hO.2.1
  have hT : ((xs.take i).flatMap qr).length = i * 4 := by rw [jX qr 4 _ (fun y hy => hlen y (List.mem_of_mem_take hy))]; simp; omega
  have hDl : ((xs.drop i).flatMap qr).length = (xs.length - i) * 4 := by rw [jX qr 4 _ (fun y hy => hlen y (List.mem_of_mem_drop hy))]; simp
  have hcur : cur.toList = (xs.take i).flatMap qr ++ (xs.drop i).flatMap qr ++ cur.toList.drop (xs.length * 4) := by
    rw [← List.flatMap_append, List.take_append_drop, ← htk, List.take_append_drop]
  have hcl : cur.toList.length = c0 * 4 := by simpa using hsz
  have hone1 : ∀ c ∈ qr x, c.oneCell' = true := fun c hc => QV [x] x (by simp) c hc
  have honeD : ∀ c ∈ (xs.drop i).flatMap qr, c.oneCell' = true := fun c hc => by
    obtain ⟨y, hy, hc⟩ := List.mem_flatMap.1 hc
    exact QV _ y hy c hc
  have hil : (YX xs i x).length = xs.length + 1 := insAt_len xs i x hi
  have hlen2 : ∀ y ∈ YX xs i x, (qr y).length = 4 := fun y _ => rfl
  have hsrcX : ∀ {W : World}, Blk W b9 (qr x).toArray 60 → ∀ j u, (qr x)[j]? = some u → W.cell? ((⟨b9, 0, none⟩ : Addr).add j) = some u := fun {W} k j u hj => by
    rw [QP, Nat.zero_add, k.cell]; simpa using hj
  have hgetD : ∀ j u, ((xs.drop i).flatMap qr)[j]? = some u → cur.toList[i * 4 + j]? = some u := fun j u hj => by
    have hj' : j < ((xs.drop i).flatMap qr).length := (List.getElem?_eq_some_iff.1 hj).1
    rw [hcur, List.append_assoc, List.getElem?_append_right (by omega), hT, Nat.add_sub_cancel_left, List.getElem?_append_left hj', hj]
  have hsrcD : ∀ {W : World}, Blk W g cur 60 → ∀ j u, ((xs.drop i).flatMap qr)[j]? = some u → W.cell? ((⟨g, 0 + i * 4, none⟩ : Addr).add j) = some u := fun {W} k j u hj => by
    rw [QP, k.cell, Nat.zero_add]
    have := hgetD j u hj
    simpa using this
  have hw : IntKind.wrap .i64 ((xs.length : Int) + ((1 : Nat) : Int)) = ((xs.length + 1 : Nat) : Int) := by rw [Int.natCast_add]; exact Go.UL.wrap_small (by omega) (by omega)
  have hwi : IntKind.wrap .i64 ((i : Int) + ((1 : Nat) : Int)) = ((i + 1 : Nat) : Int) := by rw [Int.natCast_add]; exact Go.UL.wrap_small (by omega) (by omega)
  have hgw : g < w.heap.size := (Array.getElem?_eq_some_iff.1 hh).1
  refine qi (cb (decide_eq_false (by omega))) <| qo <| qe <| qj <| wr <| lp rfl (qf (v := .int .i64 (xs.length : Int)) rfl) <| lp rfl (qf (v := .int .i64 ((1 : Nat) : Int)) rfl) <|
    lp rfl (Ex.cast (vi rfl rfl) (congrArg (Value.int .i64) hw)) <| lp rfl (xm v rfl) <| lp rfl (X_cap Tryz.underlying29 hv) <| lp rfl (jJ rfl rfl) <| nx ?_
  by_cases hroom : c0 < xs.length + 1
  · -- no room: a new block
    obtain ⟨k, hk⟩ : ∃ k, i + k = xs.length + 1 := ⟨xs.length + 1 - i, by omega⟩
    have hw2 : IntKind.wrap .i64 (((xs.length + 1 : Nat) : Int) - (i : Int)) = (k : Int) := by rw [Go.UL.wrap_small (by omega) (by omega)]; omega
    have hc0 : c0 = xs.length := by omega
    refine qk (cb (decide_eq_true (by omega))) <| wr <| lp rfl (xm v rfl) <| lp rfl (qf (v := .int .i64 (i : Int)) rfl) <|
      lp rfl (Ex.cast (v' := .slice (some ⟨g, 0, none⟩) i c0) (VJ (l := 0) (h := i) Tryz.underlying29 Tryz.sizeOf60 hv rfl ⟨_, rfl⟩ (.inr rfl) (Nat.zero_le _) (by omega)) (by simp)) <|
      lp rfl (qf (v := .int .i64 (xs.length : Int)) rfl) <| lp rfl (qf (v := .int .i64 ((1 : Nat) : Int)) rfl) <| lp rfl (Ex.cast (vi rfl rfl) (congrArg (Value.int .i64) hw)) <| lp rfl (qf (v := .int .i64 (i : Int)) rfl) <|
      lp rfl (Ex.cast (VA rfl rfl) (congrArg (Value.int .i64) hw2)) <|
      L_appendZ (olds := (xs.take i).flatMap qr) (.plain rfl) rfl (ltb rfl) rfl El.t29 Tryz.underlying3 rfl rfl (run_firstCells_some w.drew 4 i ⟨g, 0, none⟩ i c0 _ hT (fun j u hj => ?_)) hT (by omega) (by omega) (by omega) <| fun b w1 C zs hb e1 hC1 hC2 hCl k1 => lp rfl (qA rfl) <| nx ?_
    · have hj' : j < ((xs.take i).flatMap qr).length := (List.getElem?_eq_some_iff.1 hj).1
      have kd : Blk w.drew g cur 60 := Blk.ext hh (Ext.drew w)
      rw [QP, kd.cell, Nat.zero_add]
      have : cur.toList[j]? = some u := by rw [hcur, List.append_assoc, List.getElem?_append_left hj', hj]
      simpa using this
    have hBb : B ≤ b := by omega
    have hgb : g ≠ b := by omega
    have hzl : zs.length = C * 4 - i * 4 := by simp only [List.length_append, hT] at hCl; omega
    have hCs : (xs.length + 1) * 4 ≤ C * 4 := Nat.mul_le_mul_right _ (by omega)
    have hmin1 : Nat.min 1 (i + k - i) = 1 := Nat.min_eq_left (by omega)
    refine wr <| lp rfl (qf (v := .slice (some ⟨b, 0, none⟩) (i + k) C) rfl) <| lp rfl (qf (v := .int .i64 (i : Int)) rfl) <|
      lp rfl (VJ (l := i) (h := i + k) Tryz.underlying29 Tryz.sizeOf60 rfl ⟨_, rfl⟩ rfl (.inl (by omega)) (by omega) hC1) <| lp rfl (qf (v := .slice (some ⟨b9, 0, none⟩) 1 1) rfl) <|
      Xx (cs := qr x) (.plain rfl) rfl (ltb rfl) rfl Tryz.underlying29 Tryz.sizeOf60 k1 rfl rfl (by rw [hmin1]; rfl) (hsrcX (k9.ext e1)) (by simp only [List.size_toArray, hCl, hxl]; omega) hone1 <| fun w2 hw2' k2 => nx ?_
    have e2 : Ext w w2 := Ext.wr e1 hw2' (Nat.le_of_eq hb) (Nat.le_refl _)
    have hh2 : Blk w2 g cur 60 := Blk.ext hh e2
    have hlr : ((List.take (0 + i * 4) ((List.flatMap qr (List.take i xs)) ++ zs)) ++ qr x ++ List.drop (0 + i * 4 + (qr x).length) ((List.flatMap qr (List.take i xs)) ++ zs)).length = C * 4 := by
      simp only [List.length_append, List.length_take, List.length_drop, hT, hxl, hzl]; omega
    have hmin2 : Nat.min (xs.length - i) (i + k - (i + 1)) = xs.length - i := Nat.min_eq_left (by omega)
    refine qj <| Gy (B := B) [LEq (.slice (some ⟨b, 0, none⟩) (i + k) C), LEq (.int .i64 (i : Int)), LEq (.int .i64 ((1 : Nat) : Int)), LEq (.int .i64 ((i + 1 : Nat) : Int)), LEq (.slice (some ⟨b, 0 + (i + 1) * 4, none⟩) (i + k - (i + 1)) (C - (i + 1))), LEq v, LEq (.int .i64 (i : Int)), LEq (.slice (some ⟨g, 0 + i * 4, none⟩) (xs.length - i) (c0 - i)),
        fun _ W => ∃ row, Blk W b row 60 ∧ row.toList = (xs.take i).flatMap qr ++ (qr x ++ (xs.drop i).flatMap qr) ++ zs.drop (4 + ((xs.drop i).flatMap qr).length)]
      [⟨true, true, true, false, []⟩, ⟨true, true, true, false, []⟩, ⟨true, true, true, false, []⟩, ⟨true, true, true, false, [1, 2]⟩, ⟨true, true, true, false, [0, 3]⟩, ⟨true, true, true, false, []⟩, ⟨true, true, true, false, []⟩, ⟨true, true, true, false, [5, 6]⟩, ⟨false, false, true, true, [4, 7]⟩]
      [(8, 0, [4]), (8, 1, [4, 3]), (8, 2, [4, 3]), (8, 3, [4]), (8, 4, []), (8, 5, [7]), (8, 6, [7]), (8, 7, [])] (by kernel_rfl) (by kernel_rfl) (Nat.le_trans hB e2.size)
      ⟨⟨LEq.rig.mono, fun _ => LEq.rig⟩, ⟨LEq.rig.mono, fun _ => LEq.rig⟩, ⟨LEq.rig.mono, fun _ => LEq.rig⟩, ⟨LEq.rig.mono, fun _ => LEq.rig⟩, ⟨LEq.rig.mono, fun _ => LEq.rig⟩, ⟨LEq.rig.mono, fun _ => LEq.rig⟩, ⟨LEq.rig.mono, fun _ => LEq.rig⟩, ⟨LEq.rig.mono, fun _ => LEq.rig⟩, ⟨fun _ _ _ k9 ⟨row, h1, h2⟩ => ⟨row, h1.ext k9, h2⟩, noR⟩, trivial⟩
      ⟨?_, ?_, ?_, ?_, ?_, ?_, ?_, ?_, ?_, trivial⟩ ?_
    · intro s9 w9 hb9 hx9 hf9 hd9 hu9
      exact lp rfl (qf (hf9 9 rfl)) <| qJ <| y7 rfl rfl rfl er rfl
    · intro s9 w9 hb9 hx9 hf9 hd9 hu9
      exact lp rfl (qf (hf9 1 rfl)) <| qJ <| y7 rfl rfl rfl er rfl
    · intro s9 w9 hb9 hx9 hf9 hd9 hu9
      exact lp rfl (qf (hf9 7 rfl)) <| qJ <| y7 rfl rfl rfl er rfl
    · intro s9 w9 hb9 hx9 hf9 hd9 hu9
      exact lp rfl (Ex.cast (vi (hd9 1 rfl) (hd9 2 rfl)) (congrArg (Value.int .i64) hwi)) <| qJ <| y7 rfl rfl rfl er rfl
    · intro s9 w9 hb9 hx9 hf9 hd9 hu9
      exact lp rfl (VJ (l := i + 1) (h := i + k) Tryz.underlying29 Tryz.sizeOf60 (hd9 0 rfl) ⟨_, hd9 3 rfl⟩ rfl (.inl (by omega)) (by omega) hC1) <| qJ <| y7 rfl rfl rfl er rfl
    · intro s9 w9 hb9 hx9 hf9 hd9 hu9
      exact lp rfl (qf (hf9 0 rfl)) <| qJ <| y7 rfl rfl rfl er rfl
    · intro s9 w9 hb9 hx9 hf9 hd9 hu9
      exact lp rfl (qf (hf9 1 rfl)) <| qJ <| y7 rfl rfl rfl er rfl
    · intro s9 w9 hb9 hx9 hf9 hd9 hu9
      exact lp rfl (VJ (l := i) (h := xs.length) Tryz.underlying29 Tryz.sizeOf60 ((hd9 5 rfl).trans hv) ⟨_, hd9 6 rfl⟩ rfl (.inl (by omega)) hi (by omega)) <| qJ <| y7 rfl rfl rfl er rfl
    · intro s9 w9 hb9 hx9 hf9 hd9 hu9
      have e9 : Ext w2 w9 := hx9 rfl
      refine Xx (cs := (xs.drop i).flatMap qr) (.plain rfl) rfl (ltb rfl) rfl Tryz.underlying29 Tryz.sizeOf60 (k2.ext e9) (hd9 4 rfl) (hd9 7 rfl) (by rw [hmin2, hDl]) (hsrcD (hh2.ext e9)) (by simp only [List.size_toArray, hlr, hDl]; omega) honeD <| fun w3 hw3 k3 => qJ <| XE rfl rfl rfl (hw3.below hBb) ⟨_, k3, ?_⟩
      have hz : 4 ≤ zs.length := by omega
      have := ins_grow (T := (xs.take i).flatMap qr) (X := qr x) (D := (xs.drop i).flatMap qr) (Z := zs) hT hxl hz
      simp only [Nat.zero_add] at this ⊢
      rw [show (i + 1) * 4 = i * 4 + 4 by omega]
      exact this
    · intro s3 w3 hb3 hf3 ha3
      obtain ⟨row, k3, hrow⟩ := ha3 8 rfl rfl
      refine qe <| wr <| lp rfl (qf (v := .slice (some ⟨b, 0, none⟩) (i + k) C) (hf3 9 rfl)) <| lp rfl (qA rfl) <| nx <| qn <| qw <| qt ?_
      refine ⟨_, rfl, fun W hW => ?_, ?_⟩
      · exact Below.trans (Below.trans (Below.trans hW (e1.mono hB)) (hw2'.below hBb)) hb3
      · have hrl : row.toList.length = C * 4 := by
          rw [hrow]; simp only [List.length_append, List.length_drop, hT, hxl, hDl, hzl]; omega
        have := Ow.of_row (C := C) (ys := YX xs i x) (R := zs.drop (4 + ((xs.drop i).flatMap qr).length)) (row := row.toList) hBb (by simpa using k3) (by rw [ins_flat]; exact hrow) hlen2 (by omega) hC2 hrl
        rw [hil, ← hk] at this
        exact this
  · -- room: in place
    have hw3 : IntKind.wrap .i64 ((xs.length : Int) + ((1 : Nat) : Int)) = ((xs.length + 1 : Nat) : Int) := hw
    have hne9 : b9 ≠ g := by
      rcases hne with ⟨A, hA⟩ | hne
      · rw [hv] at hA; injection hA with _ hl0 _; omega
      · exact hne g (by rw [hv]; rfl)
    refine qi (cb (decide_eq_false (by omega))) <| qo <| qe <| wr <| lp rfl (xm v rfl) <| lp rfl (qf (v := .int .i64 (xs.length : Int)) rfl) <| lp rfl (qf (v := .int .i64 ((1 : Nat) : Int)) rfl) <|
      lp rfl (Ex.cast (vi rfl rfl) (congrArg (Value.int .i64) hw)) <| lp rfl (Ex.cast (v' := .slice (some ⟨g, 0, none⟩) (xs.length + 1) c0) (VJ (l := 0) (h := xs.length + 1) Tryz.underlying29 Tryz.sizeOf60 hv rfl ⟨_, rfl⟩ (.inr rfl) (Nat.zero_le _) (by omega)) (by simp)) <|
      lp rfl (qA rfl) <| nx <| qj <| wr <| lp rfl (qf (v := .slice (some ⟨b9, 0, none⟩) 1 1) rfl) <| lp rfl (qf (v := .slice (some ⟨g, 0, none⟩) (xs.length + 1) c0) rfl) <| lp rfl (qf (v := .int .i64 (i : Int)) rfl) <|
      lp rfl (qf (v := .int .i64 ((1 : Nat) : Int)) rfl) <| lp rfl (Ex.cast (vi rfl rfl) (congrArg (Value.int .i64) hwi)) <|
      lp rfl (VJ (l := i + 1) (h := xs.length + 1) Tryz.underlying29 Tryz.sizeOf60 rfl ⟨_, rfl⟩ rfl (.inl (by omega)) (by omega) (by omega)) <|
      lp rfl (X_ext (vs := #[.slice (some ⟨b9, 0, none⟩) 1 1, .slice (some ⟨g, 0 + (i + 1) * 4, none⟩) (xs.length + 1 - (i + 1)) (c0 - (i + 1))]) rfl (v := .bool false) ?_) <|
      lp rfl (yM rfl) <| nx <| qk rfl ?_
    · rw [run_callFunc_extern Tryz.func273 (by kernel_rfl) (by kernel_rfl) (by kernel_rfl) (e := Extern.SlicesOverlaps.overlaps #[29, 29] #[4]) (by kernel_rfl),
        Lib.run_overlaps_apart w 29 4 60 Tryz.underlying29 4 Tryz.sizeOf60 ⟨b9, 0, none⟩ ⟨g, 0 + (i + 1) * 4, none⟩ 1 1 _ _ hne9 60 60 _ _ k9.shape (Blk.shape (cs := cur) hh) (by omega) k9.frozen k9.frozen]
      rfl
    have hmin2 : Nat.min (xs.length + 1 - i) (xs.length + 1 - (i + 1)) = xs.length - i := (Nat.min_eq_right (by omega)).trans (by omega)
    have hcs : (xs.length + 1) * 4 ≤ c0 * 4 := Nat.mul_le_mul_right _ (by omega)
    refine qj <| Gy (B := B) [LEq (.slice (some ⟨g, 0, none⟩) (xs.length + 1) c0), LEq (.int .i64 (i : Int)), LEq (.int .i64 ((1 : Nat) : Int)), LEq (.int .i64 ((i + 1 : Nat) : Int)), LEq (.slice (some ⟨g, 0 + (i + 1) * 4, none⟩) (xs.length + 1 - (i + 1)) (c0 - (i + 1))), LEq (.slice (some ⟨g, 0, none⟩) (xs.length + 1) c0), LEq (.int .i64 (i : Int)), LEq (.slice (some ⟨g, 0 + i * 4, none⟩) (xs.length + 1 - i) (c0 - i)),
        fun _ W => Blk W g (List.take (0 + (i + 1) * 4) cur.toList ++ (xs.drop i).flatMap qr ++ List.drop (0 + (i + 1) * 4 + ((xs.drop i).flatMap qr).length) cur.toList).toArray 60 ∧ Blk W b9 (qr x).toArray 60]
      [⟨true, true, true, false, []⟩, ⟨true, true, true, false, []⟩, ⟨true, true, true, false, []⟩, ⟨true, true, true, false, [1, 2]⟩, ⟨true, true, true, false, [0, 3]⟩, ⟨true, true, true, false, []⟩, ⟨true, true, true, false, []⟩, ⟨true, true, true, false, [5, 6]⟩, ⟨false, false, true, true, [4, 7]⟩]
      [(8, 0, [4]), (8, 1, [4, 3]), (8, 2, [4, 3]), (8, 3, [4]), (8, 4, []), (8, 5, [7]), (8, 6, [7]), (8, 7, [])] (by kernel_rfl) (by kernel_rfl) hB
      ⟨⟨LEq.rig.mono, fun _ => LEq.rig⟩, ⟨LEq.rig.mono, fun _ => LEq.rig⟩, ⟨LEq.rig.mono, fun _ => LEq.rig⟩, ⟨LEq.rig.mono, fun _ => LEq.rig⟩, ⟨LEq.rig.mono, fun _ => LEq.rig⟩, ⟨LEq.rig.mono, fun _ => LEq.rig⟩, ⟨LEq.rig.mono, fun _ => LEq.rig⟩, ⟨LEq.rig.mono, fun _ => LEq.rig⟩, ⟨fun _ _ _ k9 ⟨h1, h2⟩ => ⟨h1.ext k9, h2.ext k9⟩, noR⟩, trivial⟩
      ⟨?_, ?_, ?_, ?_, ?_, ?_, ?_, ?_, ?_, trivial⟩ ?_
    · intro s9 w9 hb9 hx9 hf9 hd9 hu9
      exact lp rfl (qf (hf9 0 rfl)) <| qJ <| y7 rfl rfl rfl er rfl
    · intro s9 w9 hb9 hx9 hf9 hd9 hu9
      exact lp rfl (qf (hf9 1 rfl)) <| qJ <| y7 rfl rfl rfl er rfl
    · intro s9 w9 hb9 hx9 hf9 hd9 hu9
      exact lp rfl (qf (hf9 7 rfl)) <| qJ <| y7 rfl rfl rfl er rfl
    · intro s9 w9 hb9 hx9 hf9 hd9 hu9
      exact lp rfl (Ex.cast (vi (hd9 1 rfl) (hd9 2 rfl)) (congrArg (Value.int .i64) hwi)) <| qJ <| y7 rfl rfl rfl er rfl
    · intro s9 w9 hb9 hx9 hf9 hd9 hu9
      exact lp rfl (VJ (l := i + 1) (h := xs.length + 1) Tryz.underlying29 Tryz.sizeOf60 (hd9 0 rfl) ⟨_, hd9 3 rfl⟩ rfl (.inl (by omega)) (by omega) (by omega)) <| qJ <| y7 rfl rfl rfl er rfl
    · intro s9 w9 hb9 hx9 hf9 hd9 hu9
      exact lp rfl (qf (hf9 0 rfl)) <| qJ <| y7 rfl rfl rfl er rfl
    · intro s9 w9 hb9 hx9 hf9 hd9 hu9
      exact lp rfl (qf (hf9 1 rfl)) <| qJ <| y7 rfl rfl rfl er rfl
    · intro s9 w9 hb9 hx9 hf9 hd9 hu9
      exact lp rfl (VJ (l := i) (h := xs.length + 1) Tryz.underlying29 Tryz.sizeOf60 (hd9 5 rfl) ⟨_, hd9 6 rfl⟩ rfl (.inl (by omega)) (by omega) (by omega)) <| qJ <| y7 rfl rfl rfl er rfl
    · intro s9 w9 hb9 hx9 hf9 hd9 hu9
      have e9 : Ext w w9 := hx9 rfl
      exact Xx (cs := (xs.drop i).flatMap qr) (.plain rfl) rfl (ltb rfl) rfl Tryz.underlying29 Tryz.sizeOf60 (Blk.ext hh e9) (hd9 4 rfl) (hd9 7 rfl) (by rw [hmin2, hDl]) (hsrcD (Blk.ext hh e9)) (by rw [hDl, hsz]; omega) honeD <| fun w3 hw3 k3 => qJ <| XE rfl rfl rfl (hw3.below hBg) ⟨k3, hw3.blk (k9.ext e9) hne9⟩
    · intro s3 w3 hb3 hf3 ha3
      obtain ⟨k3, k93⟩ := ha3 8 rfl rfl
      have hmin1 : Nat.min 1 (xs.length + 1 - i) = 1 := Nat.min_eq_left (by omega)
      have hsz3 : (List.take (0 + (i + 1) * 4) cur.toList ++ (xs.drop i).flatMap qr ++ List.drop (0 + (i + 1) * 4 + ((xs.drop i).flatMap qr).length) cur.toList).length = c0 * 4 := by
        simp only [List.length_append, List.length_take, List.length_drop, hDl, hcl]; omega
      refine qe <| wr <| lp rfl (qf (v := .slice (some ⟨g, 0, none⟩) (xs.length + 1) c0) (hf3 0 rfl)) <| lp rfl (qf (v := .int .i64 (i : Int)) (hf3 1 rfl)) <|
        lp rfl (VJ (l := i) (h := xs.length + 1) Tryz.underlying29 Tryz.sizeOf60 rfl ⟨_, rfl⟩ rfl (.inl (by omega)) (by omega) (by omega)) <| lp rfl (qf (v := .slice (some ⟨b9, 0, none⟩) 1 1) (hf3 2 rfl)) <|
        Xx (cs := qr x) (.plain rfl) rfl (ltb rfl) rfl Tryz.underlying29 Tryz.sizeOf60 k3 rfl rfl (by rw [hmin1]; rfl) (hsrcX k93) (by simp only [List.size_toArray, hsz3, hxl]; omega) hone1 <| fun w4 hw4 k4 => nx <|
        wr <| lp rfl (qf (v := .slice (some ⟨g, 0, none⟩) (xs.length + 1) c0) (hf3 0 rfl)) <| lp rfl (qA rfl) <| nx <| qn <| qw <| qt ?_
      refine ⟨_, rfl, fun W hW => ?_, ?_⟩
      · exact Below.trans (Below.trans hW hb3) (hw4.below hBg)
      · have hz : 4 ≤ (cur.toList.drop (xs.length * 4)).length := by simp only [List.length_drop, hcl]; omega
        have h5 := ins_room (T := (xs.take i).flatMap qr) (X := qr x) (D := (xs.drop i).flatMap qr) (R := cur.toList.drop (xs.length * 4)) hT hxl hz
        rw [← hcur, show i * 4 + 4 = (i + 1) * 4 by omega] at h5
        simp only [Nat.zero_add] at k4
        rw [h5] at k4
        have hrl : ((xs.take i).flatMap qr ++ (qr x ++ (xs.drop i).flatMap qr) ++ (cur.toList.drop (xs.length * 4)).drop 4).length = c0 * 4 := by
          simp only [List.length_append, List.length_drop, hT, hxl, hDl, hcl]; omega
        have := Ow.of_row (C := c0) (ys := YX xs i x) (R := (cur.toList.drop (xs.length * 4)).drop 4) hBg k4 (by rw [ins_flat]) hlen2 (by omega) hcm hrl
        rw [hil] at this
        exact this

/-! impl.place, by text -/
theorem insAt_less {t : List Nd} {n : Nd} (h : XK t = true) : YX t (jS t n.path) n = Qx t n := by
  obtain ⟨h1, h2⟩ := less_split (p := n.path) (XU h)
  unfold YX Qx; rw [h1, h2]
theorem impl_place.calls {w : World} {a0 : List Nd} {a1 : Nd} {v_a0 : Value} (gv : GV 0 w) (f_a0 : Rd 4 qr w v_a0 a0) (h0 : a0.length ≤ 1048575) (h1 : XK a0 = true) (h2 : ∀ x ∈ a0, x.path.length ≤ 1048576) (h3 : a1.path.length ≤ 1048576) :
    Calls Tryz.prog 157 #[v_a0, .agg (qr a1).toArray] w (Rt (RO 60 4 qr w (Qx a0 a1))) := by
  obtain ⟨fd, hbs⟩ := binS_run h0 h1 h2 h3
  have hle := X2 a0 a1.path
  refine qh Tryz.func157 rfl (Nat.le_of_ble_eq_true rfl) Tryz.ntmps157 rfl ?_
  refine wr <| j0 (.plain rfl) rfl (ltb rfl) rfl rfl <| fun b3 w1 z1 z2 e1 k1 => lp rfl (qA (v := .slice none 0 0) rfl) <| nx <| wr <| lp rfl (xm v_a0 rfl) <| lp rfl (qW (cs := qr a1) Tryz.isAgg60 Tryz.sizeOf60 rfl rfl (Blk.at0 k1)) <|
    lc rfl rfl Tryz.call238 (qT.calls (w := w1) (a0 := a0) (a1 := a1) (a2 := cmpN) (v_a2 := .func (.func 239) #[] #[]) (f_a0.ext e1) (fun x0 x1 r h => ?_) rfl hbs) rfl <| fun w2 e2 => lp rfl (qf rfl) <| lp rfl (vq rfl rfl) <| lp rfl (vq rfl rfl) <| lp rfl (qA (v := .int .i64 (jS a0 a1.path : Int)) rfl) <| lp rfl (qA rfl) <| nx ?_
  · obtain ⟨q0, q1, rfl⟩ := cmpN_some h
    exact jq.mk Tryz.call239 (by rfl) fun w9 k9 => QK.calls (w := w9) (a0 := x0) (a1 := x1) (GV.ext gv (e1.t k9)) q0 q1
  have f2 : Rd 4 qr w2 v_a0 a0 := f_a0.ext (e1.t e2)
  have k2 := k1.ext e2
  refine qj <| W_drawP (B := w2.heap.size) [LEq v_a0, LOw 60 4 qr w2.heap.size a0, LEq (.int .i64 (jS a0 a1.path : Int)), LEq (.agg (qr a1).toArray), fun v W => ∃ b, v = .slice (some ⟨b, 0, none⟩) 1 1 ∧ Blk W b (qr a1).toArray 60, LOw 60 4 qr w2.heap.size (Qx a0 a1), LOw 60 4 qr w2.heap.size (Qx a0 a1)]
    [⟨true, true, true, false, []⟩, ⟨true, false, true, false, [0]⟩, ⟨true, true, true, false, []⟩, ⟨true, true, true, false, []⟩, ⟨true, false, true, false, [3]⟩, ⟨false, false, true, false, [1, 2, 4]⟩, ⟨true, false, false, true, [5]⟩]
    [(5, 0, [1]), (5, 1, []), (5, 2, []), (5, 3, [4]), (5, 4, []), (6, 5, [])] 1 4 5 Apart (by kernel_rfl) (by kernel_rfl) (by kernel_rfl) (by kernel_rfl) (Nat.le_refl _)
    ⟨⟨LEq.rig.mono, fun _ => LEq.rig⟩, ⟨LOw.mono, noR⟩, ⟨LEq.rig.mono, fun _ => LEq.rig⟩, ⟨LEq.rig.mono, fun _ => LEq.rig⟩, ⟨fun _ _ _ k ⟨b, h1, h2⟩ => ⟨b, h1, h2.ext k⟩, noR⟩, ⟨LOw.mono, noR⟩, ⟨LOw.mono, noR⟩, trivial⟩
    ⟨?_, ?_, ?_, ?_, ?_, ?_, ?_, trivial⟩ ?_
  · intro s9 w9 c9 hb9 hx9 hf9 hd9 hu9 hp9 hq9 hD9
    exact lp rfl (qf (hf9 0 rfl)) <| qJ <| Xt rfl rfl rfl er rfl rfl rfl
  · intro s9 w9 c9 hb9 hx9 hf9 hd9 hu9 hp9 hq9 hD9
    have e9 : Ext w2 w9 := hx9 rfl
    have h13 : s9 13 = v_a0 := hd9 0 rfl
    refine vp (.plain rfl) rfl (ltb rfl) rfl Tryz.call156 (V7.calls (w := w9) (a0 := a0) (f2.ext e9) (by omega)) (vc h13 rfl) <| fun v14 w10 e10 o14 => qJ <| stepPp rfl rfl rfl e10 (Ow.base o14 e9.size) (fun hc => ?_) rfl
    obtain ⟨b, hb, kb⟩ := hp9 rfl hc
    obtain ⟨h9 | ⟨h9, _⟩, _⟩ := o14
    · refine .inr fun g b' hg hb' => ?_
      have hlt := (h9.lt g hg).1
      have hb2 : s9 17 = .slice (some ⟨b, 0, none⟩) 1 1 := hb
      have hb'' : (s9 17).ownBlock = some b' := hb'
      rw [hb2] at hb''
      have : b = b' := si hb''
      have := kb.lt
      omega
    · exact .inl h9
  · intro s9 w9 c9 hb9 hx9 hf9 hd9 hu9 hp9 hq9 hD9
    exact lp rfl (qf (hf9 5 rfl)) <| qJ <| Xt rfl rfl rfl er rfl rfl rfl
  · intro s9 w9 c9 hb9 hx9 hf9 hd9 hu9 hp9 hq9 hD9
    have e9 : Ext w2 w9 := hx9 rfl
    exact lp rfl (qW (cs := qr a1) Tryz.isAgg60 Tryz.sizeOf60 rfl (hf9 3 rfl) (Blk.at0 (k2.ext e9))) <| qJ <| Xt rfl rfl rfl er rfl rfl rfl
  · intro s9 w9 c9 hb9 hx9 hf9 hd9 hu9 hp9 hq9 hD9
    have e9 : Ext w2 w9 := hx9 rfl
    have h16 : s9 16 = .agg (qr a1).toArray := hd9 3 rfl
    refine vO (.plain rfl) rfl (ltb rfl) rfl Tryz.underlying29 Tryz.sizeOf60 Tryz.zeroValue60 rfl rfl rfl (vs := [.agg (qr a1).toArray]) (vc h16 rfl) (qR rfl) <| fun b17 w10 z17 z17' e10 k17 => qJ <| stepPq rfl rfl rfl e10 ⟨b17, rfl, k17⟩ rfl (fun hc => ?_)
    have o14 : Ow 60 4 qr w2.heap.size w9 (s9 14) a0 := hq9 rfl hc
    rcases o14.hb with h9 | h9
    · exact .inl h9
    · refine .inr fun g b' hg hb' => ?_
      have hlt := h9 g hg
      have : b17 = b' := si hb'
      omega
  · intro s9 w9 c9 hb9 hx9 hf9 hd9 hu9 hp9 hq9 hD9
    have e9 : Ext w2 w9 := hx9 rfl
    have o14 : Ow 60 4 qr w2.heap.size w9 (s9 14) a0 := hd9 1 rfl
    have h15 : s9 15 = .int .i64 (jS a0 a1.path : Int) := hd9 2 rfl
    obtain ⟨b17, h17, k17⟩ := hd9 4 rfl
    have h17' : s9 17 = .slice (some ⟨b17, 0, none⟩) 1 1 := h17
    have hD : Apart (s9 14) (s9 17) := hD9 rfl rfl
    refine QX (.plain rfl) rfl (ltb rfl) rfl Tryz.call240 (Xz.calls (w := w9) (x := a1) (i := jS a0 a1.path) o14 hle e9.size k17 (hD.imp (fun h => h) fun h g hg => h g b17 hg (by rw [h17']; rfl)) (by omega)) (vc rfl (vc h15 (vc h17' rfl))) <| fun v18 w10 h18 => ?_
    obtain ⟨g18, o18⟩ := h18
    refine qJ <| stepPH0 rfl rfl rfl (g18 _ (Below.refl _ _)) (show Ow 60 4 qr w2.heap.size w10 v18 (Qx a0 a1) from ?_) rfl rfl
    rw [← insAt_less h1]; exact o18
  · intro s9 w9 c9 hb9 hx9 hf9 hd9 hu9 hp9 hq9 hD9
    exact lp rfl (qA rfl) <| qJ <| Xt rfl rfl rfl er (hd9 5 rfl) rfl rfl
  · intro s3 w3 hb3 hf3 ha3
    have o4 : Ow 60 4 qr w2.heap.size w3 (s3 4) (Qx a0 a1) := ha3 6 rfl rfl
    refine qe <| qn <| qt ?_
    have e3 : Ext w w2 := Ext.trans e1 e2
    exact Qi rfl (e3.t hb3) o4 e3.size

/-! spec.l04Put -/
abbrev qZ.e1 (a0 : List Nd) (a1 : Nd) (x5_11 : Int) := ((([] : List Nd) ++ (sub a0 0 x5_11)) ++ ([a1] : List Nd))
theorem qZ.walk {k : Nat} {w : World} {a0 : List Nd} {a1 : Nd} {v_a0 : Value} (f_a0 : Rd 4 qr w v_a0 a0) {r : List Nd} (H : qZ.sh k a0 a1 = some r) :
  Calls Tryz.prog 163 #[v_a0, .agg (qr a1).toArray] w (Rt (RO 60 4 qr w r)) := by
 unfold qZ.sh at H
 refine qh Tryz.func163 rfl (Nat.le_of_ble_eq_true rfl) Tryz.ntmps163 rfl ?_
 refine wr <| j0 (.plain rfl) rfl (ltb rfl) rfl rfl <| fun b1 w2 z3 z4 e5 k6 => lp rfl (xa (.slice none 0 0) rfl) <| nx <| wr <| lp rfl (xa (.int .i64 0) rfl) <| nx <| qj ?_
 obtain ⟨z8, L9, C10⟩ := bind_some H
 clear H
 refine  vD (fun s0 sQ wQ => ∃ (x5_11 : Int), Kp [(5, 6), (7, 23)] s0 sQ ∧ sQ 5 = .int .i64 x5_11 ∧ Ext w2 wQ ∧ z8 = .inr x5_11) ?_ ?_
 ·refine qB <| vo (fun s0 kk sQ wQ => ∃ (x5_7 : Int), Kp [(5, 6), (7, 23)] s0 sQ ∧ sQ 5 = .int .i64 x5_7 ∧ Ext w2 wQ ∧ qp (qZ.b1 a0 a1) kk x5_7 = some z8) k ⟨0, kz, rfl, er, L9⟩ ?_
  rintro k16 s17 w18 ⟨x5_7, K19, h22, e20, L21⟩
  cases k16 with
  | zero => exact absurd L21 (by simp [qp])
  | succ k16 =>
   obtain ⟨t23, H, S24⟩ := qK L21
   clear L21
   unfold qZ.b1 at H
   refine qj <| qj ?_
   obtain ⟨c25, H⟩ := qa H
   obtain ⟨c28, H⟩ := qa H
   obtain ⟨c29, H⟩ := qa H
   refine Yp [LEq (.int .i64 x5_7), LEq v_a0, LEq (.int .i64 (a0.length : Int)), LEq (.bool (decide (x5_7 < (a0.length : Int)))), LEq (.bool (decide (x5_7 < (a0.length : Int)))), LIf (decide (x5_7 < (a0.length : Int))) (LEq v_a0), LIf (decide (x5_7 < (a0.length : Int))) (LEq (.int .i64 x5_7)), LIf (decide (x5_7 < (a0.length : Int))) (yu (qr (gt a0 x5_7))), LIf (decide (x5_7 < (a0.length : Int))) (LAt 1 (qr (gt a0 x5_7))), LIf (decide (x5_7 < (a0.length : Int))) (LEq (S ((gt a0 x5_7).path))), LIf (decide (x5_7 < (a0.length : Int))) (LEq (.pointer (some ⟨b1, 1, none⟩))), LIf (decide (x5_7 < (a0.length : Int))) (LEq (S a1.path)), LIf (decide (x5_7 < (a0.length : Int))) (LEq (.bool (vw (cut 47 ((gt a0 x5_7).path)) (cut 47 a1.path)))), LEq (.bool ((decide (x5_7 < (a0.length : Int))) && (vw (cut 47 ((gt a0 x5_7).path)) (cut 47 a1.path))))] (by kernel_rfl) (by kernel_rfl) ⟨qm, qm, qm, qm, qm, lm, lm, (LIf.mono yu.mono), (LIf.mono LAt.mono), lm, lm, lm, lm, qm, trivial⟩ ⟨?_, ?_, ?_, ?_, ?_, ?_, ?_, ?_, ?_, ?_, ?_, ?_, ?_, ?_, trivial⟩ ?_
   ·exact fun s x e f d u => lp rfl (xm (.int .i64 x5_7) ((f 5 rfl).trans h22)) <| se rfl rfl
   ·exact fun s x e f d u => lp rfl (xm v_a0 ((f 0 rfl).trans (K19 0 rfl))) <| se rfl rfl
   ·exact fun s x e f d u => lp rfl (qO Tryz.underlying29 (d 1 rfl) (Rd.ext f_a0 ((e5.t e20).t e))) <| se rfl rfl
   ·exact fun s x e f d u => lp rfl (yl (d 0 rfl) (d 2 rfl)) <| se rfl rfl
   ·exact fun s x e f d u => lp rfl (qf (d 3 rfl)) <| se rfl rfl
   ·exact fun s x e f d u => gT rfl rfl rfl rfl (d 4 rfl) rfl fun b t => lt t rfl rfl (xm v_a0 ((f 0 rfl).trans (K19 0 rfl))) <| sg rfl rfl b rfl
   ·exact fun s x e f d u => gT rfl rfl rfl rfl (d 4 rfl) rfl fun b t => lt t rfl rfl (xm (.int .i64 x5_7) ((f 5 rfl).trans h22)) <| sg rfl rfl b rfl
   ·exact fun s x e f d u => gT rfl rfl rfl rfl (d 4 rfl) rfl fun b t => q4 t rfl (ltb rfl) rfl Tryz.underlying29 Tryz.sizeOf60 ((d 5 rfl).1 b) (Rd.ext f_a0 ((e5.t e20).t e)) ((d 6 rfl).1 b) (vE b c25) <| fun p33 h34 => sg rfl rfl b ⟨_, rfl, h34⟩
   ·intro s x e f d u
    refine gT rfl rfl rfl rfl (d 4 rfl) rfl fun b t => ?_
    obtain ⟨p35, h36, h37⟩ := ((d 7 rfl).1 b)
    exact lt t rfl rfl (qb Tryz.underlying60 rfl Tryz.sizeOf9 rfl h36) <| sg rfl rfl b ⟨_, rfl, h37⟩
   ·intro s x e f d u
    refine gT rfl rfl rfl rfl (d 4 rfl) rfl fun b t => ?_
    obtain ⟨p38, h39, h40⟩ := ((d 8 rfl).1 b)
    exact lt t rfl rfl (vT Tryz.isAgg9 (j := 1) h40 h39 rfl) <| sg rfl rfl b rfl
   ·exact fun s x e f d u => gT rfl rfl rfl rfl (d 4 rfl) rfl fun b t => lt t rfl rfl (qb Tryz.underlying60 rfl Tryz.sizeOf9 rfl ((f 3 rfl).trans (K19 3 rfl))) <| sg rfl rfl b rfl
   ·exact fun s x e f d u => gT rfl rfl rfl rfl (d 4 rfl) rfl fun b t => lt t rfl rfl (qz Tryz.isAgg9 (Blk.ext k6 (e20.t e)) ((d 10 rfl).1 b) rfl) <| sg rfl rfl b rfl
   ·exact fun s x e f d u => gT rfl rfl rfl rfl (d 4 rfl) rfl fun b t => vy t rfl (ltb rfl) rfl Tryz.call205 (vK.calls (w := x) (a0 := (gt a0 x5_7).path) (a1 := a1.path) (od (vE b c28)) (od (vE b c29))) (vc ((d 9 rfl).1 b) (vc ((d 11 rfl).1 b) rfl)) <| fun w43 e44 => sgx rfl rfl b e44 rfl
   ·exact fun s x e f d u => lp rfl (Qh (d 4 rfl) rfl fun h => ((d 12 rfl).1 h)) <| se rfl rfl
   intro s45 w46 e47 hf48 ha49
   have K50 := Kp.ofD (kp := [(7, 21)]) rfl hf48
   have d51 : s45 20 = (.bool ((decide (x5_7 < (a0.length : Int))) && (vw (cut 47 ((gt a0 x5_7).path)) (cut 47 a1.path)))) := ha49 13 rfl
   clear ha49 hf48
   refine qe ?_
   rcases qd H with ⟨q52, H⟩ | ⟨q52, H⟩
   ·refine qk (d51.trans (cb q52)) <| qo <| qe <| qB <| qG <| lp rfl (xm (.int .i64 x5_7) ((K50 5 rfl).trans h22)) <| lp rfl (vi rfl rfl) <| lp rfl (xa (.int .i64 (IntKind.wrap .i64 (x5_7 + 1))) rfl) <| qJ <| vk <| qe ?_
    obtain rfl := si H
    exact ⟨_, Nat.lt_succ_self _, IntKind.wrap .i64 (x5_7 + 1), (ku3 (Kp.cut K19 K50 rfl) rfl), rfl, (e20.t e47), S24⟩
   ·refine qi (d51.trans (cb q52)) <| vH <| qY <| qY <| yF <| qe ?_
    obtain rfl := si H
    obtain rfl := si S24
    exact ⟨x5_7, (Kp.cut K19 K50 rfl), ((K50 5 rfl).trans h22), (e20.t e47), rfl⟩
 ·rintro s13 w12 ⟨x5_11, K14, h53, e15, y54⟩
  rw [y54] at C10
  have H := C10
  replace H : _ = some _ := H
  refine qe <| wr <| lp rfl (xm v_a0 (K14 0 rfl)) <| lp rfl (qf h53) ?_
  obtain ⟨c55, H⟩ := qa H
  refine G3 (.plain rfl) rfl (ltb rfl) rfl Tryz.underlying29 Tryz.sizeOf60 rfl (Rd.ext f_a0 (e5.t e15)) (l := x5_11) (h := (a0.length : Int)) ⟨_, rfl⟩ rfl c55 <| fun v56 h57 => lp rfl (xa v56 rfl) <| nx <| qj <| qj ?_
  obtain ⟨c58, H⟩ := qa H
  refine Yp [LEq (.int .i64 x5_11), LEq v_a0, LEq (.int .i64 (a0.length : Int)), LEq (.bool (decide (x5_11 < (a0.length : Int)))), LEq (.bool (decide (x5_11 < (a0.length : Int)))), LIf (decide (x5_11 < (a0.length : Int))) (LEq v_a0), LIf (decide (x5_11 < (a0.length : Int))) (LEq (.int .i64 x5_11)), LIf (decide (x5_11 < (a0.length : Int))) (yu (qr (gt a0 x5_11))), LIf (decide (x5_11 < (a0.length : Int))) (LAt 1 (qr (gt a0 x5_11))), LIf (decide (x5_11 < (a0.length : Int))) (LEq (S ((gt a0 x5_11).path))), LIf (decide (x5_11 < (a0.length : Int))) (LEq (.pointer (some ⟨b1, 1, none⟩))), LIf (decide (x5_11 < (a0.length : Int))) (LEq (S a1.path)), LIf (decide (x5_11 < (a0.length : Int))) (LEq (.bool (decide (((gt a0 x5_11).path) = a1.path)))), LEq (.bool ((decide (x5_11 < (a0.length : Int))) && (decide (((gt a0 x5_11).path) = a1.path))))] (by kernel_rfl) (by kernel_rfl) ⟨qm, qm, qm, qm, qm, lm, lm, (LIf.mono yu.mono), (LIf.mono LAt.mono), lm, lm, lm, lm, qm, trivial⟩ ⟨?_, ?_, ?_, ?_, ?_, ?_, ?_, ?_, ?_, ?_, ?_, ?_, ?_, ?_, trivial⟩ ?_
  ·exact fun s x e f d u => lp rfl (xm (.int .i64 x5_11) ((f 5 rfl).trans h53)) <| se rfl rfl
  ·exact fun s x e f d u => lp rfl (xm v_a0 ((f 0 rfl).trans (K14 0 rfl))) <| se rfl rfl
  ·exact fun s x e f d u => lp rfl (qO Tryz.underlying29 (d 1 rfl) (Rd.ext f_a0 ((e5.t e15).t e))) <| se rfl rfl
  ·exact fun s x e f d u => lp rfl (yl (d 0 rfl) (d 2 rfl)) <| se rfl rfl
  ·exact fun s x e f d u => lp rfl (qf (d 3 rfl)) <| se rfl rfl
  ·exact fun s x e f d u => gT rfl rfl rfl rfl (d 4 rfl) rfl fun b t => lt t rfl rfl (xm v_a0 ((f 0 rfl).trans (K14 0 rfl))) <| sg rfl rfl b rfl
  ·exact fun s x e f d u => gT rfl rfl rfl rfl (d 4 rfl) rfl fun b t => lt t rfl rfl (xm (.int .i64 x5_11) ((f 5 rfl).trans h53)) <| sg rfl rfl b rfl
  ·exact fun s x e f d u => gT rfl rfl rfl rfl (d 4 rfl) rfl fun b t => q4 t rfl (ltb rfl) rfl Tryz.underlying29 Tryz.sizeOf60 ((d 5 rfl).1 b) (Rd.ext f_a0 ((e5.t e15).t e)) ((d 6 rfl).1 b) (vE b c58) <| fun p62 h63 => sg rfl rfl b ⟨_, rfl, h63⟩
  ·intro s x e f d u
   refine gT rfl rfl rfl rfl (d 4 rfl) rfl fun b t => ?_
   obtain ⟨p64, h65, h66⟩ := ((d 7 rfl).1 b)
   exact lt t rfl rfl (qb Tryz.underlying60 rfl Tryz.sizeOf9 rfl h65) <| sg rfl rfl b ⟨_, rfl, h66⟩
  ·intro s x e f d u
   refine gT rfl rfl rfl rfl (d 4 rfl) rfl fun b t => ?_
   obtain ⟨p67, h68, h69⟩ := ((d 8 rfl).1 b)
   exact lt t rfl rfl (vT Tryz.isAgg9 (j := 1) h69 h68 rfl) <| sg rfl rfl b rfl
  ·exact fun s x e f d u => gT rfl rfl rfl rfl (d 4 rfl) rfl fun b t => lt t rfl rfl (qb Tryz.underlying60 rfl Tryz.sizeOf9 rfl ((f 3 rfl).trans (K14 3 rfl))) <| sg rfl rfl b rfl
  ·exact fun s x e f d u => gT rfl rfl rfl rfl (d 4 rfl) rfl fun b t => lt t rfl rfl (qz Tryz.isAgg9 (Blk.ext k6 (e15.t e)) ((d 10 rfl).1 b) rfl) <| sg rfl rfl b rfl
  ·exact fun s x e f d u => gT rfl rfl rfl rfl (d 4 rfl) rfl fun b t => lt t rfl rfl (VR ((d 9 rfl).1 b) ((d 11 rfl).1 b)) <| sg rfl rfl b rfl
  ·exact fun s x e f d u => lp rfl (Qh (d 4 rfl) rfl fun h => ((d 12 rfl).1 h)) <| se rfl rfl
  intro s70 w71 e72 hf73 ha74
  have K75 := Kp.ofD (kp := [(26, 40)]) rfl hf73
  have d76 : s70 39 = (.bool ((decide (x5_11 < (a0.length : Int))) && (decide (((gt a0 x5_11).path) = a1.path)))) := ha74 13 rfl
  clear ha74 hf73
  refine qe ?_
  rcases qd H with ⟨q77, H⟩ | ⟨q77, H⟩
  ·refine qk (d76.trans (cb q77)) <| qG <| lp rfl (xm v_a0 ((K75 0 rfl).trans (K14 0 rfl))) <| lp rfl (xm (.int .i64 x5_11) ((K75 5 rfl).trans h53)) <| lp rfl (vi rfl rfl) ?_
   obtain ⟨c78, H⟩ := qa H
   refine G3 (.plain rfl) rfl (ltb rfl) rfl Tryz.underlying29 Tryz.sizeOf60 rfl (Rd.ext f_a0 ((e5.t e15).t e72)) (l := IntKind.wrap .i64 (x5_11 + 1)) (h := (a0.length : Int)) ⟨_, rfl⟩ rfl c78 <| fun v79 h80 => lp rfl (xa v79 rfl) <| nx <| qj ?_
   obtain ⟨c87, H⟩ := qa H
   obtain ⟨c90, H⟩ := qa H
   obtain ⟨c102, H⟩ := qa H
   obtain ⟨c108, H⟩ := qa H
   refine Gy (B := w71.heap.size) [LEmp, LEq v_a0, LEq (.int .i64 x5_11), LRdW w71 4 qr (sub a0 0 x5_11), LOw 60 4 qr w71.heap.size (([] : List Nd) ++ (sub a0 0 x5_11)), LEq (.agg #[(.int .i64 a1.kind), (S a1.path), (S a1.body), (.int .i64 a1.mode)]), LRd 4 qr ([a1] : List Nd), LOw 60 4 qr w71.heap.size (qZ.e1 a0 a1 x5_11), LEq v79, LOw 60 4 qr w71.heap.size ((qZ.e1 a0 a1 x5_11) ++ (sub a0 (IntKind.wrap .i64 (x5_11 + 1)) (a0.length : Int))), LOw 60 4 qr w71.heap.size ((qZ.e1 a0 a1 x5_11) ++ (sub a0 (IntKind.wrap .i64 (x5_11 + 1)) (a0.length : Int)))] [⟨true, true, true, false, []⟩, ⟨true, true, true, false, []⟩, ⟨true, true, true, false, []⟩, ⟨true, true, true, false, [1, 2]⟩, ⟨true, false, true, false, [0, 3]⟩, ⟨true, true, true, false, []⟩, ⟨true, false, true, false, [5]⟩, ⟨false, false, true, false, [4, 6]⟩, ⟨true, true, false, false, []⟩, ⟨false, false, false, false, [7, 8]⟩, ⟨true, false, false, true, [9]⟩] [(7, 0, [4]), (9, 0, [7, 4]), (7, 1, [4, 3]), (9, 1, [7, 4, 3]), (7, 2, [4, 3]), (9, 2, [7, 4, 3]), (7, 3, [4]), (9, 3, [7, 4]), (7, 4, []), (9, 4, [7]), (7, 5, [6]), (9, 5, [7, 6]), (7, 6, []), (9, 6, [7]), (9, 7, []), (10, 7, []), (10, 9, [])] (by kernel_rfl) (by kernel_rfl) (Nat.le_refl _) ⟨⟨LEmp.rig.mono, fun _ => LEmp.rig⟩, ⟨LEq.rig.mono, fun _ => LEq.rig⟩, ⟨LEq.rig.mono, fun _ => LEq.rig⟩, ⟨LRdW.rig.mono, fun _ => LRdW.rig⟩, ⟨LOw.mono, noR⟩, ⟨LEq.rig.mono, fun _ => LEq.rig⟩, ⟨LRd.mono, noR⟩, ⟨LOw.mono, noR⟩, ⟨LEq.rig.mono, fun _ => LEq.rig⟩, ⟨LOw.mono, noR⟩, ⟨LOw.mono, noR⟩, trivial⟩ ⟨?_, ?_, ?_, ?_, ?_, ?_, ?_, ?_, ?_, ?_, ?_, trivial⟩ ?_
   ·intro s114 w115 hb116 hx117 hf118 hd119 hu120
    have e121 : Ext w71 w115 := hx117 rfl
    exact vO (.plain rfl) rfl (ltb rfl) rfl Tryz.underlying29 Tryz.sizeOf60 Tryz.zeroValue60 rfl rfl rfl (vs := []) rfl (qR rfl) <| fun b122 w123 z124 z125 e126 k127 => qJ <| y7 rfl rfl rfl e126 ⟨_, rfl⟩
   ·intro s128 w129 hb130 hx131 hf132 hd133 hu134
    have e135 : Ext w71 w129 := hx131 rfl
    exact lp rfl (xm v_a0 ((hf132 0 rfl).trans ((K75 0 rfl).trans (K14 0 rfl)))) <| qJ <| y7 rfl rfl rfl er rfl
   ·intro s136 w137 hb138 hx139 hf140 hd141 hu142
    have e143 : Ext w71 w137 := hx139 rfl
    exact lp rfl (xm (.int .i64 x5_11) ((hf140 5 rfl).trans ((K75 5 rfl).trans h53))) <| qJ <| y7 rfl rfl rfl er rfl
   ·intro s144 w145 hb146 hx147 hf148 hd149 hu150
    have e151 : Ext w71 w145 := hx147 rfl
    have d152 : s144 45 = v_a0 := (hd149 1 rfl)
    have d153 : s144 46 = (.int .i64 x5_11) := (hd149 2 rfl)
    have c154 := c87
    exact G3 (.plain rfl) rfl (ltb rfl) rfl Tryz.underlying29 Tryz.sizeOf60 d152 (Rd.ext f_a0 ((e5.t e15).t e72)) (l := 0) (h := x5_11) rfl ⟨_, d153⟩ c154 <| fun v155 h156 => qJ <| y7 rfl rfl rfl er h156
   ·intro s157 w158 hb159 hx160 hf161 hd162 hu163
    have e164 : Ext w71 w158 := hx160 rfl
    obtain ⟨b165, h166⟩ := (hd162 0 rfl)
    have d167 : Rd 4 qr w71 (s157 47) (sub a0 0 x5_11) := (hd162 3 rfl)
    have c168 := c90
    exact vW (enc := qr) (.plain rfl) rfl (ltb rfl) rfl El.t29 h166 rfl (Ow.zero (base := w158.heap.size) (w := w158)) (Rd.ext d167 e164) (QV _) (od c168) (Nat.le_refl _) <| fun v169 w170 o171 z172 g173 => qJ <| y7 rfl rfl rfl (g173 _ er) (Ow.base o171 e164.size)
   ·intro s174 w175 hb176 hx177 hf178 hd179 hu180
    have e181 : Ext w71 w175 := hx177 rfl
    exact lp rfl (qW Tryz.isAgg60 Tryz.sizeOf60 rfl ((hf178 3 rfl).trans ((K75 3 rfl).trans (K14 3 rfl))) (Blk.at0 (Blk.ext k6 ((e15.t e72).t e181)))) <| qJ <| y7 rfl rfl rfl er rfl
   ·intro s182 w183 hb184 hx185 hf186 hd187 hu188
    have e189 : Ext w71 w183 := hx185 rfl
    have d190 : s182 49 = (.agg #[(.int .i64 a1.kind), (S a1.path), (S a1.body), (.int .i64 a1.mode)]) := (hd187 5 rfl)
    exact vO (.plain rfl) rfl (ltb rfl) rfl Tryz.underlying29 Tryz.sizeOf60 Tryz.zeroValue60 rfl rfl rfl (vs := [(.agg #[(.int .i64 a1.kind), (S a1.path), (S a1.body), (.int .i64 a1.mode)])]) (vc d190 rfl) (qR rfl) <| fun b191 w192 z193 z194 e195 k196 => qJ <| y7 rfl rfl rfl e195 (Ow.rd (Ow.new (xs := [a1]) (sz := 4) (enc := qr) (base := w183.heap.size) k196 (Nat.le_of_eq z193) rfl (fun _ _ => by rfl) (Nat.le_of_ble_eq_true rfl)))
   ·intro s197 w198 hb199 hx200 hf201 hd202 hu203
    have e204 : Ext w71 w198 := hx200 rfl
    have d205 : Ow 60 4 qr w71.heap.size w198 (s197 48) (([] : List Nd) ++ (sub a0 0 x5_11)) := (hd202 4 rfl)
    have d206 : Rd 4 qr w198 (s197 50) ([a1] : List Nd) := (hd202 6 rfl)
    have c207 := c102
    exact vW (enc := qr) (.plain rfl) rfl (ltb rfl) rfl El.t29 rfl rfl d205 d206 (QV _) (od c207) (e204).size <| fun v208 w209 o210 z211 g212 => qJ <| XE rfl rfl rfl (g212 _ (Below.refl _ _)) o210
   ·intro s213 w214 hb215 hx216 hf217 hd218 hu219
    have e220 : Ext w71 w214 := Below.trans er hb215
    exact lp rfl (xm v79 (hf217 6 rfl)) <| qJ <| y7 rfl rfl rfl er rfl
   ·intro s221 w222 hb223 hx224 hf225 hd226 hu227
    have e228 : Ext w71 w222 := Below.trans er hb223
    have d229 : Ow 60 4 qr w71.heap.size w222 (s221 51) (qZ.e1 a0 a1 x5_11) := (hd226 7 rfl)
    have d230 : s221 52 = v79 := (hd226 8 rfl)
    have c231 := c108
    exact vW (enc := qr) (.plain rfl) rfl (ltb rfl) rfl El.t29 rfl d230 d229 (Rd.ext h80 e228) (QV _) (od c231) (e228).size <| fun v232 w233 o234 z235 g236 => qJ <| XE rfl rfl rfl (g236 _ (Below.refl _ _)) o234
   ·intro s237 w238 hb239 hx240 hf241 hd242 hu243
    have e244 : Ext w71 w238 := Below.trans er hb239
    have d245 : Ow 60 4 qr w71.heap.size w238 (s237 53) ((qZ.e1 a0 a1 x5_11) ++ (sub a0 (IntKind.wrap .i64 (x5_11 + 1)) (a0.length : Int))) := (hd242 9 rfl)
    exact lp rfl (xa (s237 53) rfl) <| qJ <| y7 rfl rfl rfl er d245
   intro s246 w247 hb248 hf250 ha251
   have K252 := Kp.ofD (kp := [(4, 5), (44, 54)]) rfl hf250
   have e249 : Ext w71 w247 := hb248
   have d253 : Ow 60 4 qr w71.heap.size w247 (s246 4) ((qZ.e1 a0 a1 x5_11) ++ (sub a0 (IntKind.wrap .i64 (x5_11 + 1)) (a0.length : Int))) := ha251 10 rfl rfl
   clear ha251 hf250
   refine qe <| qn <| qt ?_
   obtain rfl := si H
   exact Qi rfl (((e5.t e15).t e72).t e249) d253 (((e5.t e15).t e72)).size
  ·refine qi (d76.trans (cb q77)) <| qo <| qe <| qj ?_
   obtain ⟨c260, H⟩ := qa H
   obtain ⟨c263, H⟩ := qa H
   obtain ⟨c275, H⟩ := qa H
   obtain ⟨c281, H⟩ := qa H
   refine Gy (B := w71.heap.size) [LEmp, LEq v_a0, LEq (.int .i64 x5_11), LRdW w71 4 qr (sub a0 0 x5_11), LOw 60 4 qr w71.heap.size (([] : List Nd) ++ (sub a0 0 x5_11)), LEq (.agg #[(.int .i64 a1.kind), (S a1.path), (S a1.body), (.int .i64 a1.mode)]), LRd 4 qr ([a1] : List Nd), LOw 60 4 qr w71.heap.size (qZ.e1 a0 a1 x5_11), LEq v56, LOw 60 4 qr w71.heap.size ((qZ.e1 a0 a1 x5_11) ++ (sub a0 x5_11 (a0.length : Int))), LOw 60 4 qr w71.heap.size ((qZ.e1 a0 a1 x5_11) ++ (sub a0 x5_11 (a0.length : Int)))] [⟨true, true, true, false, []⟩, ⟨true, true, true, false, []⟩, ⟨true, true, true, false, []⟩, ⟨true, true, true, false, [1, 2]⟩, ⟨true, false, true, false, [0, 3]⟩, ⟨true, true, true, false, []⟩, ⟨true, false, true, false, [5]⟩, ⟨false, false, true, false, [4, 6]⟩, ⟨true, true, false, false, []⟩, ⟨false, false, false, false, [7, 8]⟩, ⟨true, false, false, true, [9]⟩] [(7, 0, [4]), (9, 0, [7, 4]), (7, 1, [4, 3]), (9, 1, [7, 4, 3]), (7, 2, [4, 3]), (9, 2, [7, 4, 3]), (7, 3, [4]), (9, 3, [7, 4]), (7, 4, []), (9, 4, [7]), (7, 5, [6]), (9, 5, [7, 6]), (7, 6, []), (9, 6, [7]), (9, 7, []), (10, 7, []), (10, 9, [])] (by kernel_rfl) (by kernel_rfl) (Nat.le_refl _) ⟨⟨LEmp.rig.mono, fun _ => LEmp.rig⟩, ⟨LEq.rig.mono, fun _ => LEq.rig⟩, ⟨LEq.rig.mono, fun _ => LEq.rig⟩, ⟨LRdW.rig.mono, fun _ => LRdW.rig⟩, ⟨LOw.mono, noR⟩, ⟨LEq.rig.mono, fun _ => LEq.rig⟩, ⟨LRd.mono, noR⟩, ⟨LOw.mono, noR⟩, ⟨LEq.rig.mono, fun _ => LEq.rig⟩, ⟨LOw.mono, noR⟩, ⟨LOw.mono, noR⟩, trivial⟩ ⟨?_, ?_, ?_, ?_, ?_, ?_, ?_, ?_, ?_, ?_, ?_, trivial⟩ ?_
   ·intro s287 w288 hb289 hx290 hf291 hd292 hu293
    have e294 : Ext w71 w288 := hx290 rfl
    exact vO (.plain rfl) rfl (ltb rfl) rfl Tryz.underlying29 Tryz.sizeOf60 Tryz.zeroValue60 rfl rfl rfl (vs := []) rfl (qR rfl) <| fun b295 w296 z297 z298 e299 k300 => qJ <| y7 rfl rfl rfl e299 ⟨_, rfl⟩
   ·intro s301 w302 hb303 hx304 hf305 hd306 hu307
    have e308 : Ext w71 w302 := hx304 rfl
    exact lp rfl (xm v_a0 ((hf305 0 rfl).trans ((K75 0 rfl).trans (K14 0 rfl)))) <| qJ <| y7 rfl rfl rfl er rfl
   ·intro s309 w310 hb311 hx312 hf313 hd314 hu315
    have e316 : Ext w71 w310 := hx312 rfl
    exact lp rfl (xm (.int .i64 x5_11) ((hf313 5 rfl).trans ((K75 5 rfl).trans h53))) <| qJ <| y7 rfl rfl rfl er rfl
   ·intro s317 w318 hb319 hx320 hf321 hd322 hu323
    have e324 : Ext w71 w318 := hx320 rfl
    have d325 : s317 45 = v_a0 := (hd322 1 rfl)
    have d326 : s317 46 = (.int .i64 x5_11) := (hd322 2 rfl)
    have c327 := c260
    exact G3 (.plain rfl) rfl (ltb rfl) rfl Tryz.underlying29 Tryz.sizeOf60 d325 (Rd.ext f_a0 ((e5.t e15).t e72)) (l := 0) (h := x5_11) rfl ⟨_, d326⟩ c327 <| fun v328 h329 => qJ <| y7 rfl rfl rfl er h329
   ·intro s330 w331 hb332 hx333 hf334 hd335 hu336
    have e337 : Ext w71 w331 := hx333 rfl
    obtain ⟨b338, h339⟩ := (hd335 0 rfl)
    have d340 : Rd 4 qr w71 (s330 47) (sub a0 0 x5_11) := (hd335 3 rfl)
    have c341 := c263
    exact vW (enc := qr) (.plain rfl) rfl (ltb rfl) rfl El.t29 h339 rfl (Ow.zero (base := w331.heap.size) (w := w331)) (Rd.ext d340 e337) (QV _) (od c341) (Nat.le_refl _) <| fun v342 w343 o344 z345 g346 => qJ <| y7 rfl rfl rfl (g346 _ er) (Ow.base o344 e337.size)
   ·intro s347 w348 hb349 hx350 hf351 hd352 hu353
    have e354 : Ext w71 w348 := hx350 rfl
    exact lp rfl (qW Tryz.isAgg60 Tryz.sizeOf60 rfl ((hf351 3 rfl).trans ((K75 3 rfl).trans (K14 3 rfl))) (Blk.at0 (Blk.ext k6 ((e15.t e72).t e354)))) <| qJ <| y7 rfl rfl rfl er rfl
   ·intro s355 w356 hb357 hx358 hf359 hd360 hu361
    have e362 : Ext w71 w356 := hx358 rfl
    have d363 : s355 49 = (.agg #[(.int .i64 a1.kind), (S a1.path), (S a1.body), (.int .i64 a1.mode)]) := (hd360 5 rfl)
    exact vO (.plain rfl) rfl (ltb rfl) rfl Tryz.underlying29 Tryz.sizeOf60 Tryz.zeroValue60 rfl rfl rfl (vs := [(.agg #[(.int .i64 a1.kind), (S a1.path), (S a1.body), (.int .i64 a1.mode)])]) (vc d363 rfl) (qR rfl) <| fun b364 w365 z366 z367 e368 k369 => qJ <| y7 rfl rfl rfl e368 (Ow.rd (Ow.new (xs := [a1]) (sz := 4) (enc := qr) (base := w356.heap.size) k369 (Nat.le_of_eq z366) rfl (fun _ _ => by rfl) (Nat.le_of_ble_eq_true rfl)))
   ·intro s370 w371 hb372 hx373 hf374 hd375 hu376
    have e377 : Ext w71 w371 := hx373 rfl
    have d378 : Ow 60 4 qr w71.heap.size w371 (s370 48) (([] : List Nd) ++ (sub a0 0 x5_11)) := (hd375 4 rfl)
    have d379 : Rd 4 qr w371 (s370 50) ([a1] : List Nd) := (hd375 6 rfl)
    have c380 := c275
    exact vW (enc := qr) (.plain rfl) rfl (ltb rfl) rfl El.t29 rfl rfl d378 d379 (QV _) (od c380) (e377).size <| fun v381 w382 o383 z384 g385 => qJ <| XE rfl rfl rfl (g385 _ (Below.refl _ _)) o383
   ·intro s386 w387 hb388 hx389 hf390 hd391 hu392
    have e393 : Ext w71 w387 := Below.trans er hb388
    exact lp rfl (xm v56 ((hf390 6 rfl).trans (K75 6 rfl))) <| qJ <| y7 rfl rfl rfl er rfl
   ·intro s394 w395 hb396 hx397 hf398 hd399 hu400
    have e401 : Ext w71 w395 := Below.trans er hb396
    have d402 : Ow 60 4 qr w71.heap.size w395 (s394 51) (qZ.e1 a0 a1 x5_11) := (hd399 7 rfl)
    have d403 : s394 52 = v56 := (hd399 8 rfl)
    have c404 := c281
    exact vW (enc := qr) (.plain rfl) rfl (ltb rfl) rfl El.t29 rfl d403 d402 (Rd.ext h57 (e72.t e401)) (QV _) (od c404) (e401).size <| fun v405 w406 o407 z408 g409 => qJ <| XE rfl rfl rfl (g409 _ (Below.refl _ _)) o407
   ·intro s410 w411 hb412 hx413 hf414 hd415 hu416
    have e417 : Ext w71 w411 := Below.trans er hb412
    have d418 : Ow 60 4 qr w71.heap.size w411 (s410 53) ((qZ.e1 a0 a1 x5_11) ++ (sub a0 x5_11 (a0.length : Int))) := (hd415 9 rfl)
    exact lp rfl (xa (s410 53) rfl) <| qJ <| y7 rfl rfl rfl er d418
   intro s419 w420 hb421 hf423 ha424
   have K425 := Kp.ofD (kp := [(4, 5), (44, 54)]) rfl hf423
   have e422 : Ext w71 w420 := hb421
   have d426 : Ow 60 4 qr w71.heap.size w420 (s419 4) ((qZ.e1 a0 a1 x5_11) ++ (sub a0 x5_11 (a0.length : Int))) := ha424 10 rfl rfl
   clear ha424 hf423
   refine qe <| qn <| qt ?_
   obtain rfl := si H
   exact Qi rfl (((e5.t e15).t e72).t e422) d426 (((e5.t e15).t e72)).size
theorem qZ.calls {w : World} {a0 : List Nd} {a1 : Nd} {v_a0 : Value} (f_a0 : Rd 4 qr w v_a0 a0) (h0 : a0.length ≤ 1000000) (h1 : ∀ x ∈ a0, x.path.length ≤ 1048576) (h2 : a1.path.length ≤ 1048576) :
  Calls Tryz.prog 163 #[v_a0, .agg (qr a1).toArray] w (Rt (RO 60 4 qr w (Gv a0 a1))) := by
 obtain ⟨k, h⟩ := qZ.eq a0 a1 h0 h1 h2
 exact qZ.walk f_a0 h
/-! spec.l04Node -/
theorem Qq.calls {w : World} {a0 : Rec} :
  Calls Tryz.prog 203 #[.agg (qg a0).toArray] w (Rt (RP w (.agg (qr (jP a0)).toArray))) := by
 have H := Qq.eq a0
 generalize (jP a0) = r at H ⊢
 unfold Qq.sh at H
 refine VB Tryz.func203 rfl (Nat.le_of_ble_eq_true rfl) Tryz.ntmps203 ?_
 refine wr <| j0 (.plain rfl) rfl (ltb rfl) rfl rfl <| fun b1 w2 z3 z4 e5 k6 => QA (.plain rfl) rfl (ltb rfl) rfl Tryz.zeroValue60 <| fun b7 w8 z9 z10 e11 k12 => nx <| wr <| lp rfl (qb Tryz.underlying58 rfl Tryz.sizeOf3 rfl rfl) <| lp rfl (qz Tryz.isAgg3 (Blk.ext k6 e11) rfl rfl) <| lp rfl (qb Tryz.underlying58 rfl Tryz.sizeOf9 rfl rfl) <| lp rfl (qz Tryz.isAgg9 (Blk.ext k6 e11) rfl rfl) <| lp rfl (qb Tryz.underlying58 rfl Tryz.sizeOf9 rfl rfl) <| lp rfl (qz Tryz.isAgg9 (Blk.ext k6 e11) rfl rfl) <| lp rfl (qb Tryz.underlying58 rfl Tryz.sizeOf3 rfl rfl) <| lp rfl (qz Tryz.isAgg3 (Blk.ext k6 e11) rfl rfl) <| lp rfl (Q0 (vs := [(0, (.int .i64 a0.kind)), (1, (S a0.path)), (2, (S a0.body)), (3, (.int .i64 a0.mode))]) (pl := #[(0, 1), (1, 1), (2, 1), (3, 1)]) Tryz.underlying60 Tryz.zeroValue60 rfl (fun _ => by kernel_rfl) rfl rfl rfl) <| ji (.plain rfl) rfl rfl Tryz.sizeOf60 rfl rfl rfl rfl rfl k12 <| fun w13 h14 k15 => nx <| qn <| YC ?_
 obtain rfl := si H
 exact finC1 rfl rfl k15 Tryz.isAgg60 Tryz.sizeOf60 rfl (e5.t (Below.trans e11 (Wr.below h14 (Nat.le_of_eq z9))))
/-! spec.l05Do -/
theorem Vk.calls {w : World} {a0 : List Nd} {a1 : Rec} {v_a0 : Value} (f_a0 : Rd 4 qr w v_a0 a0) (h0 : a0.length ≤ 1000000) (h1 : ∀ x ∈ a0, x.path.length ≤ 1048576) (h2 : a1.path.length ≤ 1048576) :
  Calls Tryz.prog 223 #[v_a0, .agg (qg a1).toArray] w (Rt (RO 60 4 qr w (doS a0 a1))) := by
 have H := Vk.eq a0 a1 h0 h1 h2
 generalize (doS a0 a1) = r at H ⊢
 unfold Vk.sh at H
 refine qh Tryz.func223 rfl (Nat.le_of_ble_eq_true rfl) Tryz.ntmps223 rfl ?_
 refine wr <| j0 (.plain rfl) rfl (ltb rfl) rfl rfl <| fun b1 w2 z3 z4 e5 k6 => lp rfl (xa (.slice none 0 0) rfl) <| nx <| wr <| lp rfl (xm v_a0 rfl) <| lp rfl (qb Tryz.underlying58 rfl Tryz.sizeOf9 rfl rfl) <| lp rfl (qz Tryz.isAgg9 k6 rfl rfl) ?_
 obtain ⟨c7, H⟩ := qa H
 refine lc rfl rfl Tryz.call162 (jo.calls (w := w2) (a0 := a0) (a1 := a1.path) (Rd.ext f_a0 e5) (od c7)) rfl <| fun w8 e9 => lp rfl (xa (.int .i64 (vd a0 a1.path)) rfl) <| nx <| qj <| wr <| lp rfl (qb Tryz.underlying58 rfl Tryz.sizeOf3 rfl rfl) <| lp rfl (qz Tryz.isAgg3 (Blk.ext k6 e9) rfl rfl) <| lp rfl (yn rfl rfl) <| nx ?_
 rcases qd H with ⟨q10, H⟩ | ⟨q10, H⟩
 ·refine qk (cb q10) <| wr <| lp rfl (xm v_a0 rfl) <| lp rfl (qb Tryz.underlying58 rfl Tryz.sizeOf9 rfl rfl) <| lp rfl (qz Tryz.isAgg9 (Blk.ext k6 e9) rfl rfl) ?_
  obtain ⟨c11, H⟩ := qa H
  refine vp (.plain rfl) rfl (ltb rfl) rfl Tryz.call170 (vR.calls (w := w8) (a0 := a0) (a1 := a1.path) (a2 := true) (Rd.ext f_a0 (e5.t e9)) (od c11)) rfl <| fun v14 w12 e13 o15 => lp rfl (xa v14 rfl) <| nx <| qn <| qw <| qt ?_
  obtain rfl := si H
  exact Qi rfl ((e5.t e9).t e13) o15 ((e5.t e9)).size
 ·refine qi (cb q10) <| qo <| qe <| qj <| wr <| lp rfl (qb Tryz.underlying58 rfl Tryz.sizeOf3 rfl rfl) <| lp rfl (qz Tryz.isAgg3 (Blk.ext k6 e9) rfl rfl) <| lp rfl (j6 rfl rfl) <| lp rfl (xm (.bool (!decide (a1.kind = 3))) rfl) <| jI 3 [(21, 24)] 23 (.bool ((!decide (a1.kind = 3)) || a1.opq)) ?_ ?_
  ·rcases ql (!decide (a1.kind = 3)) with b15_ | b15_
   ·exact ls rfl rfl rfl (cb b15_) rfl <| ls rfl rfl rfl (cb b15_) rfl <| lp rfl (qu (b := true) (v := (.bool true)) (cb b15_) rfl) <| nx ⟨(ku3 kz rfl), (Jo b15_), er⟩
   ·exact lg rfl rfl rfl rfl (cb b15_) (qb Tryz.underlying58 rfl Tryz.sizeOf4 rfl rfl) <| lg rfl rfl rfl rfl (cb b15_) (qz Tryz.isAgg4 (Blk.ext k6 e9) rfl rfl) <| lp rfl (qu (b := false) (v := (.bool a1.opq)) (cb b15_) rfl) <| nx ⟨(ku3 kz rfl), (Jn b15_), er⟩
  intro s21 w17 K18 h19 e20
  refine lp rfl (qf h19) ?_
  obtain ⟨z23, x24, H⟩ := bind_some H
  refine yk 11 [(25, 36)] 35 (fun q => q = z23) ?_ ?_
  ·rcases qd x24 with ⟨b21_, H⟩ | ⟨b21_, H⟩
   ·refine ls rfl rfl rfl (cb b21_) rfl <| ls rfl rfl rfl (cb b21_) rfl <| ls rfl rfl rfl (cb b21_) rfl <| lu rfl rfl rfl rfl rfl <| lu rfl rfl rfl rfl rfl <| lu rfl rfl rfl rfl rfl <| lu rfl rfl rfl rfl rfl <| lu rfl rfl rfl rfl rfl <| lu rfl rfl rfl rfl rfl <| ls rfl rfl rfl (cb b21_) rfl <| lp rfl (qu (b := true) (v := (.bool true)) (cb b21_) rfl) ?_
    obtain rfl := si H
    exact nx ⟨(ku3 (ku8 kz rfl) rfl), ⟨_, rfl, rfl⟩, er⟩
   ·refine lg rfl rfl rfl rfl (cb b21_) (xm (.int .i64 (vd a0 a1.path)) (K18 5 rfl)) <| lg rfl rfl rfl rfl (cb b21_) (VQ rfl rfl) <| lg rfl rfl rfl rfl (cb b21_) (xm (.bool (decide (0 ≤ (vd a0 a1.path)))) rfl) ?_
    obtain ⟨z24, x25, H⟩ := bind_some H
    refine yk 7 [(28, 35)] 34 (fun q => q = z24) ?_ ?_
    ·rcases qd x25 with ⟨b22_, H⟩ | ⟨b22_, H⟩
     ·refine lg rfl rfl rfl rfl (cb b22_) (xm v_a0 (K18 0 rfl)) <| lg rfl rfl rfl rfl (cb b22_) (xm (.int .i64 (vd a0 a1.path)) (K18 5 rfl)) ?_
      obtain ⟨c24, H⟩ := qa H
      refine q4 (tg rfl rfl rfl (cb b22_)) rfl (ltb rfl) rfl Tryz.underlying29 Tryz.sizeOf60 rfl (Rd.ext f_a0 ((e5.t e9).t e20)) rfl c24 <| fun p25 h26 => lg rfl rfl rfl rfl (cb b22_) (qb Tryz.underlying60 rfl Tryz.sizeOf3 rfl rfl) <| lg rfl rfl rfl rfl (cb b22_) (vT Tryz.isAgg3 (j := 0) h26 rfl rfl) <| lg rfl rfl rfl rfl (cb b22_) (j6 rfl rfl) <| lg rfl rfl rfl rfl (cb b21_) (qu (b := true) (v := (.bool (!decide (((gt a0 (vd a0 a1.path)).kind) = 3)))) (cb b22_) rfl) ?_
      obtain rfl := si H
      exact nx ⟨(ku3 (ku4 kz rfl) rfl), ⟨_, rfl, rfl⟩, er⟩
     ·refine ls rfl rfl rfl (cb b22_) rfl <| ls rfl rfl rfl (cb b22_) rfl <| ls rfl rfl rfl (cb b22_) rfl <| ls rfl rfl rfl (cb b22_) rfl <| ls rfl rfl rfl (cb b22_) rfl <| ls rfl rfl rfl (cb b22_) rfl <| lg rfl rfl rfl rfl (cb b21_) (qu (b := false) (v := (.bool false)) (cb b22_) rfl) ?_
      obtain rfl := si H
      exact nx ⟨(ku3 (ku4 kz rfl) rfl), ⟨_, rfl, rfl⟩, er⟩
    intro s30 w26 z31 K27 hq h28 e29
    rw [hq] at h28; clear hq
    refine lp rfl (qu (b := false) (v := (.bool z24)) ((K27 24 rfl).trans (cb b21_)) h28) ?_
    obtain rfl := si H
    exact nx ⟨(ku1 (Kp.cut (ku3 kz rfl) K27 rfl) rfl), ⟨_, rfl, rfl⟩, e29⟩
  intro s32 w25 z33 K26 hq h27 e28
  rw [hq] at h27; clear hq
  refine nx ?_
  rcases qd H with ⟨q34, H⟩ | ⟨q34, H⟩
  ·refine qk (h27.trans (cb q34)) <| qG <| lp rfl (xm v_a0 ((K26 0 rfl).trans (K18 0 rfl))) <| lp rfl (qb Tryz.underlying58 rfl Tryz.sizeOf9 rfl ((K26 3 rfl).trans (K18 3 rfl))) <| lp rfl (qz Tryz.isAgg9 (Blk.ext k6 ((e9.t e20).t e28)) rfl rfl) ?_
   obtain ⟨c35, H⟩ := qa H
   refine vp (.plain rfl) rfl (ltb rfl) rfl Tryz.call170 (vR.calls (w := w25) (a0 := a0) (a1 := a1.path) (a2 := false) (Rd.ext f_a0 (((e5.t e9).t e20).t e28)) (od c35)) rfl <| fun v38 w36 e37 o39 => lp rfl (xa v38 rfl) <| nx <| wr <| lp rfl (xm v38 rfl) <| lp rfl (qW Tryz.isAgg58 Tryz.sizeOf58 rfl ((K26 3 rfl).trans (K18 3 rfl)) (Blk.at0 (Blk.ext k6 (((e9.t e20).t e28).t e37)))) <| lc rfl rfl Tryz.call203 (Qq.calls (w := w36) (a0 := a1)) rfl <| fun w40 e41 => ?_
   obtain ⟨c42, H⟩ := qa H
   obtain ⟨c43, H⟩ := qa H
   obtain ⟨c44, H⟩ := qa H
   refine vp (.plain rfl) rfl (ltb rfl) rfl Tryz.call163 (qZ.calls (w := w40) (a0 := (ye a0 a1.path false)) (a1 := (jP a1)) (Ow.rd (Ow.ext o39 e41)) (od c42) (od c43) (od c44)) rfl <| fun v47 w45 e46 o48 => lp rfl (xa v47 rfl) <| nx <| qn <| qt ?_
   obtain rfl := si H
   exact Qi rfl ((((((e5.t e9).t e20).t e28).t e37).t e41).t e46) o48 ((((((e5.t e9).t e20).t e28).t e37).t e41)).size
  ·refine qi (h27.trans (cb q34)) <| qo <| qe <| wr <| lp rfl (xm v_a0 ((K26 0 rfl).trans (K18 0 rfl))) <| lp rfl (qW Tryz.isAgg58 Tryz.sizeOf58 rfl ((K26 3 rfl).trans (K18 3 rfl)) (Blk.at0 (Blk.ext k6 ((e9.t e20).t e28)))) <| lc rfl rfl Tryz.call203 (Qq.calls (w := w25) (a0 := a1)) rfl <| fun w49 e50 => ?_
   obtain ⟨c51, H⟩ := qa H
   obtain ⟨c52, H⟩ := qa H
   obtain ⟨c53, H⟩ := qa H
   refine vp (.plain rfl) rfl (ltb rfl) rfl Tryz.call163 (qZ.calls (w := w49) (a0 := a0) (a1 := (jP a1)) (Rd.ext f_a0 ((((e5.t e9).t e20).t e28).t e50)) (od c51) (od c52) (od c53)) rfl <| fun v56 w54 e55 o57 => lp rfl (xa v56 rfl) <| nx <| qn <| qt ?_
   obtain rfl := si H
   exact Qi rfl (((((e5.t e9).t e20).t e28).t e50).t e55) o57 (((((e5.t e9).t e20).t e28).t e50)).size
/-! spec.l05Apply -/
theorem yp.calls {w : World} {a0 : List Rec} {a1 : List Nd} {v_a0 : Value} (f_a0 : Rd 5 qg w v_a0 a0) {v_a1 : Value} (f_a1 : Rd 4 qr w v_a1 a1) (h0 : a0.length ≤ 16) (h1 : a1.length ≤ 1000) (h2 : okT a0 a1 = true) :
  Calls Tryz.prog 140 #[v_a0, v_a1] w (Rt (RO 60 4 qr w (vC a0 a1))) := by
 obtain ⟨k, H⟩ := yp.eq a0 a1 h0 h1 h2
 generalize (vC a0 a1) = r at H ⊢
 unfold yp.sh at H
 refine qh Tryz.func140 rfl (Nat.le_of_ble_eq_true rfl) Tryz.ntmps140 rfl ?_
 refine wr <| lp rfl (xa (.slice none 0 0) rfl) <| nx <| wr <| vO (.plain rfl) rfl (ltb rfl) rfl Tryz.underlying29 Tryz.sizeOf60 Tryz.zeroValue60 rfl rfl rfl (vs := []) rfl (qR rfl) <| fun b1 w2 z3 z4 e5 k6 => lp rfl (xm v_a1 rfl) ?_
 obtain ⟨c7, H⟩ := qa H
 refine vW (enc := qr) (.plain rfl) rfl (ltb rfl) rfl El.t29 rfl rfl (Ow.zero (base := w2.heap.size) (w := w2)) (Rd.ext f_a1 e5) (QV _) (od c7) (Nat.le_refl _) <| fun v8 w9 o10 z11 g12 => lp rfl (xa v8 rfl) <| nx <| qj <| wr <| lp rfl (xa (.int .i64 0) rfl) <| nx ?_
 obtain ⟨z16, L17, C18⟩ := bind_some H
 clear H
 refine  vD (fun s0 sQ wQ => ∃ (x1_19 : List Nd) (v20 : Value), Kp [(1, 2), (5, 6), (9, 21)] s0 sQ ∧ sQ 1 = v20 ∧ Ow 60 4 qr w2.heap.size wQ v20 x1_19 ∧ Ext w9 wQ ∧ z16 = .inr x1_19) ?_ ?_
 ·refine qB <| vo (fun s0 kk sQ wQ => ∃ (x1_13 : List Nd) (v14 : Value) (x5_15 : Int), Kp [(1, 2), (5, 6), (9, 21)] s0 sQ ∧ sQ 1 = v14 ∧ Ow 60 4 qr w2.heap.size wQ v14 x1_13 ∧ sQ 5 = .int .i64 x5_15 ∧ Ext w9 wQ ∧ qp (yp.b1 a0) kk (x1_13, x5_15) = some z16) k ⟨([] : List Nd) ++ a1, v8, 0, kz, rfl, o10, rfl, er, L17⟩ ?_
  rintro k25 s26 w27 ⟨x1_13, v14, x5_15, K28, h31, h32, h33, e29, L30⟩
  cases k25 with
  | zero => exact absurd L30 (by simp [qp])
  | succ k25 =>
   obtain ⟨t34, H, S35⟩ := qK L30
   clear L30
   unfold yp.b1 at H
   refine qj <| wr <| lp rfl (qf h33) <| lp rfl (xm v_a0 (K28 0 rfl)) <| lp rfl (qO Tryz.underlying35 rfl (Rd.ext f_a0 ((e5.t (g12 _ er)).t e29))) <| lp rfl (yl rfl rfl) <| nx ?_
   rcases qd H with ⟨q36, H⟩ | ⟨q36, H⟩
   ·refine qk (cb q36) <| qo <| qe <| qj <| qB <| qG <| lp rfl (qf h31) <| lp rfl (xm v_a0 (K28 0 rfl)) <| lp rfl (qf h33) ?_
    obtain ⟨c37, H⟩ := qa H
    refine q4 (.plain rfl) rfl (ltb rfl) rfl Tryz.underlying35 Tryz.sizeOf58 rfl (Rd.ext f_a0 ((e5.t (g12 _ er)).t e29)) rfl c37 <| fun p38 h39 => lp rfl (qW Tryz.isAgg58 Tryz.sizeOf58 rfl rfl h39) ?_
    obtain ⟨c40, H⟩ := qa H
    obtain ⟨c41, H⟩ := qa H
    obtain ⟨c42, H⟩ := qa H
    refine vp (.plain rfl) rfl (ltb rfl) rfl Tryz.call223 (Vk.calls (w := w27) (a0 := x1_13) (a1 := gt a0 x5_15) (Ow.rd h32) (od c40) (od c41) (od c42)) rfl <| fun v45 w43 e44 o46 => lp rfl (xa v45 rfl) <| qJ <| vk <| qe <| qG <| lp rfl (qf h33) <| lp rfl (vi rfl rfl) <| lp rfl (xa (.int .i64 (IntKind.wrap .i64 (x5_15 + 1))) rfl) <| nx ?_
    obtain rfl := si H
    exact ⟨_, Nat.lt_succ_self _, (doS x1_13 (gt a0 x5_15)), v45, IntKind.wrap .i64 (x5_15 + 1), (ku2 (ku4 (ku8 K28 rfl) rfl) rfl), rfl, (Ow.base o46 (Ext.trans (g12 _ er) e29).size), rfl, (e29.t e44), S35⟩
   ·refine qi (cb q36) <| vH <| qY <| qY <| yF <| qe ?_
    obtain rfl := si H
    obtain rfl := si S35
    exact ⟨x1_13, v14, (ku4 K28 rfl), h31, h32, e29, rfl⟩
 ·rintro s22 w21 ⟨x1_19, v20, K23, h47, h48, e24, y49⟩
  rw [y49] at C18
  have H := C18
  replace H : _ = some _ := H
  refine qe <| wr <| lp rfl (qf h47) <| lp rfl (xa v20 rfl) <| nx <| qn <| qt ?_
  obtain rfl := si H
  exact Qi rfl ((e5.t (g12 _ er)).t e24) h48 (e5).size
/-! (impl.Record).node -/
theorem Qc.calls {w : World} {a0 : Rec} :
  Calls Tryz.prog 211 #[.agg (qg a0).toArray] w (Rt (RP w (.agg (qr (jP a0)).toArray))) := by
 have H := Qc.eq a0
 generalize (jP a0) = r at H ⊢
 unfold Qc.sh at H
 refine VB Tryz.func211 rfl (Nat.le_of_ble_eq_true rfl) Tryz.ntmps211 ?_
 refine wr <| j0 (.plain rfl) rfl (ltb rfl) rfl rfl <| fun b1 w2 z3 z4 e5 k6 => QA (.plain rfl) rfl (ltb rfl) rfl Tryz.zeroValue60 <| fun b7 w8 z9 z10 e11 k12 => nx <| wr <| lp rfl (qb Tryz.underlying58 rfl Tryz.sizeOf3 rfl rfl) <| lp rfl (qz Tryz.isAgg3 (Blk.ext k6 e11) rfl rfl) <| lp rfl (qb Tryz.underlying58 rfl Tryz.sizeOf9 rfl rfl) <| lp rfl (qz Tryz.isAgg9 (Blk.ext k6 e11) rfl rfl) <| lp rfl (qb Tryz.underlying58 rfl Tryz.sizeOf9 rfl rfl) <| lp rfl (qz Tryz.isAgg9 (Blk.ext k6 e11) rfl rfl) <| lp rfl (qb Tryz.underlying58 rfl Tryz.sizeOf3 rfl rfl) <| lp rfl (qz Tryz.isAgg3 (Blk.ext k6 e11) rfl rfl) <| lp rfl (Q0 (vs := [(0, (.int .i64 a0.kind)), (1, (S a0.path)), (2, (S a0.body)), (3, (.int .i64 a0.mode))]) (pl := #[(0, 1), (1, 1), (2, 1), (3, 1)]) Tryz.underlying60 Tryz.zeroValue60 rfl (fun _ => by kernel_rfl) rfl rfl rfl) <| ji (.plain rfl) rfl rfl Tryz.sizeOf60 rfl rfl rfl rfl rfl k12 <| fun w13 h14 k15 => nx <| qn <| YC ?_
 obtain rfl := si H
 exact finC1 rfl rfl k15 Tryz.isAgg60 Tryz.sizeOf60 rfl (e5.t (Below.trans e11 (Wr.below h14 (Nat.le_of_eq z9))))
/-! impl.apply -/
theorem jd.calls {w : World} {a0 : List Rec} {a1 : List Nd} (gv : GV 0 w) {v_a0 : Value} (f_a0 : Rd 5 qg w v_a0 a0) {v_a1 : Value} (f_a1 : Rd 4 qr w v_a1 a1) (h0 : a0.length ≤ 16) (h1 : a1.length ≤ 1000) (h2 : okT a0 a1 = true) :
  Calls Tryz.prog 128 #[v_a0, v_a1] w (Rt (RO 60 4 qr w (vC a0 a1))) := by
 obtain ⟨k, H⟩ := jd.eq a0 a1 h0 h1 h2
 generalize (vC a0 a1) = r at H ⊢
 unfold jd.sh at H
 refine qh Tryz.func128 rfl (Nat.le_of_ble_eq_true rfl) Tryz.ntmps128 rfl ?_
 refine wr <| lp rfl (xa (.slice none 0 0) rfl) <| nx <| wr <| lp rfl (xm v_a1 rfl) ?_
 obtain ⟨c1, H⟩ := qa H
 refine vp (.plain rfl) rfl (ltb rfl) rfl Tryz.call156 (V7.calls (w := w) (a0 := a1) f_a1 (od c1)) rfl <| fun v4 w2 e3 o5 => lp rfl (xa v4 rfl) <| nx <| qj <| wr <| lp rfl (xm v_a0 rfl) <| lp rfl (qO Tryz.underlying35 rfl (Rd.ext f_a0 e3)) <| lp rfl (xm (.int .i64 0) rfl) <| nx ?_
 obtain ⟨z9, L10, C11⟩ := bind_some H
 clear H
 refine  vD (fun s0 sQ wQ => ∃ (x5_12 : List Nd) (v13 : Value), Kp [(5, 6), (7, 9), (13, 59)] s0 sQ ∧ sQ 5 = v13 ∧ Ow 60 4 qr w.heap.size wQ v13 x5_12 ∧ Ext w wQ ∧ z9 = .inr x5_12) ?_ ?_
 ·refine qB <| vo (fun s0 kk sQ wQ => ∃ (x5_6 : List Nd) (v7 : Value) (x13_8 : Int), Kp [(5, 6), (7, 9), (13, 59)] s0 sQ ∧ sQ 5 = v7 ∧ Ow 60 4 qr w.heap.size wQ v7 x5_6 ∧ sQ 13 = .int .i64 x13_8 ∧ Ext w wQ ∧ qp (jd.b1 a0) kk (x5_6, x13_8) = some z9) k ⟨a1, v4, 0, kz, rfl, o5, rfl, e3, L10⟩ ?_
  rintro k18 s19 w20 ⟨x5_6, v7, x13_8, K21, h24, h25, h26, e22, L23⟩
  cases k18 with
  | zero => exact absurd L23 (by simp [qp])
  | succ k18 =>
   obtain ⟨t27, H, S28⟩ := qK L23
   clear L23
   unfold jd.b1 at H
   refine wr <| lp rfl (yl h26 (K21 12 rfl)) <| nx <| qj ?_
   rcases qd H with ⟨q29, H⟩ | ⟨q29, H⟩
   ·refine qk (cb q29) <| qo <| qe <| qj <| qB <| wr ?_
    obtain ⟨c30, H⟩ := qa H
    refine q4 (.plain rfl) rfl (ltb rfl) rfl Tryz.underlying35 Tryz.sizeOf58 (K21 11 rfl) (Rd.ext f_a0 e22) h26 c30 <| fun p31 h32 => lp rfl (qW Tryz.isAgg58 Tryz.sizeOf58 rfl rfl h32) <| QA (.plain rfl) rfl (ltb rfl) rfl Tryz.zeroValue58 <| fun b33 w34 z35 z36 e37 k38 => ji (.plain rfl) rfl rfl Tryz.sizeOf58 rfl rfl rfl rfl rfl k38 <| fun w39 h40 k41 => nx <| wr <| lp rfl (qf h24) <| lp rfl (qb Tryz.underlying58 rfl Tryz.sizeOf9 rfl rfl) <| lp rfl (qz Tryz.isAgg9 k41 rfl rfl) ?_
    obtain ⟨c42, H⟩ := qa H
    refine lc rfl rfl Tryz.call210 (YM.calls (w := w39) (a0 := x5_6) (a1 := (gt a0 x13_8).path) (Ow.rd (Ow.ext h25 (Below.trans e37 (Wr.below h40 (Nat.le_of_eq z35))))) (od c42)) rfl <| fun w43 e44 => lp rfl (xa (.int .i64 (vd x5_6 ((gt a0 x13_8).path))) rfl) <| nx <| qj <| wr <| lp rfl (qb Tryz.underlying58 rfl Tryz.sizeOf3 rfl rfl) <| lp rfl (qz Tryz.isAgg3 (Blk.ext k41 e44) rfl rfl) <| lp rfl (yn rfl rfl) <| lp rfl (xm (.bool (decide (((gt a0 x13_8).kind) = 3))) rfl) <| jI 4 [(25, 29)] 28 (.bool ((decide (((gt a0 x13_8).kind) = 3)) && (!((gt a0 x13_8).opq)))) ?_ ?_
    ·rcases ql (decide (((gt a0 x13_8).kind) = 3)) with b44_ | b44_
     ·exact lg rfl rfl rfl rfl (cb b44_) (qb Tryz.underlying58 rfl Tryz.sizeOf4 rfl rfl) <| lg rfl rfl rfl rfl (cb b44_) (qz Tryz.isAgg4 (Blk.ext k41 e44) rfl rfl) <| lg rfl rfl rfl rfl (cb b44_) (yM rfl) <| lp rfl (qu (b := true) (v := (.bool (!((gt a0 x13_8).opq)))) (cb b44_) rfl) <| nx ⟨(ku4 kz rfl), (VP b44_), er⟩
     ·exact ls rfl rfl rfl (cb b44_) rfl <| ls rfl rfl rfl (cb b44_) rfl <| ls rfl rfl rfl (cb b44_) rfl <| lp rfl (qu (b := false) (v := (.bool false)) (cb b44_) rfl) <| nx ⟨(ku4 kz rfl), (VS b44_), er⟩
    intro s50 w46 K47 h48 e49
    refine lp rfl (qf h48) <| jI 3 [(30, 33)] 32 (.bool (((decide (((gt a0 x13_8).kind) = 3)) && (!((gt a0 x13_8).opq))) && (decide (0 ≤ (vd x5_6 ((gt a0 x13_8).path)))))) ?_ ?_
    ·rcases ql ((decide (((gt a0 x13_8).kind) = 3)) && (!((gt a0 x13_8).opq))) with b50_ | b50_
     ·exact lg rfl rfl rfl rfl (cb b50_) (xm (.int .i64 (vd x5_6 ((gt a0 x13_8).path))) (K47 8 rfl)) <| lg rfl rfl rfl rfl (cb b50_) (VQ rfl rfl) <| lp rfl (qu (b := true) (v := (.bool (decide (0 ≤ (vd x5_6 ((gt a0 x13_8).path)))))) (cb b50_) rfl) <| nx ⟨(ku3 kz rfl), (VP b50_), er⟩
     ·exact ls rfl rfl rfl (cb b50_) rfl <| ls rfl rfl rfl (cb b50_) rfl <| lp rfl (qu (b := false) (v := (.bool false)) (cb b50_) rfl) <| nx ⟨(ku3 kz rfl), (VS b50_), er⟩
    intro s56 w52 K53 h54 e55
    refine lp rfl (qf h54) ?_
    obtain ⟨z58, x59, H⟩ := bind_some H
    refine yk 7 [(34, 41)] 40 (fun q => q = z58) ?_ ?_
    ·rcases qd x59 with ⟨b56_, H⟩ | ⟨b56_, H⟩
     ·refine lg rfl rfl rfl rfl (cb b56_) (xm v7 ((K53 5 rfl).trans ((K47 5 rfl).trans h24))) <| lg rfl rfl rfl rfl (cb b56_) (xm (.int .i64 (vd x5_6 ((gt a0 x13_8).path))) ((K53 8 rfl).trans (K47 8 rfl))) ?_
      obtain ⟨c58, H⟩ := qa H
      refine q4 (tg rfl rfl rfl (cb b56_)) rfl (ltb rfl) rfl Tryz.underlying29 Tryz.sizeOf60 rfl (Ow.rd (Ow.ext h25 (Ext.trans (Ext.trans (Ext.trans (Below.trans e37 (Wr.below h40 (Nat.le_of_eq z35))) e44) e49) e55))) rfl c58 <| fun p59 h60 => lg rfl rfl rfl rfl (cb b56_) (qb Tryz.underlying60 rfl Tryz.sizeOf3 rfl rfl) <| lg rfl rfl rfl rfl (cb b56_) (vT Tryz.isAgg3 (j := 0) h60 rfl rfl) <| lg rfl rfl rfl rfl (cb b56_) (yn rfl rfl) <| lp rfl (qu (b := true) (v := (.bool (decide (((gt x5_6 (vd x5_6 ((gt a0 x13_8).path))).kind) = 3)))) (cb b56_) rfl) ?_
      obtain rfl := si H
      exact nx ⟨(ku3 (ku4 kz rfl) rfl), ⟨_, rfl, rfl⟩, er⟩
     ·refine ls rfl rfl rfl (cb b56_) rfl <| ls rfl rfl rfl (cb b56_) rfl <| ls rfl rfl rfl (cb b56_) rfl <| ls rfl rfl rfl (cb b56_) rfl <| ls rfl rfl rfl (cb b56_) rfl <| ls rfl rfl rfl (cb b56_) rfl <| lp rfl (qu (b := false) (v := (.bool false)) (cb b56_) rfl) ?_
      obtain rfl := si H
      exact nx ⟨(ku3 (ku4 kz rfl) rfl), ⟨_, rfl, rfl⟩, er⟩
    intro s64 w60 z65 K61 hq h62 e63
    rw [hq] at h62; clear hq
    refine nx ?_
    rcases qd H with ⟨q66, H⟩ | ⟨q66, H⟩
    ·refine qk (h62.trans (cb q66)) <| wr <| lp rfl (xm v7 ((K61 5 rfl).trans ((K53 5 rfl).trans ((K47 5 rfl).trans h24)))) <| lp rfl (xm (.int .i64 (vd x5_6 ((gt a0 x13_8).path))) ((K61 8 rfl).trans ((K53 8 rfl).trans (K47 8 rfl)))) <| lp rfl (qb Tryz.underlying58 rfl Tryz.sizeOf3 rfl ((K61 7 rfl).trans ((K53 7 rfl).trans (K47 7 rfl)))) <| lp rfl (qz Tryz.isAgg3 (Blk.ext k41 (((e44.t e49).t e55).t e63)) rfl rfl) ?_
     obtain ⟨c69, H⟩ := qa H
     refine L_idxO (.plain rfl) rfl (ltb rfl) rfl Tryz.underlying29 Tryz.sizeOf60 rfl (Ow.ext h25 (Ext.trans (Ext.trans (Ext.trans (Ext.trans (Below.trans e37 (Wr.below h40 (Nat.le_of_eq z35))) e44) e49) e55) e63)) rfl c69 <| fun p67 h68 => lp rfl (qb Tryz.underlying60 rfl Tryz.sizeOf3 rfl rfl) <| Gs (a := (⟨(gt x5_6 (vd x5_6 ((gt a0 x13_8).path))).kind, (gt x5_6 (vd x5_6 ((gt a0 x13_8).path))).path, (gt x5_6 (vd x5_6 ((gt a0 x13_8).path))).body, (gt a0 x13_8).mode⟩ : Nd)) (vs := [(.int .i64 ((gt a0 x13_8).mode))]) (off := 3) (.plain rfl) rfl rfl Tryz.sizeOf3 rfl h68 rfl rfl rfl rfl rfl rfl <| fun b70 w71 h72 h73 h74 o75 => nx <| vH <| qY <| yF <| qe <| qG <| lp rfl (vi ((K61 13 rfl).trans ((K53 13 rfl).trans ((K47 13 rfl).trans h26))) rfl) <| lp rfl (xm (.int .i64 (IntKind.wrap .i64 (x13_8 + 1))) rfl) <| nx ?_
     obtain rfl := si H
     exact ⟨_, Nat.lt_succ_self _, Y2 x5_6 (vd x5_6 ((gt a0 x13_8).path)) (⟨(gt x5_6 (vd x5_6 ((gt a0 x13_8).path))).kind, (gt x5_6 (vd x5_6 ((gt a0 x13_8).path))).path, (gt x5_6 (vd x5_6 ((gt a0 x13_8).path))).body, (gt a0 x13_8).mode⟩ : Nd), v7, IntKind.wrap .i64 (x13_8 + 1), (ku8 (Kp.cut (ku1 (Kp.cut (ku1 (Kp.cut (ku1 (ku4 (ku8 K21 rfl) rfl) rfl) K47 rfl) rfl) K53 rfl) rfl) K61 rfl) rfl), ((K61 5 rfl).trans ((K53 5 rfl).trans ((K47 5 rfl).trans h24))), o75, rfl, (Ext.wr (((((e22.t (Below.trans e37 (Wr.below h40 (Nat.le_of_eq z35)))).t e44).t e49).t e55).t e63) h74 h73 (Nat.le_refl _)), S28⟩
    ·refine qi (h62.trans (cb q66)) <| qo <| qe <| wr <| lp rfl (xm v7 ((K61 5 rfl).trans ((K53 5 rfl).trans ((K47 5 rfl).trans h24)))) <| lp rfl (qb Tryz.underlying58 rfl Tryz.sizeOf9 rfl ((K61 7 rfl).trans ((K53 7 rfl).trans (K47 7 rfl)))) <| lp rfl (qz Tryz.isAgg9 (Blk.ext k41 (((e44.t e49).t e55).t e63)) rfl rfl) ?_
     obtain ⟨c76, H⟩ := qa H
     obtain ⟨c77, H⟩ := qa H
     refine vp (.plain rfl) rfl (ltb rfl) rfl Tryz.call169 (impl_removed.calls (w := w60) (a0 := x5_6) (a1 := (gt a0 x13_8).path) (Ow.rd (Ow.ext h25 (Ext.trans (Ext.trans (Ext.trans (Ext.trans (Below.trans e37 (Wr.below h40 (Nat.le_of_eq z35))) e44) e49) e55) e63))) (od c76) (od c77)) rfl <| fun v80 w78 e79 o81 => lp rfl (xa v80 rfl) <| nx <| wr <| lp rfl (qb Tryz.underlying58 rfl Tryz.sizeOf3 rfl ((K61 7 rfl).trans ((K53 7 rfl).trans (K47 7 rfl)))) <| lp rfl (qz Tryz.isAgg3 (Blk.ext k41 ((((e44.t e49).t e55).t e63).t e79)) rfl rfl) <| lp rfl (j6 rfl rfl) <| nx ?_
     rcases qd H with ⟨q82, H⟩ | ⟨q82, H⟩
     ·refine qk (cb q82) <| qG <| lp rfl (xm v80 rfl) <| lp rfl (qW Tryz.isAgg58 Tryz.sizeOf58 rfl ((K61 7 rfl).trans ((K53 7 rfl).trans (K47 7 rfl))) (Blk.at0 (Blk.ext k41 ((((e44.t e49).t e55).t e63).t e79)))) <| lc rfl rfl Tryz.call211 (Qc.calls (w := w78) (a0 := (gt a0 x13_8))) rfl <| fun w83 e84 => ?_
      obtain ⟨c85, H⟩ := qa H
      obtain ⟨c86, H⟩ := qa H
      obtain ⟨c87, H⟩ := qa H
      obtain ⟨c88, H⟩ := qa H
      refine vp (.plain rfl) rfl (ltb rfl) rfl Tryz.call157 (impl_place.calls (w := w83) (a0 := (ye x5_6 ((gt a0 x13_8).path) true)) (a1 := (jP (gt a0 x13_8))) (GV.ext gv (((((((e22.t (Below.trans e37 (Wr.below h40 (Nat.le_of_eq z35)))).t e44).t e49).t e55).t e63).t e79).t e84)) (Ow.rd (Ow.ext o81 e84)) (od c85) (od c86) (od c87) (od c88)) rfl <| fun v91 w89 e90 o92 => lp rfl (xa v91 rfl) <| qJ <| vk <| qe <| qG <| lp rfl (vi ((K61 13 rfl).trans ((K53 13 rfl).trans ((K47 13 rfl).trans h26))) rfl) <| lp rfl (xm (.int .i64 (IntKind.wrap .i64 (x13_8 + 1))) rfl) <| nx ?_
      obtain rfl := si H
      exact ⟨_, Nat.lt_succ_self _, (Qx (ye x5_6 ((gt a0 x13_8).path) true) (jP (gt a0 x13_8))), v91, IntKind.wrap .i64 (x13_8 + 1), (ku3 (ku4 (ku8 (Kp.cut (ku1 (Kp.cut (ku1 (Kp.cut (ku1 (ku4 (ku8 K21 rfl) rfl) rfl) K47 rfl) rfl) K53 rfl) rfl) K61 rfl) rfl) rfl) rfl), rfl, (Ow.base o92 (((((((e22.t (Below.trans e37 (Wr.below h40 (Nat.le_of_eq z35)))).t e44).t e49).t e55).t e63).t e79).t e84).size), rfl, ((((((((e22.t (Below.trans e37 (Wr.below h40 (Nat.le_of_eq z35)))).t e44).t e49).t e55).t e63).t e79).t e84).t e90), S28⟩
     ·refine qi (cb q82) <| qo <| vk <| qe <| qG <| lp rfl (vi ((K61 13 rfl).trans ((K53 13 rfl).trans ((K47 13 rfl).trans h26))) rfl) <| lp rfl (xm (.int .i64 (IntKind.wrap .i64 (x13_8 + 1))) rfl) <| nx ?_
      obtain rfl := si H
      exact ⟨_, Nat.lt_succ_self _, (ye x5_6 ((gt a0 x13_8).path) true), v80, IntKind.wrap .i64 (x13_8 + 1), (ku2 (ku8 (Kp.cut (ku1 (Kp.cut (ku1 (Kp.cut (ku1 (ku4 (ku8 K21 rfl) rfl) rfl) K47 rfl) rfl) K53 rfl) rfl) K61 rfl) rfl) rfl), rfl, (Ow.base o81 (((((e22.t (Below.trans e37 (Wr.below h40 (Nat.le_of_eq z35)))).t e44).t e49).t e55).t e63).size), rfl, ((((((e22.t (Below.trans e37 (Wr.below h40 (Nat.le_of_eq z35)))).t e44).t e49).t e55).t e63).t e79), S28⟩
   ·refine qi (cb q29) <| vH <| qY <| qY <| yF <| qe ?_
    obtain rfl := si H
    obtain rfl := si S28
    exact ⟨x5_6, v7, (ku1 K21 rfl), h24, h25, e22, rfl⟩
 ·rintro s15 w14 ⟨x5_12, v13, K16, h93, h94, e17, y95⟩
  rw [y95] at C11
  have H := C11
  replace H : _ = some _ := H
  refine qe <| wr <| lp rfl (qf h93) <| lp rfl (xa v13 rfl) <| nx <| qn <| qt ?_
  obtain rfl := si H
  exact Qi rfl e17 h94 (er).size
/-! impl.Apply -/
theorem Qv.walk {w : World} {a0 : List Rec} {a1 : List Nd} (gv : GV 0 w) {v_a0 : Value} (f_a0 : Rd 5 qg w v_a0 a0) {v_a1 : Value} (f_a1 : Rd 4 qr w v_a1 a1) {r : List Nd × Int} (H : Qv.sh a0 a1 = some r) :
  Calls Tryz.prog 34 #[v_a0, v_a1] w (Rt (RT 60 4 qr w r.1 (.int .i64 r.2))) := by
 unfold Qv.sh at H
 refine qh Tryz.func34 rfl (Nat.le_of_ble_eq_true rfl) Tryz.ntmps34 rfl ?_
 refine wr <| lp rfl (xa (.slice none 0 0) rfl) <| lp rfl (xa (.int .i64 0) rfl) <| nx <| qj <| wr <| lp rfl (xm v_a0 rfl) <| lc rfl rfl Tryz.call126 (yO.calls (w := w) (a0 := a0) f_a0) rfl <| fun w1 e2 => lp rfl (xm (.bool (decide (4096 < a0.length))) rfl) <| jI 3 [(11, 14)] 13 (.bool ((decide (4096 < a0.length)) || (decide (4096 < a1.length)))) ?_ ?_
 ·rcases ql (decide (4096 < a0.length)) with b2_ | b2_
  ·exact ls rfl rfl rfl (cb b2_) rfl <| ls rfl rfl rfl (cb b2_) rfl <| lp rfl (qu (b := true) (v := (.bool true)) (cb b2_) rfl) <| nx ⟨(ku3 kz rfl), (Jo b2_), er⟩
  ·exact lg rfl rfl rfl rfl (cb b2_) (xm v_a1 rfl) <| vy (tg rfl rfl rfl (cb b2_)) rfl (ltb rfl) rfl Tryz.call127 (jp.calls (w := w1) (a0 := a1) (Rd.ext f_a1 e2)) rfl <| fun w4 e5 => lp rfl (qu (b := false) (v := (.bool (decide (4096 < a1.length)))) (cb b2_) rfl) <| nx ⟨(ku3 kz rfl), (Jn b2_), e5⟩
 intro s8 w4 K5 h6 e7
 refine lp rfl (vl Tryz.underlying4 rfl h6) <| lp rfl (vl Tryz.underlying3 rfl rfl) <| lp rfl (xm v_a0 (K5 0 rfl)) ?_
 obtain ⟨c9, H⟩ := qa H
 obtain ⟨c10, H⟩ := qa H
 refine lc rfl rfl Tryz.call50 (jv.calls (w := w4) (a0 := a0) (GV.ext gv (e2.t e7)) (Rd.ext f_a0 (e2.t e7)) (od c9) (od c10)) rfl <| fun w11 e12 => lp rfl (yM rfl) <| lp rfl (xm (.bool (!(decide ((qU a0).2 = 0)))) rfl) ?_
 obtain ⟨z14, x15, H⟩ := bind_some H
 refine yk 4 [(20, 24)] 23 (fun q => q = z14) ?_ ?_
 ·rcases qd x15 with ⟨b12_, H⟩ | ⟨b12_, H⟩
  ·refine ls rfl rfl rfl (cb b12_) rfl <| ls rfl rfl rfl (cb b12_) rfl <| ls rfl rfl rfl (cb b12_) rfl <| lp rfl (qu (b := true) (v := (.bool true)) (cb b12_) rfl) ?_
   obtain rfl := si H
   exact nx ⟨(ku4 kz rfl), ⟨_, rfl, rfl⟩, er⟩
  ·refine lg rfl rfl rfl rfl (cb b12_) (xm v_a1 (K5 1 rfl)) ?_
   obtain ⟨c14, H⟩ := qa H
   obtain ⟨c15, H⟩ := qa H
   refine vy (tg rfl rfl rfl (cb b12_)) rfl (ltb rfl) rfl Tryz.call43 (qM.calls (w := w11) (a0 := a1) (GV.ext gv ((e2.t e7).t e12)) (Rd.ext f_a1 ((e2.t e7).t e12)) (od c14) (od c15)) rfl <| fun w16 e17 => lg rfl rfl rfl rfl (cb b12_) (yM rfl) <| lp rfl (qu (b := false) (v := (.bool (!(jO a1)))) (cb b12_) rfl) ?_
   obtain rfl := si H
   exact nx ⟨(ku4 kz rfl), ⟨_, rfl, rfl⟩, e17⟩
 intro s20 w16 z21 K17 hq h18 e19
 rw [hq] at h18; clear hq
 refine lp rfl (vl Tryz.underlying4 rfl h18) <| lp rfl (vl Tryz.underlying3 rfl rfl) <| vO (.plain rfl) rfl (ltb rfl) rfl Tryz.underlying171 Tryz.sizeOf20 Tryz.zeroValue20 rfl rfl rfl (vs := [(.iface 4 (.bool ((decide (4096 < a0.length)) || (decide (4096 < a1.length))))), (.iface 3 (.int .i64 2)), (.iface 4 (.bool z14)), (.iface 3 (.int .i64 1))]) (vc (K17 14 rfl) (vc (K17 15 rfl) (vc rfl (vc rfl rfl)))) (qR rfl) <| fun b22 w23 z24 z25 e26 k27 => ?_
 obtain ⟨c28, H⟩ := qa H
 obtain ⟨z31, x32, H⟩ := bind_some H
 replace x32 := si x32
 refine lc rfl rfl Tryz.call125 (yS.calls (w := w23) (a0 := ([.inl ((decide (4096 < a0.length)) || (decide (4096 < a1.length))), .inr 2, .inl z14, .inr 1] : List (Bool ⊕ Int))) (Ow.rd (Ow.new (xs := [.inl ((decide (4096 < a0.length)) || (decide (4096 < a1.length))), .inr 2, .inl z14, .inr 1]) (sz := 1) (enc := (Vl 4 3)) (base := w16.heap.size) k27 (Nat.le_of_eq z24) rfl (fun _ _ => by first | rfl | exact VY _ _ _) (Nat.le_of_ble_eq_true rfl))) (od c28)) rfl <| fun w29 e30 => lp rfl (xa (.int .i64 z31) (congrArg (Value.int .i64) x32)) <| nx <| wr <| lp rfl (xm (.int .i64 z31) rfl) <| lp rfl (j6 rfl rfl) <| nx ?_
 rcases qd H with ⟨q33, H⟩ | ⟨q33, H⟩
 ·refine qk (cb q33) <| wr <| lp rfl (xm (.int .i64 z31) rfl) <| lp rfl (xa (.slice none 0 0) rfl) <| lp rfl (xa (.int .i64 z31) rfl) <| nx <| qn <| qw <| qt ?_
  obtain rfl := si H
  exact QW rfl rfl (((((e2.t e7).t e12).t e19).t e26).t e30) (Ow.zero (base := w.heap.size)) (Nat.le_refl _)
 ·refine qi (cb q33) <| qo <| qe <| wr <| lp rfl (xm v_a0 ((K17 0 rfl).trans (K5 0 rfl))) <| lp rfl (xm v_a1 ((K17 1 rfl).trans (K5 1 rfl))) ?_
  obtain ⟨c34, H⟩ := qa H
  obtain ⟨c35, H⟩ := qa H
  obtain ⟨c36, H⟩ := qa H
  refine vp (.plain rfl) rfl (ltb rfl) rfl Tryz.call128 (jd.calls (w := w29) (a0 := a0) (a1 := a1) (GV.ext gv (((((e2.t e7).t e12).t e19).t e26).t e30)) (Rd.ext f_a0 (((((e2.t e7).t e12).t e19).t e26).t e30)) (Rd.ext f_a1 (((((e2.t e7).t e12).t e19).t e26).t e30)) (od c34) (od c35) (od c36)) rfl <| fun v39 w37 e38 o40 => lp rfl (xa v39 rfl) <| nx <| qj <| wr <| lp rfl (xm v39 rfl) <| lp rfl (qO Tryz.underlying29 rfl (Ow.rd o40)) <| lp rfl (jJ rfl rfl) <| nx ?_
  rcases qd H with ⟨q41, H⟩ | ⟨q41, H⟩
  ·refine qk (cb q41) <| wr <| lp rfl (xa (.slice none 0 0) rfl) <| lp rfl (xa (.int .i64 7) rfl) <| nx <| qn <| qw <| qt ?_
   obtain rfl := si H
   exact QW rfl rfl ((((((e2.t e7).t e12).t e19).t e26).t e30).t e38) (Ow.zero (base := w.heap.size)) (Nat.le_refl _)
  ·refine qi (cb q41) <| qo <| qe <| wr <| lp rfl (xm v39 rfl) <| lp rfl (xa v39 rfl) <| lp rfl (xa (.int .i64 0) rfl) <| nx <| qn <| qt ?_
   obtain rfl := si H
   exact QW rfl rfl ((((((e2.t e7).t e12).t e19).t e26).t e30).t e38) o40 ((((((e2.t e7).t e12).t e19).t e26).t e30)).size
theorem Qv.calls {w : World} {a0 : List Rec} {a1 : List Nd} (gv : GV 0 w) {v_a0 : Value} (f_a0 : Rd 5 qg w v_a0 a0) {v_a1 : Value} (f_a1 : Rd 4 qr w v_a1 a1) (h0 : a0.length ≤ 1048576) (h1 : a1.length ≤ 1048576) (h2 : ∀ x ∈ a0, x.path.length ≤ 1048576) (h3 : ∀ x ∈ a1, x.path.length ≤ 1048576) :
  Calls Tryz.prog 34 #[v_a0, v_a1] w (Rt (RT 60 4 qr w ((QB a0 a1).1) (.int .i64 ((QB a0 a1).2)))) := Qv.walk gv f_a0 f_a1 (Qv.eq a0 a1 h0 h1 h2 h3)
/-! spec.l05All -/
theorem yZ.calls {w : World} {a0 : List (List Rec)} {a1 : List Nd} {v_a0 : Value} (f_a0 : Rd2 5 qg w v_a0 a0) {v_a1 : Value} (f_a1 : Rd 4 qr w v_a1 a1) (h0 : a0.length ≤ 5) (h1 : a1.length ≤ 24) (h2 : okA a0 a1 = true) :
  Calls Tryz.prog 112 #[v_a0, v_a1] w (Rt (RO 60 4 qr w (jy a0 a1))) := by
 obtain ⟨k, H⟩ := yZ.eq a0 a1 h0 h1 h2
 generalize (jy a0 a1) = r at H ⊢
 unfold yZ.sh at H
 refine qh Tryz.func112 rfl (Nat.le_of_ble_eq_true rfl) Tryz.ntmps112 rfl ?_
 refine wr <| lp rfl (xa (.slice none 0 0) rfl) <| nx <| wr <| vO (.plain rfl) rfl (ltb rfl) rfl Tryz.underlying29 Tryz.sizeOf60 Tryz.zeroValue60 rfl rfl rfl (vs := []) rfl (qR rfl) <| fun b1 w2 z3 z4 e5 k6 => lp rfl (xm v_a1 rfl) ?_
 obtain ⟨c7, H⟩ := qa H
 refine vW (enc := qr) (.plain rfl) rfl (ltb rfl) rfl El.t29 rfl rfl (Ow.zero (base := w2.heap.size) (w := w2)) (Rd.ext f_a1 e5) (QV _) (od c7) (Nat.le_refl _) <| fun v8 w9 o10 z11 g12 => lp rfl (xa v8 rfl) <| nx <| qj <| wr <| lp rfl (xa (.int .i64 0) rfl) <| nx ?_
 obtain ⟨z16, L17, C18⟩ := bind_some H
 clear H
 refine  vD (fun s0 sQ wQ => ∃ (x1_19 : List Nd) (v20 : Value), Kp [(1, 2), (5, 6), (9, 21)] s0 sQ ∧ sQ 1 = v20 ∧ Ow 60 4 qr w2.heap.size wQ v20 x1_19 ∧ Ext w9 wQ ∧ z16 = .inr x1_19) ?_ ?_
 ·refine qB <| vo (fun s0 kk sQ wQ => ∃ (x1_13 : List Nd) (v14 : Value) (x5_15 : Int), Kp [(1, 2), (5, 6), (9, 21)] s0 sQ ∧ sQ 1 = v14 ∧ Ow 60 4 qr w2.heap.size wQ v14 x1_13 ∧ sQ 5 = .int .i64 x5_15 ∧ Ext w9 wQ ∧ qp (yZ.b1 a0) kk (x1_13, x5_15) = some z16) k ⟨([] : List Nd) ++ a1, v8, 0, kz, rfl, o10, rfl, er, L17⟩ ?_
  rintro k25 s26 w27 ⟨x1_13, v14, x5_15, K28, h31, h32, h33, e29, L30⟩
  cases k25 with
  | zero => exact absurd L30 (by simp [qp])
  | succ k25 =>
   obtain ⟨t34, H, S35⟩ := qK L30
   clear L30
   unfold yZ.b1 at H
   refine qj <| wr <| lp rfl (qf h33) <| lp rfl (xm v_a0 (K28 0 rfl)) <| lp rfl (Ym Tryz.underlying23 rfl (Rd2.ext f_a0 ((e5.t (g12 _ er)).t e29))) <| lp rfl (yl rfl rfl) <| nx ?_
   rcases qd H with ⟨q36, H⟩ | ⟨q36, H⟩
   ·refine qk (cb q36) <| qo <| qe <| qj <| qB <| qG <| lp rfl (xm v_a0 (K28 0 rfl)) <| lp rfl (qf h33) ?_
    obtain ⟨c37, H⟩ := qa H
    refine L_idx2 (.plain rfl) rfl (ltb rfl) rfl Tryz.underlying23 Tryz.sizeOf35 rfl (Rd2.ext f_a0 ((e5.t (g12 _ er)).t e29)) rfl c37 <| fun p38 v40 h39 h41 => lp rfl (yr Tryz.isAgg35 rfl h39 rfl) <| lp rfl (qf h31) ?_
    obtain ⟨c42, H⟩ := qa H
    obtain ⟨c43, H⟩ := qa H
    obtain ⟨c44, H⟩ := qa H
    refine vp (.plain rfl) rfl (ltb rfl) rfl Tryz.call140 (yp.calls (w := w27) (a0 := gt a0 x5_15) (a1 := x1_13) h41 (Ow.rd h32) (od c42) (od c43) (od c44)) rfl <| fun v47 w45 e46 o48 => lp rfl (xa v47 rfl) <| qJ <| vk <| qe <| qG <| lp rfl (qf h33) <| lp rfl (vi rfl rfl) <| lp rfl (xa (.int .i64 (IntKind.wrap .i64 (x5_15 + 1))) rfl) <| nx ?_
    obtain rfl := si H
    exact ⟨_, Nat.lt_succ_self _, (vC (gt a0 x5_15) x1_13), v47, IntKind.wrap .i64 (x5_15 + 1), (ku2 (ku4 (ku8 K28 rfl) rfl) rfl), rfl, (Ow.base o48 (Ext.trans (g12 _ er) e29).size), rfl, (e29.t e46), S35⟩
   ·refine qi (cb q36) <| vH <| qY <| qY <| yF <| qe ?_
    obtain rfl := si H
    obtain rfl := si S35
    exact ⟨x1_13, v14, (ku4 K28 rfl), h31, h32, e29, rfl⟩
 ·rintro s22 w21 ⟨x1_19, v20, K23, h49, h50, e24, y51⟩
  rw [y51] at C18
  have H := C18
  replace H : _ = some _ := H
  refine qe <| wr <| lp rfl (qf h49) <| lp rfl (xa v20 rfl) <| nx <| qn <| qt ?_
  obtain rfl := si H
  exact Qi rfl ((e5.t (g12 _ er)).t e24) h50 (e5).size
/-! spec.ApplyAll -/
theorem js.walk {w : World} {a0 : List (List Rec)} {a1 : List Nd} {v_a0 : Value} (f_a0 : Rd2 5 qg w v_a0 a0) {v_a1 : Value} (f_a1 : Rd 4 qr w v_a1 a1) {r : List Nd × Int} (H : js.sh a0 a1 = some r) :
  Calls Tryz.prog 36 #[v_a0, v_a1] w (Rt (RT 60 4 qr w r.1 (.int .i64 r.2))) := by
 unfold js.sh at H
 refine qh Tryz.func36 rfl (Nat.le_of_ble_eq_true rfl) Tryz.ntmps36 rfl ?_
 refine wr <| lp rfl (xa (.slice none 0 0) rfl) <| lp rfl (xa (.int .i64 0) rfl) <| nx <| qj <| wr <| lp rfl (xm v_a0 rfl) <| lp rfl (Ym Tryz.underlying23 rfl f_a0) <| lp rfl (jJ rfl rfl) <| lp rfl (xm (.bool (decide (4096 < (a0.length : Int)))) rfl) <| jI 4 [(11, 15)] 14 (.bool ((decide (4096 < (a0.length : Int))) || (decide (4096 < (a1.length : Int))))) ?_ ?_
 ·rcases ql (decide (4096 < (a0.length : Int))) with b0_ | b0_
  ·exact ls rfl rfl rfl (cb b0_) rfl <| ls rfl rfl rfl (cb b0_) rfl <| ls rfl rfl rfl (cb b0_) rfl <| lp rfl (qu (b := true) (v := (.bool true)) (cb b0_) rfl) <| nx ⟨(ku4 kz rfl), (Jo b0_), er⟩
  ·exact lg rfl rfl rfl rfl (cb b0_) (xm v_a1 rfl) <| lg rfl rfl rfl rfl (cb b0_) (qO Tryz.underlying29 rfl f_a1) <| lg rfl rfl rfl rfl (cb b0_) (jJ rfl rfl) <| lp rfl (qu (b := false) (v := (.bool (decide (4096 < (a1.length : Int))))) (cb b0_) rfl) <| nx ⟨(ku4 kz rfl), (Jn b0_), er⟩
 intro s6 w2 K3 h4 e5
 refine nx ?_
 rcases qd H with ⟨q7, H⟩ | ⟨q7, H⟩
 ·refine qk (h4.trans (cb q7)) <| wr <| vO (.plain rfl) rfl (ltb rfl) rfl Tryz.underlying29 Tryz.sizeOf60 Tryz.zeroValue60 rfl rfl rfl (vs := []) rfl (qR rfl) <| fun b8 w9 z10 z11 e12 k13 => lp rfl (xa (.slice (some ⟨b8, 0, none⟩) 0 0) rfl) <| lp rfl (xa (.int .i64 2) rfl) <| nx <| qn <| qw <| qt ?_
  obtain rfl := si H
  exact QW rfl rfl (e5.t e12) (Ow.zero (base := w.heap.size)) (Nat.le_refl _)
 ·refine qi (h4.trans (cb q7)) <| qo <| qe <| qj <| wr <| lp rfl (xm v_a0 (K3 0 rfl)) ?_
  obtain ⟨c14, H⟩ := qa H
  obtain ⟨c15, H⟩ := qa H
  obtain ⟨c16, H⟩ := qa H
  refine lc rfl rfl Tryz.call107 (yC.calls (w := w2) (a0 := a0) (Rd2.ext f_a0 e5) (od c14) (od c15) (od c16)) rfl <| fun w17 e18 => lp rfl (yM rfl) <| lp rfl (xm (.bool (!(jQ a0))) rfl) ?_
  obtain ⟨z20, x21, H⟩ := bind_some H
  refine yk 4 [(20, 24)] 23 (fun q => q = z20) ?_ ?_
  ·rcases qd x21 with ⟨b18_, H⟩ | ⟨b18_, H⟩
   ·refine ls rfl rfl rfl (cb b18_) rfl <| ls rfl rfl rfl (cb b18_) rfl <| ls rfl rfl rfl (cb b18_) rfl <| lp rfl (qu (b := true) (v := (.bool true)) (cb b18_) rfl) ?_
    obtain rfl := si H
    exact nx ⟨(ku4 kz rfl), ⟨_, rfl, rfl⟩, er⟩
   ·refine lg rfl rfl rfl rfl (cb b18_) (xm v_a1 (K3 1 rfl)) ?_
    obtain ⟨c20, H⟩ := qa H
    refine vy (tg rfl rfl rfl (cb b18_)) rfl (ltb rfl) rfl Tryz.call130 (qN.calls (w := w17) (a0 := a1) (Rd.ext f_a1 (e5.t e18)) (od c20)) rfl <| fun w21 e22 => lg rfl rfl rfl rfl (cb b18_) (yM rfl) <| lp rfl (qu (b := false) (v := (.bool (!(jO a1)))) (cb b18_) rfl) ?_
    obtain rfl := si H
    exact nx ⟨(ku4 kz rfl), ⟨_, rfl, rfl⟩, e22⟩
  intro s26 w22 z27 K23 hq h24 e25
  rw [hq] at h24; clear hq
  refine nx ?_
  rcases qd H with ⟨q28, H⟩ | ⟨q28, H⟩
  ·refine qk (h24.trans (cb q28)) <| wr <| vO (.plain rfl) rfl (ltb rfl) rfl Tryz.underlying29 Tryz.sizeOf60 Tryz.zeroValue60 rfl rfl rfl (vs := []) rfl (qR rfl) <| fun b29 w30 z31 z32 e33 k34 => lp rfl (xa (.slice (some ⟨b29, 0, none⟩) 0 0) rfl) <| lp rfl (xa (.int .i64 1) rfl) <| nx <| qn <| qw <| qt ?_
   obtain rfl := si H
   exact QW rfl rfl (((e5.t e18).t e25).t e33) (Ow.zero (base := w.heap.size)) (Nat.le_refl _)
  ·refine qi (h24.trans (cb q28)) <| qo <| qe <| wr <| lp rfl (xm v_a0 ((K23 0 rfl).trans (K3 0 rfl))) <| lp rfl (xm v_a1 ((K23 1 rfl).trans (K3 1 rfl))) ?_
   obtain ⟨c35, H⟩ := qa H
   obtain ⟨c36, H⟩ := qa H
   obtain ⟨c37, H⟩ := qa H
   refine vp (.plain rfl) rfl (ltb rfl) rfl Tryz.call112 (yZ.calls (w := w22) (a0 := a0) (a1 := a1) (Rd2.ext f_a0 ((e5.t e18).t e25)) (Rd.ext f_a1 ((e5.t e18).t e25)) (od c35) (od c36) (od c37)) rfl <| fun v40 w38 e39 o41 => lp rfl (xa v40 rfl) <| nx <| qj <| wr <| lp rfl (xm v40 rfl) <| lp rfl (qO Tryz.underlying29 rfl (Ow.rd o41)) <| lp rfl (jJ rfl rfl) <| nx ?_
   rcases qd H with ⟨q42, H⟩ | ⟨q42, H⟩
   ·refine qk (cb q42) <| wr <| vO (.plain rfl) rfl (ltb rfl) rfl Tryz.underlying29 Tryz.sizeOf60 Tryz.zeroValue60 rfl rfl rfl (vs := []) rfl (qR rfl) <| fun b43 w44 z45 z46 e47 k48 => lp rfl (xa (.slice (some ⟨b43, 0, none⟩) 0 0) rfl) <| lp rfl (xa (.int .i64 7) rfl) <| nx <| qn <| qw <| qt ?_
    obtain rfl := si H
    exact QW rfl rfl ((((e5.t e18).t e25).t e39).t e47) (Ow.zero (base := w.heap.size)) (Nat.le_refl _)
   ·refine qi (cb q42) <| qo <| qe <| wr <| lp rfl (xm v40 rfl) <| lp rfl (xa v40 rfl) <| lp rfl (xa (.int .i64 0) rfl) <| nx <| qn <| qt ?_
    obtain rfl := si H
    exact QW rfl rfl (((e5.t e18).t e25).t e39) o41 (((e5.t e18).t e25)).size
theorem js.calls {w : World} {a0 : List (List Rec)} {a1 : List Nd} {v_a0 : Value} (f_a0 : Rd2 5 qg w v_a0 a0) {v_a1 : Value} (f_a1 : Rd 4 qr w v_a1 a1) (h0 : a0.length ≤ 1048576) (h1 : ∀ l ∈ a0, l.length ≤ 1048576) (h2 : ∀ l ∈ a0, ∀ x ∈ l, x.path.length ≤ 1048576) (h3 : a1.length ≤ 1048576) (h4 : ∀ x ∈ a1, x.path.length ≤ 1048576) :
  Calls Tryz.prog 36 #[v_a0, v_a1] w (Rt (RT 60 4 qr w ((yT a0 a1).1) (.int .i64 ((yT a0 a1).2)))) := js.walk f_a0 f_a1 (js.eq a0 a1 h0 h1 h2 h3 h4)
/-! impl.applyAll -/
theorem yD.calls {w : World} {a0 : List (List Rec)} {a1 : List Nd} (gv : GV 0 w) {v_a0 : Value} (f_a0 : Rd2 5 qg w v_a0 a0) {v_a1 : Value} (f_a1 : Rd 4 qr w v_a1 a1) (h0 : a0.length ≤ 5) (h1 : a1.length ≤ 24) (h2 : okA a0 a1 = true) :
  Calls Tryz.prog 111 #[v_a0, v_a1] w (Rt (RO 60 4 qr w (jy a0 a1))) := by
 obtain ⟨k, H⟩ := yD.eq a0 a1 h0 h1 h2
 generalize (jy a0 a1) = r at H ⊢
 unfold yD.sh at H
 refine qh Tryz.func111 rfl (Nat.le_of_ble_eq_true rfl) Tryz.ntmps111 rfl ?_
 refine wr <| lp rfl (xa (.slice none 0 0) rfl) <| nx <| wr <| lp rfl (xm v_a1 rfl) ?_
 obtain ⟨c1, H⟩ := qa H
 refine vp (.plain rfl) rfl (ltb rfl) rfl Tryz.call156 (V7.calls (w := w) (a0 := a1) f_a1 (od c1)) rfl <| fun v4 w2 e3 o5 => lp rfl (xa v4 rfl) <| nx <| qj <| wr <| lp rfl (xm v_a0 rfl) <| lp rfl (Ym Tryz.underlying23 rfl (Rd2.ext f_a0 e3)) <| lp rfl (xm (.int .i64 0) rfl) <| nx ?_
 obtain ⟨z9, L10, C11⟩ := bind_some H
 clear H
 refine  vD (fun s0 sQ wQ => ∃ (x5_12 : List Nd) (v13 : Value), Kp [(5, 6), (7, 8), (12, 20)] s0 sQ ∧ sQ 5 = v13 ∧ Ow 60 4 qr w.heap.size wQ v13 x5_12 ∧ Ext w2 wQ ∧ z9 = .inr x5_12) ?_ ?_
 ·refine qB <| vo (fun s0 kk sQ wQ => ∃ (x5_6 : List Nd) (v7 : Value) (x12_8 : Int), Kp [(5, 6), (7, 8), (12, 20)] s0 sQ ∧ sQ 5 = v7 ∧ Ow 60 4 qr w.heap.size wQ v7 x5_6 ∧ sQ 12 = .int .i64 x12_8 ∧ Ext w2 wQ ∧ qp (yD.b1 a0) kk (x5_6, x12_8) = some z9) k ⟨a1, v4, 0, kz, rfl, o5, rfl, er, L10⟩ ?_
  rintro k18 s19 w20 ⟨x5_6, v7, x12_8, K21, h24, h25, h26, e22, L23⟩
  cases k18 with
  | zero => exact absurd L23 (by simp [qp])
  | succ k18 =>
   obtain ⟨t27, H, S28⟩ := qK L23
   clear L23
   unfold yD.b1 at H
   refine wr <| lp rfl (yl h26 (K21 11 rfl)) <| nx <| qj ?_
   rcases qd H with ⟨q29, H⟩ | ⟨q29, H⟩
   ·refine qk (cb q29) <| qo <| qe <| qj <| qB <| wr ?_
    obtain ⟨c30, H⟩ := qa H
    refine L_idx2 (.plain rfl) rfl (ltb rfl) rfl Tryz.underlying23 Tryz.sizeOf35 (K21 10 rfl) (Rd2.ext f_a0 (e3.t e22)) h26 c30 <| fun p31 v33 h32 h34 => lp rfl (yr Tryz.isAgg35 rfl h32 rfl) <| lp rfl (xa v33 rfl) <| nx <| qG <| lp rfl (xm v33 rfl) <| lp rfl (qf h24) ?_
    obtain ⟨c35, H⟩ := qa H
    obtain ⟨c36, H⟩ := qa H
    obtain ⟨c37, H⟩ := qa H
    refine vp (.plain rfl) rfl (ltb rfl) rfl Tryz.call128 (jd.calls (w := w20) (a0 := gt a0 x12_8) (a1 := x5_6) (GV.ext gv (e3.t e22)) h34 (Ow.rd h25) (od c35) (od c36) (od c37)) rfl <| fun v40 w38 e39 o41 => lp rfl (xa v40 rfl) <| qJ <| vk <| qe <| qG <| lp rfl (vi h26 rfl) <| lp rfl (xm (.int .i64 (IntKind.wrap .i64 (x12_8 + 1))) rfl) <| nx ?_
    obtain rfl := si H
    exact ⟨_, Nat.lt_succ_self _, (vC (gt a0 x12_8) x5_6), v40, IntKind.wrap .i64 (x12_8 + 1), (ku2 (ku8 K21 rfl) rfl), rfl, (Ow.base o41 (e3.t e22).size), rfl, (e22.t e39), S28⟩
   ·refine qi (cb q29) <| vH <| qY <| qY <| yF <| qe ?_
    obtain rfl := si H
    obtain rfl := si S28
    exact ⟨x5_6, v7, (ku1 K21 rfl), h24, h25, e22, rfl⟩
 ·rintro s15 w14 ⟨x5_12, v13, K16, h42, h43, e17, y44⟩
  rw [y44] at C11
  have H := C11
  replace H : _ = some _ := H
  refine qe <| wr <| lp rfl (qf h42) <| lp rfl (xa v13 rfl) <| nx <| qn <| qt ?_
  obtain rfl := si H
  exact Qi rfl (e3.t e17) h43 (er).size
/-! impl.ApplyAll -/
theorem jr.walk {w : World} {a0 : List (List Rec)} {a1 : List Nd} (gv : GV 0 w) {v_a0 : Value} (f_a0 : Rd2 5 qg w v_a0 a0) {v_a1 : Value} (f_a1 : Rd 4 qr w v_a1 a1) {r : List Nd × Int} (H : jr.sh a0 a1 = some r) :
  Calls Tryz.prog 35 #[v_a0, v_a1] w (Rt (RT 60 4 qr w r.1 (.int .i64 r.2))) := by
 unfold jr.sh at H
 refine qh Tryz.func35 rfl (Nat.le_of_ble_eq_true rfl) Tryz.ntmps35 rfl ?_
 refine wr <| lp rfl (xa (.slice none 0 0) rfl) <| lp rfl (xa (.int .i64 0) rfl) <| nx <| qj <| wr <| lp rfl (xm v_a0 rfl) <| lc rfl rfl Tryz.call129 (jt.calls (w := w) (a0 := a0) f_a0) rfl <| fun w1 e2 => lp rfl (xm (.bool (decide (4096 < a0.length))) rfl) <| jI 3 [(11, 14)] 13 (.bool ((decide (4096 < a0.length)) || (decide (4096 < a1.length)))) ?_ ?_
 ·rcases ql (decide (4096 < a0.length)) with b2_ | b2_
  ·exact ls rfl rfl rfl (cb b2_) rfl <| ls rfl rfl rfl (cb b2_) rfl <| lp rfl (qu (b := true) (v := (.bool true)) (cb b2_) rfl) <| nx ⟨(ku3 kz rfl), (Jo b2_), er⟩
  ·exact lg rfl rfl rfl rfl (cb b2_) (xm v_a1 rfl) <| vy (tg rfl rfl rfl (cb b2_)) rfl (ltb rfl) rfl Tryz.call127 (jp.calls (w := w1) (a0 := a1) (Rd.ext f_a1 e2)) rfl <| fun w4 e5 => lp rfl (qu (b := false) (v := (.bool (decide (4096 < a1.length)))) (cb b2_) rfl) <| nx ⟨(ku3 kz rfl), (Jn b2_), e5⟩
 intro s8 w4 K5 h6 e7
 refine lp rfl (vl Tryz.underlying4 rfl h6) <| lp rfl (vl Tryz.underlying3 rfl rfl) <| lp rfl (xm v_a0 (K5 0 rfl)) ?_
 obtain ⟨c9, H⟩ := qa H
 obtain ⟨c10, H⟩ := qa H
 obtain ⟨c11, H⟩ := qa H
 refine lc rfl rfl Tryz.call21 (QL.calls (w := w4) (a0 := a0) (GV.ext gv (e2.t e7)) (Rd2.ext f_a0 (e2.t e7)) (od c9) (od c10) (od c11)) rfl <| fun w12 e13 => lp rfl (yM rfl) <| lp rfl (xm (.bool (!(jQ a0))) rfl) ?_
 obtain ⟨z15, x16, H⟩ := bind_some H
 refine yk 4 [(20, 24)] 23 (fun q => q = z15) ?_ ?_
 ·rcases qd x16 with ⟨b13_, H⟩ | ⟨b13_, H⟩
  ·refine ls rfl rfl rfl (cb b13_) rfl <| ls rfl rfl rfl (cb b13_) rfl <| ls rfl rfl rfl (cb b13_) rfl <| lp rfl (qu (b := true) (v := (.bool true)) (cb b13_) rfl) ?_
   obtain rfl := si H
   exact nx ⟨(ku4 kz rfl), ⟨_, rfl, rfl⟩, er⟩
  ·refine lg rfl rfl rfl rfl (cb b13_) (xm v_a1 (K5 1 rfl)) ?_
   obtain ⟨c15, H⟩ := qa H
   obtain ⟨c16, H⟩ := qa H
   refine vy (tg rfl rfl rfl (cb b13_)) rfl (ltb rfl) rfl Tryz.call43 (qM.calls (w := w12) (a0 := a1) (GV.ext gv ((e2.t e7).t e13)) (Rd.ext f_a1 ((e2.t e7).t e13)) (od c15) (od c16)) rfl <| fun w17 e18 => lg rfl rfl rfl rfl (cb b13_) (yM rfl) <| lp rfl (qu (b := false) (v := (.bool (!(jO a1)))) (cb b13_) rfl) ?_
   obtain rfl := si H
   exact nx ⟨(ku4 kz rfl), ⟨_, rfl, rfl⟩, e18⟩
 intro s21 w17 z22 K18 hq h19 e20
 rw [hq] at h19; clear hq
 refine lp rfl (vl Tryz.underlying4 rfl h19) <| lp rfl (vl Tryz.underlying3 rfl rfl) <| vO (.plain rfl) rfl (ltb rfl) rfl Tryz.underlying171 Tryz.sizeOf20 Tryz.zeroValue20 rfl rfl rfl (vs := [(.iface 4 (.bool ((decide (4096 < a0.length)) || (decide (4096 < a1.length))))), (.iface 3 (.int .i64 2)), (.iface 4 (.bool z15)), (.iface 3 (.int .i64 1))]) (vc (K18 14 rfl) (vc (K18 15 rfl) (vc rfl (vc rfl rfl)))) (qR rfl) <| fun b23 w24 z25 z26 e27 k28 => ?_
 obtain ⟨c29, H⟩ := qa H
 obtain ⟨z32, x33, H⟩ := bind_some H
 replace x33 := si x33
 refine lc rfl rfl Tryz.call125 (yS.calls (w := w24) (a0 := ([.inl ((decide (4096 < a0.length)) || (decide (4096 < a1.length))), .inr 2, .inl z15, .inr 1] : List (Bool ⊕ Int))) (Ow.rd (Ow.new (xs := [.inl ((decide (4096 < a0.length)) || (decide (4096 < a1.length))), .inr 2, .inl z15, .inr 1]) (sz := 1) (enc := (Vl 4 3)) (base := w17.heap.size) k28 (Nat.le_of_eq z25) rfl (fun _ _ => by first | rfl | exact VY _ _ _) (Nat.le_of_ble_eq_true rfl))) (od c29)) rfl <| fun w30 e31 => lp rfl (xa (.int .i64 z32) (congrArg (Value.int .i64) x33)) <| nx <| wr <| lp rfl (xm (.int .i64 z32) rfl) <| lp rfl (j6 rfl rfl) <| nx ?_
 rcases qd H with ⟨q34, H⟩ | ⟨q34, H⟩
 ·refine qk (cb q34) <| wr <| lp rfl (xm (.int .i64 z32) rfl) <| lp rfl (xa (.slice none 0 0) rfl) <| lp rfl (xa (.int .i64 z32) rfl) <| nx <| qn <| qw <| qt ?_
  obtain rfl := si H
  exact QW rfl rfl (((((e2.t e7).t e13).t e20).t e27).t e31) (Ow.zero (base := w.heap.size)) (Nat.le_refl _)
 ·refine qi (cb q34) <| qo <| qe <| wr <| lp rfl (xm v_a0 ((K18 0 rfl).trans (K5 0 rfl))) <| lp rfl (xm v_a1 ((K18 1 rfl).trans (K5 1 rfl))) ?_
  obtain ⟨c35, H⟩ := qa H
  obtain ⟨c36, H⟩ := qa H
  obtain ⟨c37, H⟩ := qa H
  refine vp (.plain rfl) rfl (ltb rfl) rfl Tryz.call111 (yD.calls (w := w30) (a0 := a0) (a1 := a1) (GV.ext gv (((((e2.t e7).t e13).t e20).t e27).t e31)) (Rd2.ext f_a0 (((((e2.t e7).t e13).t e20).t e27).t e31)) (Rd.ext f_a1 (((((e2.t e7).t e13).t e20).t e27).t e31)) (od c35) (od c36) (od c37)) rfl <| fun v40 w38 e39 o41 => lp rfl (xa v40 rfl) <| nx <| qj <| wr <| lp rfl (xm v40 rfl) <| lp rfl (qO Tryz.underlying29 rfl (Ow.rd o41)) <| lp rfl (jJ rfl rfl) <| nx ?_
  rcases qd H with ⟨q42, H⟩ | ⟨q42, H⟩
  ·refine qk (cb q42) <| wr <| lp rfl (xa (.slice none 0 0) rfl) <| lp rfl (xa (.int .i64 7) rfl) <| nx <| qn <| qw <| qt ?_
   obtain rfl := si H
   exact QW rfl rfl ((((((e2.t e7).t e13).t e20).t e27).t e31).t e39) (Ow.zero (base := w.heap.size)) (Nat.le_refl _)
  ·refine qi (cb q42) <| qo <| qe <| wr <| lp rfl (xm v40 rfl) <| lp rfl (xa v40 rfl) <| lp rfl (xa (.int .i64 0) rfl) <| nx <| qn <| qt ?_
   obtain rfl := si H
   exact QW rfl rfl ((((((e2.t e7).t e13).t e20).t e27).t e31).t e39) o41 ((((((e2.t e7).t e13).t e20).t e27).t e31)).size
theorem jr.calls {w : World} {a0 : List (List Rec)} {a1 : List Nd} (gv : GV 0 w) {v_a0 : Value} (f_a0 : Rd2 5 qg w v_a0 a0) {v_a1 : Value} (f_a1 : Rd 4 qr w v_a1 a1) (h0 : a0.length ≤ 1048576) (h1 : ∀ l ∈ a0, l.length ≤ 1048576) (h2 : ∀ l ∈ a0, ∀ x ∈ l, x.path.length ≤ 1048576) (h3 : a1.length ≤ 1048576) (h4 : ∀ x ∈ a1, x.path.length ≤ 1048576) :
  Calls Tryz.prog 35 #[v_a0, v_a1] w (Rt (RT 60 4 qr w ((yT a0 a1).1) (.int .i64 ((yT a0 a1).2)))) := jr.walk gv f_a0 f_a1 (jr.eq a0 a1 h0 h1 h2 h3 h4)
/-! spec.l00Source -/
theorem vI.walk {w : World} {a0 : List Int} {v_a0 : Value} (f_a0 : Rd 1 (Go.UL.encI .u8) w v_a0 a0) {r : DSrc} (H : vI.sh a0 = some r) :
  Calls Tryz.prog 103 #[v_a0] w (Rt (RSN 162 v_a0 w r)) := by
 unfold vI.sh at H
 refine qh Tryz.func103 rfl (Nat.le_of_ble_eq_true rfl) Tryz.ntmps103 rfl ?_
 refine wr <| lp rfl (qA rfl) <| nx <| wr <| lp rfl (xm v_a0 rfl) <| lp rfl (xm v_a0 rfl) <| lp rfl (qO Tryz.underlying22 rfl f_a0) <| lp rfl (JU rfl rfl (by decide)) <| lp rfl (Q0 (vs := [(0, v_a0), (2, (.int .i64 ((a0.length : Int).tmod 1000)))]) (pl := #[(0, 1), (1, 1), (2, 1)]) Tryz.underlying162 Tryz.zeroValue162 rfl (fun _ => by kernel_rfl) rfl rfl (by obtain ⟨A9, c9, e9⟩ := Rd.shape f_a0; rw [e9]; rfl)) <| j0 (.plain rfl) rfl (ltb rfl) rfl rfl <| fun b1 w2 z3 z4 e5 k6 => lp rfl (xa (.pointer (some ⟨b1, 0, none⟩)) rfl) <| nx <| qn <| qt ?_
 obtain rfl := si H
 exact fin1sn rfl e5 (Nat.le_trans (er).size (Nat.le_of_eq z3)) k6
theorem vI.calls {w : World} {a0 : List Int} {r : DSrc} {v_a0 : Value} (f_a0 : Rd 1 (Go.UL.encI .u8) w v_a0 a0) (H : (vI.sh a0) = some r) :
  Calls Tryz.prog 103 #[v_a0] w (Rt (RSN 162 v_a0 w r)) := vI.walk f_a0 (vI.eq a0 H)
/-! (*spec.l00Src).byte -/
abbrev vj.e1 (a1 : DSrc) := (IntKind.wrap .i64 ((IntKind.wrap .i64 (a1.pos + 1)) - 1))
abbrev vj.e2 (a0 : List Int) (a1 : DSrc) := (IntKind.wrap .i64 ((IntKind.wrap .i64 (a1.seed * 31)) + (IntKind.wrap .i64 (gt a0 (vj.e1 a1)))))
theorem vj.walk {w : World} {a0 : List Int} {a1 : DSrc} {wc : World} {cv : Value} {bs : Nat} (kc : Ext wc w) (fc : Rd 1 (Go.UL.encI .u8) wc cv a0) (hz : wc.heap.size ≤ bs) (ks : Blk w bs (vS cv a1).toArray 162) {r : Int × DSrc} (H : vj.sh a0 a1 = some r) :
  Calls Tryz.prog 255 #[.pointer (some ⟨bs, 0, none⟩)] w (Rt (RS 162 bs cv w (.int .i64 r.1) r.2)) := by
 unfold vj.sh at H
 refine qh Tryz.func255 rfl (Nat.le_of_ble_eq_true rfl) Tryz.ntmps255 rfl ?_
 refine wr <| lp rfl (xa (.int .i64 0) rfl) <| nx <| wr <| lp rfl (xm (.pointer (some ⟨bs, 0, none⟩)) rfl) <| lp rfl (Yu rfl) <| lp rfl (qb Tryz.underlying162 rfl Tryz.sizeOf3 rfl rfl) <| lp rfl (qz Tryz.isAgg3 ks rfl rfl) <| lp rfl (vi rfl rfl) <| lp rfl (Yu rfl) <| lp rfl (qb Tryz.underlying162 rfl Tryz.sizeOf3 rfl rfl) <| Vb (.plain rfl) rfl rfl Tryz.sizeOf3 rfl rfl rfl ks (ltb rfl) <| fun w1 h2 k3 => nx <| qj <| qj ?_
 refine Yp [LEq (.pointer (some ⟨bs, 0, none⟩)), LEq (.pointer (some ⟨bs, 0, none⟩)), LEq (.pointer (some ⟨bs, 1, none⟩)), LEq (.int .i64 (IntKind.wrap .i64 (a1.pos + 1))), LEq (.pointer (some ⟨bs, 0, none⟩)), LEq (.pointer (some ⟨bs, 0, none⟩)), LEq (.pointer (some ⟨bs, 0, none⟩)), LRd 1 (Go.UL.encI .u8) a0, LEq (.int .i64 (a0.length : Int)), LEq (.bool (decide ((IntKind.wrap .i64 (a1.pos + 1)) ≤ (a0.length : Int))))] (by kernel_rfl) (by kernel_rfl) ⟨qm, qm, qm, qm, qm, qm, qm, LRd.mono, qm, qm, trivial⟩ ⟨?_, ?_, ?_, ?_, ?_, ?_, ?_, ?_, ?_, ?_, trivial⟩ ?_
 ·exact fun s x e f d u => lp rfl (xm (.pointer (some ⟨bs, 0, none⟩)) (f 0 rfl)) <| se rfl rfl
 ·exact fun s x e f d u => lp rfl (Yu (d 0 rfl)) <| se rfl rfl
 ·exact fun s x e f d u => lp rfl (qb Tryz.underlying162 rfl Tryz.sizeOf3 rfl (d 1 rfl)) <| se rfl rfl
 ·exact fun s x e f d u => lp rfl (qz Tryz.isAgg3 (Blk.ext k3 e) (d 2 rfl) rfl) <| se rfl rfl
 ·exact fun s x e f d u => lp rfl (xm (.pointer (some ⟨bs, 0, none⟩)) (f 0 rfl)) <| se rfl rfl
 ·exact fun s x e f d u => lp rfl (Yu (d 4 rfl)) <| se rfl rfl
 ·exact fun s x e f d u => lp rfl (qb Tryz.underlying162 rfl Tryz.sizeOf22 rfl (d 5 rfl)) <| se rfl rfl
 ·exact fun s x e f d u => lp rfl (qz Tryz.isAgg22 (Blk.ext k3 e) (d 6 rfl) rfl) <| se rfl (Rd.ext fc (Ext.trans (Below.trans kc (Below.mono (Wr.below h2 hz) (Nat.le_refl _))) e))
 ·intro s x e f d u
  have d4 : Rd 1 (Go.UL.encI .u8) x (s 17) a0 := (d 7 rfl)
  exact lp rfl (qO Tryz.underlying22 rfl d4) <| se rfl rfl
 ·exact fun s x e f d u => lp rfl (Y4 (d 3 rfl) (d 8 rfl)) <| se rfl rfl
 intro s5 w6 e7 hf8 ha9
 have K10 := Kp.ofD (kp := [(10, 20)]) rfl hf8
 have d11 : s5 19 = (.bool (decide ((IntKind.wrap .i64 (a1.pos + 1)) ≤ (a0.length : Int)))) := ha9 9 rfl
 clear ha9 hf8
 refine qe ?_
 rcases qd H with ⟨q12, H⟩ | ⟨q12, H⟩
 ·refine qk (d11.trans (cb q12)) <| qj ?_
  obtain ⟨c13, H⟩ := qa H
  refine W_dN 22 [LEq (.pointer (some ⟨bs, 0, none⟩)), LEq (.pointer (some ⟨bs, 0, none⟩)), LEq (.pointer (some ⟨bs, 0, none⟩)), LEq (.pointer (some ⟨bs, 2, none⟩)), LEq (.int .i64 a1.seed), LEq (.int .i64 (IntKind.wrap .i64 (a1.seed * 31))), LEq (.pointer (some ⟨bs, 0, none⟩)), LEq (.pointer (some ⟨bs, 0, none⟩)), LEq (.pointer (some ⟨bs, 0, none⟩)), LRd 1 (Go.UL.encI .u8) a0, LEq (.pointer (some ⟨bs, 0, none⟩)), LEq (.pointer (some ⟨bs, 0, none⟩)), LEq (.pointer (some ⟨bs, 1, none⟩)), LEq (.int .i64 (IntKind.wrap .i64 (a1.pos + 1))), LEq (.int .i64 (vj.e1 a1)), yu ((Go.UL.encI .u8) (gt a0 (vj.e1 a1))), LEq (.int .u8 (gt a0 (vj.e1 a1))), LEq (.int .i64 (IntKind.wrap .i64 (gt a0 (vj.e1 a1)))), LEq (.int .i64 (vj.e2 a0 a1)), LEq (.int .i64 (IntKind.wrap .i64 ((vj.e2 a0 a1) + 7))), LEq (.int .i64 ((IntKind.wrap .i64 ((vj.e2 a0 a1) + 7)).tmod 2147483648)), LEq (.pointer (some ⟨bs, 0, none⟩))] (by kernel_rfl) (by kernel_rfl) (by kernel_rfl) ⟨qm, qm, qm, qm, qm, qm, qm, qm, qm, LRd.mono, qm, qm, qm, qm, qm, yu.mono, qm, qm, qm, qm, qm, qm, trivial⟩ ⟨?_, ?_, ?_, ?_, ?_, ?_, ?_, ?_, ?_, ?_, ?_, ?_, ?_, ?_, ?_, ?_, ?_, ?_, ?_, ?_, ?_, ?_, trivial⟩ ?_
  ·exact fun s x e f d u => lp rfl (xm (.pointer (some ⟨bs, 0, none⟩)) ((f 0 rfl).trans (K10 0 rfl))) <| se rfl rfl
  ·exact fun s x e f d u => lp rfl (xm (.pointer (some ⟨bs, 0, none⟩)) ((f 0 rfl).trans (K10 0 rfl))) <| se rfl rfl
  ·exact fun s x e f d u => lp rfl (Yu (d 1 rfl)) <| se rfl rfl
  ·exact fun s x e f d u => lp rfl (qb Tryz.underlying162 rfl Tryz.sizeOf3 rfl (d 2 rfl)) <| se rfl rfl
  ·exact fun s x e f d u => lp rfl (qz Tryz.isAgg3 (Blk.ext k3 (e7.t e)) (d 3 rfl) rfl) <| se rfl rfl
  ·exact fun s x e f d u => lp rfl (X_mul (d 4 rfl) rfl) <| se rfl rfl
  ·exact fun s x e f d u => lp rfl (xm (.pointer (some ⟨bs, 0, none⟩)) ((f 0 rfl).trans (K10 0 rfl))) <| se rfl rfl
  ·exact fun s x e f d u => lp rfl (Yu (d 6 rfl)) <| se rfl rfl
  ·exact fun s x e f d u => lp rfl (qb Tryz.underlying162 rfl Tryz.sizeOf22 rfl (d 7 rfl)) <| se rfl rfl
  ·exact fun s x e f d u => lp rfl (qz Tryz.isAgg22 (Blk.ext k3 (e7.t e)) (d 8 rfl) rfl) <| se rfl (Rd.ext fc (Ext.trans (Ext.trans (Below.trans kc (Below.mono (Wr.below h2 hz) (Nat.le_refl _))) e7) e))
  ·exact fun s x e f d u => lp rfl (xm (.pointer (some ⟨bs, 0, none⟩)) ((f 0 rfl).trans (K10 0 rfl))) <| se rfl rfl
  ·exact fun s x e f d u => lp rfl (Yu (d 10 rfl)) <| se rfl rfl
  ·exact fun s x e f d u => lp rfl (qb Tryz.underlying162 rfl Tryz.sizeOf3 rfl (d 11 rfl)) <| se rfl rfl
  ·exact fun s x e f d u => lp rfl (qz Tryz.isAgg3 (Blk.ext k3 (e7.t e)) (d 12 rfl) rfl) <| se rfl rfl
  ·exact fun s x e f d u => lp rfl (VA (d 13 rfl) rfl) <| se rfl rfl
  ·intro s x e f d u
   have d16 : Rd 1 (Go.UL.encI .u8) x (s 29) a0 := (d 9 rfl)
   exact q4 (.plain rfl) rfl (ltb rfl) rfl Tryz.underlying22 Tryz.sizeOf5 rfl d16 (d 14 rfl) c13 <| fun p18 h19 => se rfl ⟨_, rfl, h19⟩
  ·intro s x e f d u
   obtain ⟨p20, h21, h22⟩ := (d 15 rfl)
   exact lp rfl (yr Tryz.isAgg5 h21 h22 rfl) <| se rfl rfl
  ·exact fun s x e f d u => lp rfl (Vz Tryz.underlying5 Tryz.underlying3 (d 16 rfl)) <| se rfl rfl
  ·exact fun s x e f d u => lp rfl (vi (d 5 rfl) (d 17 rfl)) <| se rfl rfl
  ·exact fun s x e f d u => lp rfl (vi (d 18 rfl) rfl) <| se rfl rfl
  ·exact fun s x e f d u => lp rfl (JU (d 19 rfl) rfl (by decide)) <| se rfl rfl
  ·exact fun s x e f d u => lp rfl (Yu (d 0 rfl)) <| se rfl rfl
  intro s23 w24 e25 hf26 ha27
  have K28 := Kp.ofD (kp := [(20, 42)]) rfl hf26
  have d29 : s23 40 = (.int .i64 ((IntKind.wrap .i64 ((vj.e2 a0 a1) + 7)).tmod 2147483648)) := ha27 20 rfl
  have d30 : s23 41 = (.pointer (some ⟨bs, 0, none⟩)) := ha27 21 rfl
  clear ha27 hf26
  refine lp rfl (qb Tryz.underlying162 rfl Tryz.sizeOf3 rfl d30) <| Vb (.plain rfl) rfl rfl Tryz.sizeOf3 rfl d29 rfl (Blk.ext k3 (e7.t e25)) (ltb rfl) <| fun w31 h32 k33 => nx <| qj ?_
  obtain ⟨c34, H⟩ := qa H
  refine Yp [LEq (.pointer (some ⟨bs, 0, none⟩)), LEq (.pointer (some ⟨bs, 0, none⟩)), LEq (.pointer (some ⟨bs, 0, none⟩)), LRd 1 (Go.UL.encI .u8) a0, LEq (.pointer (some ⟨bs, 0, none⟩)), LEq (.pointer (some ⟨bs, 0, none⟩)), LEq (.pointer (some ⟨bs, 1, none⟩)), LEq (.int .i64 (IntKind.wrap .i64 (a1.pos + 1))), LEq (.int .i64 (vj.e1 a1)), yu ((Go.UL.encI .u8) (gt a0 (vj.e1 a1))), LEq (.int .u8 (gt a0 (vj.e1 a1))), LEq (.int .i64 (IntKind.wrap .i64 (gt a0 (vj.e1 a1)))), LEq (.int .i64 (IntKind.wrap .i64 (gt a0 (vj.e1 a1))))] (by kernel_rfl) (by kernel_rfl) ⟨qm, qm, qm, LRd.mono, qm, qm, qm, qm, qm, yu.mono, qm, qm, qm, trivial⟩ ⟨?_, ?_, ?_, ?_, ?_, ?_, ?_, ?_, ?_, ?_, ?_, ?_, ?_, trivial⟩ ?_
  ·exact fun s x e f d u => lp rfl (xm (.pointer (some ⟨bs, 0, none⟩)) ((f 0 rfl).trans ((K28 0 rfl).trans (K10 0 rfl)))) <| se rfl rfl
  ·exact fun s x e f d u => lp rfl (Yu (d 0 rfl)) <| se rfl rfl
  ·exact fun s x e f d u => lp rfl (qb Tryz.underlying162 rfl Tryz.sizeOf22 rfl (d 1 rfl)) <| se rfl rfl
  ·exact fun s x e f d u => lp rfl (qz Tryz.isAgg22 (Blk.ext k33 e) (d 2 rfl) rfl) <| se rfl (Rd.ext fc (Ext.trans (Below.trans (Ext.trans (Ext.trans (Below.trans kc (Below.mono (Wr.below h2 hz) (Nat.le_refl _))) e7) e25) (Below.mono (Wr.below h32 hz) (Nat.le_refl _))) e))
  ·exact fun s x e f d u => lp rfl (xm (.pointer (some ⟨bs, 0, none⟩)) ((f 0 rfl).trans ((K28 0 rfl).trans (K10 0 rfl)))) <| se rfl rfl
  ·exact fun s x e f d u => lp rfl (Yu (d 4 rfl)) <| se rfl rfl
  ·exact fun s x e f d u => lp rfl (qb Tryz.underlying162 rfl Tryz.sizeOf3 rfl (d 5 rfl)) <| se rfl rfl
  ·exact fun s x e f d u => lp rfl (qz Tryz.isAgg3 (Blk.ext k33 e) (d 6 rfl) rfl) <| se rfl rfl
  ·exact fun s x e f d u => lp rfl (VA (d 7 rfl) rfl) <| se rfl rfl
  ·intro s x e f d u
   have d37 : Rd 1 (Go.UL.encI .u8) x (s 46) a0 := (d 3 rfl)
   exact q4 (.plain rfl) rfl (ltb rfl) rfl Tryz.underlying22 Tryz.sizeOf5 rfl d37 (d 8 rfl) c34 <| fun p39 h40 => se rfl ⟨_, rfl, h40⟩
  ·intro s x e f d u
   obtain ⟨p41, h42, h43⟩ := (d 9 rfl)
   exact lp rfl (yr Tryz.isAgg5 h42 h43 rfl) <| se rfl rfl
  ·exact fun s x e f d u => lp rfl (Vz Tryz.underlying5 Tryz.underlying3 (d 10 rfl)) <| se rfl rfl
  ·exact fun s x e f d u => lp rfl (qA (d 11 rfl)) <| se rfl rfl
  intro s44 w45 e46 hf47 ha48
  have K49 := Kp.ofD (kp := [(2, 3), (43, 55)]) rfl hf47
  have d50 : s44 2 = (.int .i64 (IntKind.wrap .i64 (gt a0 (vj.e1 a1)))) := ha48 12 rfl
  clear ha48 hf47
  refine qe <| qn <| qw <| qt ?_
  obtain rfl := si H
  exact YW d50 (Gr.trans (Gr.trans (Gr.trans (Gr.trans (Gr.ofWr h2) (Gr.ext e7)) (Gr.ext e25)) (Gr.ofWr h32)) (Gr.ext e46)) (Blk.ext k33 e46)
 ·refine qi (d11.trans (cb q12)) <| qo <| qe <| qj <| wr <| lp rfl (xm (.pointer (some ⟨bs, 0, none⟩)) (K10 0 rfl)) <| lp rfl (Yu rfl) <| lp rfl (qb Tryz.underlying162 rfl Tryz.sizeOf3 rfl rfl) <| lp rfl (qz Tryz.isAgg3 (Blk.ext k3 e7) rfl rfl) <| lp rfl (jJ rfl rfl) <| nx ?_
  rcases qd H with ⟨q51, H⟩ | ⟨q51, H⟩
  ·refine qk (cb q51) <| wr <| lp rfl (xa (.int .i64 0) rfl) <| nx <| qn <| qw <| qt ?_
   obtain rfl := si H
   exact YW rfl (Gr.trans (Gr.ofWr h2) (Gr.ext e7)) (Blk.ext k3 e7)
  ·refine qi (cb q51) <| qo <| qe <| wr <| lp rfl (xm (.pointer (some ⟨bs, 0, none⟩)) (K10 0 rfl)) <| lp rfl (xm (.pointer (some ⟨bs, 0, none⟩)) (K10 0 rfl)) <| lp rfl (Yu rfl) <| lp rfl (qb Tryz.underlying162 rfl Tryz.sizeOf3 rfl rfl) <| lp rfl (qz Tryz.isAgg3 (Blk.ext k3 e7) rfl rfl) <| lp rfl (X_mul rfl rfl) <| lp rfl (vi rfl rfl) <| lp rfl (JU rfl rfl (by decide)) <| lp rfl (Yu rfl) <| lp rfl (qb Tryz.underlying162 rfl Tryz.sizeOf3 rfl rfl) <| Vb (.plain rfl) rfl rfl Tryz.sizeOf3 rfl rfl rfl (Blk.ext k3 e7) (ltb rfl) <| fun w52 h53 k54 => nx <| wr <| lp rfl (xm (.pointer (some ⟨bs, 0, none⟩)) (K10 0 rfl)) <| lp rfl (Yu rfl) <| lp rfl (qb Tryz.underlying162 rfl Tryz.sizeOf3 rfl rfl) <| lp rfl (qz Tryz.isAgg3 k54 rfl rfl) <| lp rfl (X_quo rfl rfl (by decide)) <| lp rfl (JU rfl rfl (by decide)) <| lp rfl (qA rfl) <| nx <| qn <| qt ?_
   obtain rfl := si H
   exact YW rfl (Gr.trans (Gr.trans (Gr.ofWr h2) (Gr.ext e7)) (Gr.ofWr h53)) k54
theorem vj.calls {w : World} {a0 : List Int} {a1 : DSrc} {r : Int × DSrc} {wc : World} {cv : Value} {bs : Nat} (kc : Ext wc w) (fc : Rd 1 (Go.UL.encI .u8) wc cv a0) (hz : wc.heap.size ≤ bs) (ks : Blk w bs (vS cv a1).toArray 162) (H : (vj.sh a0 a1) = some r) :
  Calls Tryz.prog 255 #[.pointer (some ⟨bs, 0, none⟩)] w (Rt (RS 162 bs cv w (.int .i64 r.1) r.2)) := vj.walk kc fc hz ks (vj.eq a0 a1 H)
/-! (*spec.l00Src).next -/
theorem vt.walk {w : World} {a0 : List Int} {a1 : DSrc} {a2 : Int} {wc : World} {cv : Value} {bs : Nat} (kc : Ext wc w) (fc : Rd 1 (Go.UL.encI .u8) wc cv a0) (hz : wc.heap.size ≤ bs) (ks : Blk w bs (vS cv a1).toArray 162) {r : Int × DSrc} (H : vt.sh a0 a1 a2 = some r) :
  Calls Tryz.prog 195 #[.pointer (some ⟨bs, 0, none⟩), .int .i64 a2] w (Rt (RS 162 bs cv w (.int .i64 r.1) r.2)) := by
 unfold vt.sh at H
 refine qh Tryz.func195 rfl (Nat.le_of_ble_eq_true rfl) Tryz.ntmps195 rfl ?_
 refine wr <| lp rfl (xa (.int .i64 0) rfl) <| nx <| qj <| wr <| lp rfl (xm (.int .i64 a2) rfl) <| lp rfl (Y4 rfl rfl) <| nx ?_
 rcases qd H with ⟨q1, H⟩ | ⟨q1, H⟩
 ·refine qk (cb q1) <| wr <| lp rfl (xa (.int .i64 0) rfl) <| nx <| qn <| qw <| qt ?_
  obtain rfl := si H
  exact YW rfl (Gr.refl _ _ _) ks
 ·refine qi (cb q1) <| qo <| qe <| qj <| wr <| lp rfl (xm (.int .i64 a2) rfl) <| lp rfl (Y4 rfl rfl) <| nx ?_
  rcases qd H with ⟨q2, H⟩ | ⟨q2, H⟩
  ·refine qk (cb q2) <| wr <| lp rfl (xm (.pointer (some ⟨bs, 0, none⟩)) rfl) ?_
   obtain ⟨z3, x4, H⟩ := bind_some H
   refine yX (.plain rfl) rfl (ltb rfl) rfl Tryz.call255 (vj.calls (w := w) (a0 := a0) (a1 := a1) kc fc hz ks x4) rfl <| fun w7 g8 k9 => lp rfl (xm (.int .i64 a2) rfl) ?_
   obtain ⟨c10, H⟩ := qa H
   refine lp rfl (JU rfl rfl (od c10)) <| lp rfl (xa (.int .i64 (z3.1.tmod a2)) rfl) <| nx <| qn <| qw <| qt ?_
   obtain rfl := si H
   exact YW rfl g8 k9
  ·refine qi (cb q2) <| qo <| qe <| wr <| lp rfl (xm (.pointer (some ⟨bs, 0, none⟩)) rfl) ?_
   obtain ⟨z11, x12, H⟩ := bind_some H
   refine yX (.plain rfl) rfl (ltb rfl) rfl Tryz.call255 (vj.calls (w := w) (a0 := a0) (a1 := a1) kc fc hz ks x12) rfl <| fun w15 g16 k17 => lp rfl (xa (.int .i64 z11.1) rfl) <| nx <| wr <| lp rfl (xm (.pointer (some ⟨bs, 0, none⟩)) rfl) ?_
   obtain ⟨z18, x19, H⟩ := bind_some H
   refine yX (.plain rfl) rfl (ltb rfl) rfl Tryz.call255 (vj.calls (w := w15) (a0 := a0) (a1 := z11.2) (Ext.gr kc g16 hz) fc hz k17 x19) rfl <| fun w22 g23 k24 => lp rfl (xa (.int .i64 z18.1) rfl) <| nx <| wr <| lp rfl (xm (.pointer (some ⟨bs, 0, none⟩)) rfl) ?_
   obtain ⟨z25, x26, H⟩ := bind_some H
   refine yX (.plain rfl) rfl (ltb rfl) rfl Tryz.call255 (vj.calls (w := w22) (a0 := a0) (a1 := z18.2) (Ext.gr (Ext.gr kc g16 hz) g23 hz) fc hz k24 x26) rfl <| fun w29 g30 k31 => lp rfl (xa (.int .i64 z25.1) rfl) <| nx <| wr <| lp rfl (xm (.int .i64 z11.1) rfl) <| lp rfl (X_mul rfl rfl) <| lp rfl (xm (.int .i64 z18.1) rfl) <| lp rfl (X_mul rfl rfl) <| lp rfl (vi rfl rfl) <| lp rfl (xm (.int .i64 z25.1) rfl) <| lp rfl (vi rfl rfl) <| lp rfl (xm (.int .i64 a2) rfl) ?_
   obtain ⟨c32, H⟩ := qa H
   refine lp rfl (JU rfl rfl (od c32)) <| lp rfl (qA rfl) <| nx <| qn <| qt ?_
   obtain rfl := si H
   exact YW rfl (Gr.trans (Gr.trans g16 g23) g30) k31
theorem vt.calls {w : World} {a0 : List Int} {a1 : DSrc} {a2 : Int} {r : Int × DSrc} {wc : World} {cv : Value} {bs : Nat} (kc : Ext wc w) (fc : Rd 1 (Go.UL.encI .u8) wc cv a0) (hz : wc.heap.size ≤ bs) (ks : Blk w bs (vS cv a1).toArray 162) (H : (vt.sh a0 a1 a2) = some r) :
  Calls Tryz.prog 195 #[.pointer (some ⟨bs, 0, none⟩), .int .i64 a2] w (Rt (RS 162 bs cv w (.int .i64 r.1) r.2)) := vt.walk kc fc hz ks (vt.eq a0 a1 a2 H)
/-! (*spec.l00Src).chance -/
theorem y0.walk {w : World} {a0 : List Int} {a1 : DSrc} {a2 : Int} {wc : World} {cv : Value} {bs : Nat} (kc : Ext wc w) (fc : Rd 1 (Go.UL.encI .u8) wc cv a0) (hz : wc.heap.size ≤ bs) (ks : Blk w bs (vS cv a1).toArray 162) {r : Bool × DSrc} (H : y0.sh a0 a1 a2 = some r) :
  Calls Tryz.prog 236 #[.pointer (some ⟨bs, 0, none⟩), .int .i64 a2] w (Rt (RS 162 bs cv w (.bool r.1) r.2)) := by
 unfold y0.sh at H
 refine qh Tryz.func236 rfl (Nat.le_of_ble_eq_true rfl) Tryz.ntmps236 rfl ?_
 refine wr <| lp rfl (xa (.bool false) rfl) <| nx <| wr <| lp rfl (xm (.pointer (some ⟨bs, 0, none⟩)) rfl) <| lp rfl (xm (.int .i64 a2) rfl) ?_
 obtain ⟨z1, x2, H⟩ := bind_some H
 refine yX (.plain rfl) rfl (ltb rfl) rfl Tryz.call195 (vt.calls (w := w) (a0 := a0) (a1 := a1) (a2 := a2) kc fc hz ks x2) rfl <| fun w5 g6 k7 => lp rfl (xm (.int .i64 a2) rfl) <| lp rfl (VA rfl rfl) <| lp rfl (yn rfl rfl) <| lp rfl (xa (.bool (decide (z1.1 = (IntKind.wrap .i64 (a2 - 1))))) rfl) <| nx <| qn <| qt ?_
 obtain rfl := si H
 exact YW rfl g6 k7
theorem y0.calls {w : World} {a0 : List Int} {a1 : DSrc} {a2 : Int} {r : Bool × DSrc} {wc : World} {cv : Value} {bs : Nat} (kc : Ext wc w) (fc : Rd 1 (Go.UL.encI .u8) wc cv a0) (hz : wc.heap.size ≤ bs) (ks : Blk w bs (vS cv a1).toArray 162) (H : (y0.sh a0 a1 a2) = some r) :
  Calls Tryz.prog 236 #[.pointer (some ⟨bs, 0, none⟩), .int .i64 a2] w (Rt (RS 162 bs cv w (.bool r.1) r.2)) := y0.walk kc fc hz ks (y0.eq a0 a1 a2 H)
/-! (*spec.l00Src).room -/
theorem jx.walk {w : World} {a0 : List Int} {a1 : DSrc} {a2 : Int} {wc : World} {cv : Value} {bs : Nat} (kc : Ext wc w) (fc : Rd 1 (Go.UL.encI .u8) wc cv a0) (hz : wc.heap.size ≤ bs) (ks : Blk w bs (vS cv a1).toArray 162) {r : Int × DSrc} (H : jx.sh a0 a1 a2 = some r) :
  Calls Tryz.prog 201 #[.pointer (some ⟨bs, 0, none⟩), .int .i64 a2] w (Rt (RS 162 bs cv w (.int .i64 r.1) r.2)) := by
 unfold jx.sh at H
 refine qh Tryz.func201 rfl (Nat.le_of_ble_eq_true rfl) Tryz.ntmps201 rfl ?_
 refine wr <| lp rfl (xa (.int .i64 0) rfl) <| nx <| wr <| lp rfl (xm (.pointer (some ⟨bs, 0, none⟩)) rfl) <| lp rfl (Yu rfl) <| lp rfl (qb Tryz.underlying162 rfl Tryz.sizeOf22 rfl rfl) <| lp rfl (qz Tryz.isAgg22 ks rfl rfl) <| lp rfl (qO Tryz.underlying22 rfl (Rd.ext fc kc)) <| lp rfl (X_quo rfl rfl (by decide)) <| lp rfl (vi rfl rfl) <| lp rfl (xm (.int .i64 a2) rfl) <| lp rfl (X_min rfl rfl) <| lp rfl (qA rfl) <| nx <| qn <| qt ?_
 obtain rfl := si H
 exact YW rfl (Gr.refl _ _ _) ks
theorem jx.calls {w : World} {a0 : List Int} {a1 : DSrc} {a2 : Int} {r : Int × DSrc} {wc : World} {cv : Value} {bs : Nat} (kc : Ext wc w) (fc : Rd 1 (Go.UL.encI .u8) wc cv a0) (hz : wc.heap.size ≤ bs) (ks : Blk w bs (vS cv a1).toArray 162) (H : (jx.sh a0 a1 a2) = some r) :
  Calls Tryz.prog 201 #[.pointer (some ⟨bs, 0, none⟩), .int .i64 a2] w (Rt (RS 162 bs cv w (.int .i64 r.1) r.2)) := jx.walk kc fc hz ks (jx.eq a0 a1 a2 H)
/-! (*spec.l00Src).pick -/
theorem jh.walk {w : World} {a0 : List Int} {a1 : DSrc} {a2 : List (List UInt8)} {wc : World} {cv : Value} {bs : Nat} (kc : Ext wc w) (fc : Rd 1 (Go.UL.encI .u8) wc cv a0) (hz : wc.heap.size ≤ bs) (ks : Blk w bs (vS cv a1).toArray 162) {v_a2 : Value} {B_a2 : Nat} (o_a2 : Ow 9 1 yK B_a2 w v_a2 a2) (l_a2 : bs + 1 ≤ B_a2) {r : List UInt8 × DSrc} (H : jh.sh a0 a1 a2 = some r) :
  Calls Tryz.prog 235 #[.pointer (some ⟨bs, 0, none⟩), v_a2] w (Rt (RS 162 bs cv w (S r.1) r.2)) := by
 unfold jh.sh at H
 refine qh Tryz.func235 rfl (Nat.le_of_ble_eq_true rfl) Tryz.ntmps235 rfl ?_
 refine wr <| lp rfl (xa (S ([] : List UInt8)) rfl) <| nx <| qj <| wr <| lp rfl (xm v_a2 rfl) <| lp rfl (qO Tryz.underlying42 rfl (Ow.rd o_a2)) <| lp rfl (yn rfl rfl) <| nx ?_
 rcases qd H with ⟨q1, H⟩ | ⟨q1, H⟩
 ·refine qk (cb q1) <| wr <| lp rfl (xa (S ([] : List UInt8)) rfl) <| nx <| qn <| qw <| qt ?_
  obtain rfl := si H
  exact YW rfl (Gr.refl _ _ _) ks
 ·refine qi (cb q1) <| qo <| qe <| wr <| lp rfl (xm v_a2 rfl) <| lp rfl (xm (.pointer (some ⟨bs, 0, none⟩)) rfl) <| lp rfl (xm v_a2 rfl) <| lp rfl (qO Tryz.underlying42 rfl (Ow.rd o_a2)) ?_
  obtain ⟨z2, x3, H⟩ := bind_some H
  refine yX (.plain rfl) rfl (ltb rfl) rfl Tryz.call195 (vt.calls (w := w) (a0 := a0) (a1 := a1) (a2 := (a2.length : Int)) kc fc hz ks x3) rfl <| fun w6 g7 k8 => ?_
  obtain ⟨c9, H⟩ := qa H
  refine q4 (.plain rfl) rfl (ltb rfl) rfl Tryz.underlying42 Tryz.sizeOf9 rfl (Ow.rd (Ow.later o_a2 g7 l_a2)) rfl c9 <| fun p10 h11 => lp rfl (yr Tryz.isAgg9 rfl h11 rfl) <| lp rfl (xa (S (gt a2 z2.1)) rfl) <| nx <| qn <| qt ?_
  obtain rfl := si H
  exact YW rfl g7 k8
theorem jh.calls {w : World} {a0 : List Int} {a1 : DSrc} {a2 : List (List UInt8)} {r : List UInt8 × DSrc} {wc : World} {cv : Value} {bs : Nat} (kc : Ext wc w) (fc : Rd 1 (Go.UL.encI .u8) wc cv a0) (hz : wc.heap.size ≤ bs) (ks : Blk w bs (vS cv a1).toArray 162) {v_a2 : Value} {B_a2 : Nat} (o_a2 : Ow 9 1 yK B_a2 w v_a2 a2) (l_a2 : bs + 1 ≤ B_a2) (H : (jh.sh a0 a1 a2) = some r) :
  Calls Tryz.prog 235 #[.pointer (some ⟨bs, 0, none⟩), v_a2] w (Rt (RS 162 bs cv w (S r.1) r.2)) := jh.walk kc fc hz ks o_a2 l_a2 (jh.eq a0 a1 a2 H)
/-! (*spec.l00Src).part -/
theorem yy.walk {w : World} {a0 : List Int} {a1 : DSrc} {wc : World} {cv : Value} {bs : Nat} (kc : Ext wc w) (fc : Rd 1 (Go.UL.encI .u8) wc cv a0) (hz : wc.heap.size ≤ bs) (ks : Blk w bs (vS cv a1).toArray 162) {r : List UInt8 × DSrc} (H : yy.sh a0 a1 = some r) :
  Calls Tryz.prog 229 #[.pointer (some ⟨bs, 0, none⟩)] w (Rt (RS 162 bs cv w (S r.1) r.2)) := by
 unfold yy.sh at H
 refine qh Tryz.func229 rfl (Nat.le_of_ble_eq_true rfl) Tryz.ntmps229 rfl ?_
 refine wr <| lp rfl (xa (S ([] : List UInt8)) rfl) <| nx <| wr <| lp rfl (xm (.pointer (some ⟨bs, 0, none⟩)) rfl) <| vO (.plain rfl) rfl (ltb rfl) rfl Tryz.underlying42 Tryz.sizeOf9 Tryz.zeroValue9 rfl rfl rfl (vs := [(S ([97] : List UInt8)), (S ([98] : List UInt8)), (S ([99] : List UInt8)), (S ([97, 46, 98] : List UInt8)), (S ([120] : List UInt8))]) rfl (qR rfl) <| fun b1 w2 z3 z4 e5 k6 => ?_
 obtain ⟨z7, x8, H⟩ := bind_some H
 refine yX (.plain rfl) rfl (ltb rfl) rfl Tryz.call235 (jh.calls (w := w2) (a0 := a0) (a1 := a1) (a2 := yy.lit1) (Ext.trans kc e5) fc hz (Blk.ext ks e5) (Ow.new (xs := yy.lit1) (sz := 1) (enc := yK) (base := w.heap.size) k6 (Nat.le_of_eq z3) rfl (fun _ _ => rfl) (Nat.le_of_ble_eq_true rfl)) (Nat.le_trans (Blk.lt ks) (Nat.le_refl _)) x8) rfl <| fun w11 g12 k13 => lp rfl (xa (S z7.1) rfl) <| nx <| qn <| qt ?_
 obtain rfl := si H
 exact YW rfl (Gr.trans (Gr.ext e5) g12) k13
theorem yy.calls {w : World} {a0 : List Int} {a1 : DSrc} {r : List UInt8 × DSrc} {wc : World} {cv : Value} {bs : Nat} (kc : Ext wc w) (fc : Rd 1 (Go.UL.encI .u8) wc cv a0) (hz : wc.heap.size ≤ bs) (ks : Blk w bs (vS cv a1).toArray 162) (H : (yy.sh a0 a1) = some r) :
  Calls Tryz.prog 229 #[.pointer (some ⟨bs, 0, none⟩)] w (Rt (RS 162 bs cv w (S r.1) r.2)) := yy.walk kc fc hz ks (yy.eq a0 a1 H)
end Go.Proofs.YtfefjaohlhkmaaaGreatDoor
