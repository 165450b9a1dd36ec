import Derived.Test.YtfefjaohlhkmaaaGreatDoorProg
import Derived.Test.YtfefjaohlhkmaaaGreatDoorUH
set_option linter.unusedVariables false
set_option linter.unusedSimpArgs false
set_option maxRecDepth 10000
namespace Go.Proofs.YtfefjaohlhkmaaaGreatDoor.UD
open Go.UD Go.RowKit
theorem yd.walk {w : World} {a0 : List UInt8} (gv : GV 0 w) {r : List (List UInt8)} (H : yd.sh a0 = some r) :
  Calls Tryz.prog 212 #[S a0] w (Rt (RO 9 1 yK w r)) := by
 unfold yd.sh at H
 refine qh Tryz.func212 rfl (Nat.le_of_ble_eq_true rfl) Tryz.ntmps212 rfl ?_
 refine qj <| qG <| yA (.plain rfl) rfl (ltb rfl) (qA (v := (.slice none 0 0)) rfl) <| qJ <| qe <| qj <| qG <| yA (.plain rfl) rfl (ltb rfl) (qf (v := (S a0)) rfl) ?_
 obtain ⟨c1, H⟩ := qa H
 obtain ⟨c2, H⟩ := qa H
 refine vp (.plain rfl) rfl (ltb rfl) rfl Tryz.call263 (strings_Split.calls (w := w) (a0 := a0) (a1 := ([47] : List UInt8)) gv (of_decide_eq_true c1) (of_decide_eq_true c2)) rfl <| fun v5 w3 e4 o6 => yA (.plain rfl) rfl (ltb rfl) (qA (v := v5) rfl) <| qJ <| qe <| qn <| qt ?_
 obtain rfl := Option.some.inj H
 exact Qi rfl e4 o6 ((Ext.refl w)).size
theorem yd.calls {w : World} {a0 : List UInt8} (gv : GV 0 w) (h0 : a0.length ≤ 1048576) :
  Calls Tryz.prog 212 #[S a0] w (Rt (RO 9 1 yK w (cut 47 a0))) := yd.walk gv (yd.eq a0 h0)
theorem ya.walk {w : World} {a0 : List UInt8} {r : Bool} (H : ya.sh a0 = some r) :
  Calls Tryz.prog 298 #[S a0] w (Rt (RP w (.bool r))) := by
 unfold ya.sh at H
 refine qh Tryz.func298 rfl (Nat.le_of_ble_eq_true rfl) Tryz.ntmps298 rfl ?_
 refine qj <| qG <| yA (.plain rfl) rfl (ltb rfl) (qA (v := (.bool false)) rfl) <| qJ <| qe <| qj <| qG <| yA (.plain rfl) rfl (ltb rfl) (qf (v := (S a0)) rfl) <| yA (.plain rfl) rfl (ltb rfl) (qf (v := (S a0)) rfl) <| yA (.plain rfl) rfl (ltb rfl) (VK rfl rfl) <| yA (.plain rfl) rfl (ltb rfl) (qA (v := (.bool (!decide (a0 = a0)))) rfl) <| qJ <| qe <| qn <| qt ?_
 obtain rfl := Option.some.inj H
 exact vh rfl (Ext.refl w)
theorem ya.calls {w : World} {a0 : List UInt8} :
  Calls Tryz.prog 298 #[S a0] w (Rt (RP w (.bool false))) := ya.walk (ya.eq a0)
theorem yf.walk {w : World} {a0 : List UInt8} {a1 : List UInt8} {r : Int} (H : yf.sh a0 a1 = some r) :
  Calls Tryz.prog 277 #[S a0, S a1] w (Rt (RP w (.int .i64 r))) := by
 unfold yf.sh at H
 refine qh Tryz.func277 rfl (Nat.le_of_ble_eq_true rfl) Tryz.ntmps277 rfl ?_
 refine qj <| qG <| yA (.plain rfl) rfl (ltb rfl) (qA (v := (.int .i64 0)) rfl) <| qJ <| qe <| qj <| qG <| yA (.plain rfl) rfl (ltb rfl) (qf (v := (S a0)) rfl) <| vy (.plain rfl) rfl (ltb rfl) rfl Tryz.call298 (ya.calls (w := w) (a0 := a0)) rfl <| fun w1 e2 => yA (.plain rfl) rfl (ltb rfl) (qA (v := (.bool false)) rfl) <| qJ <| qe <| qj <| qG <| yA (.plain rfl) rfl (ltb rfl) (qf (v := (S a1)) rfl) <| vy (.plain rfl) rfl (ltb rfl) rfl Tryz.call298 (ya.calls (w := w1) (a0 := a1)) rfl <| fun w3 e4 => yA (.plain rfl) rfl (ltb rfl) (qA (v := (.bool false)) rfl) <| qJ <| qe <| qj <| qj <| qG <| yA (.plain rfl) rfl (ltb rfl) (qf (v := (.bool false)) rfl) <| qJ <| qe ?_
 rcases qd H with ⟨q5, H⟩ | ⟨q5, H⟩
 ·refine qk (congrArg Value.bool q5) <| qj <| qj <| qG <| yA (.plain rfl) rfl (ltb rfl) (qf (v := (.bool false)) rfl) <| qJ <| qe ?_
  rcases qd H with ⟨q6, H⟩ | ⟨q6, H⟩
  ·refine qk (congrArg Value.bool q6) <| qj <| qG <| yA (.plain rfl) rfl (ltb rfl) (qA (v := (.int .i64 0)) rfl) <| qJ <| qe <| qn <| qw <| qw <| qt ?_
   obtain rfl := Option.some.inj H
   exact vh rfl (Ext.trans e2 e4)
  ·refine qi (congrArg Value.bool q6) <| qo <| qe <| qj <| qG <| yA (.plain rfl) rfl (ltb rfl) (qA (v := (.int .i64 (-1))) rfl) <| qJ <| qe <| qn <| qw <| qt ?_
   obtain rfl := Option.some.inj H
   exact vh rfl (Ext.trans e2 e4)
 ·refine qi (congrArg Value.bool q5) <| qo <| qe <| qj <| qj <| qG <| yA (.plain rfl) rfl (ltb rfl) (qf (v := (.bool false)) rfl) <| qJ <| qe ?_
  rcases qd H with ⟨q7, H⟩ | ⟨q7, H⟩
  ·refine qk (congrArg Value.bool q7) <| qj <| qG <| yA (.plain rfl) rfl (ltb rfl) (qA (v := (.int .i64 1)) rfl) <| qJ <| qe <| qn <| qw <| qt ?_
   obtain rfl := Option.some.inj H
   exact vh rfl (Ext.trans e2 e4)
  ·refine qi (congrArg Value.bool q7) <| qo <| qe <| qj <| qj <| qG <| yA (.plain rfl) rfl (ltb rfl) (qf (v := (S a0)) rfl) <| yA (.plain rfl) rfl (ltb rfl) (qf (v := (S a1)) rfl) <| yA (.plain rfl) rfl (ltb rfl) (X_slt rfl rfl) <| qJ <| qe ?_
   rcases qd H with ⟨q8, H⟩ | ⟨q8, H⟩
   ·refine qk (congrArg Value.bool q8) <| qj <| qG <| yA (.plain rfl) rfl (ltb rfl) (qA (v := (.int .i64 (-1))) rfl) <| qJ <| qe <| qn <| qw <| qt ?_
    obtain rfl := Option.some.inj H
    exact vh rfl (Ext.trans e2 e4)
   ·refine qi (congrArg Value.bool q8) <| qo <| qe <| qj <| qj <| qG <| yA (.plain rfl) rfl (ltb rfl) (qf (v := (S a0)) rfl) <| yA (.plain rfl) rfl (ltb rfl) (qf (v := (S a1)) rfl) <| yA (.plain rfl) rfl (ltb rfl) (X_sgt rfl rfl) <| qJ <| qe ?_
    rcases qd H with ⟨q9, H⟩ | ⟨q9, H⟩
    ·refine qk (congrArg Value.bool q9) <| qj <| qG <| yA (.plain rfl) rfl (ltb rfl) (qA (v := (.int .i64 1)) rfl) <| qJ <| qe <| qn <| qw <| qt ?_
     obtain rfl := Option.some.inj H
     exact vh rfl (Ext.trans e2 e4)
    ·refine qi (congrArg Value.bool q9) <| qo <| qe <| qj <| qG <| yA (.plain rfl) rfl (ltb rfl) (qA (v := (.int .i64 0)) rfl) <| qJ <| qe <| qn <| qt ?_
     obtain rfl := Option.some.inj H
     exact vh rfl (Ext.trans e2 e4)
theorem yf.calls {w : World} {a0 : List UInt8} {a1 : List UInt8} :
  Calls Tryz.prog 277 #[S a0, S a1] w (Rt (RP w (.int .i64 (cmpS a0 a1)))) := yf.walk (yf.eq a0 a1)
theorem qF.walk {k : Nat} {w : World} {a0 : List (List UInt8)} {a1 : List (List UInt8)} {v_a0 : Value} (f_a0 : Rd 1 yK w v_a0 a0) {v_a1 : Value} (f_a1 : Rd 1 yK w v_a1 a1) {r : Int} (H : qF.sh k a0 a1 = some r) :
  Calls Tryz.prog 246 #[v_a0, v_a1] w (Rt (RP w (.int .i64 r))) := by
 unfold qF.sh at H
 refine qh Tryz.func246 rfl (Nat.le_of_ble_eq_true rfl) Tryz.ntmps246 rfl ?_
 refine qj <| qG <| yA (.plain rfl) rfl (ltb rfl) (qA (v := (.int .i64 0)) rfl) <| qJ <| qe <| qj <| qj <| qG <| yA (.plain rfl) rfl (ltb rfl) (qf (v := v_a0) rfl) <| yA (.plain rfl) rfl (ltb rfl) (qO Tryz.underlying42 rfl f_a0) <| yA (.plain rfl) rfl (ltb rfl) (qf (v := (.int .i64 0)) rfl) <| qJ <| qe ?_
 obtain ⟨z2, L3, C4⟩ := bind_some H
 clear H
 refine  vD (fun s0 sQ wQ => Kp [(4, 9), (11, 31)] s0 sQ ∧ Ext w wQ ∧ z2 = .inr ()) ?_ ?_
 ·refine qB <| vo (fun s0 kk sQ wQ => ∃ (x11_1 : Int), Kp [(4, 9), (11, 31)] s0 sQ ∧ sQ 11 = .int .i64 x11_1 ∧ Ext w wQ ∧ qp (qF.b1 a0 a1) kk x11_1 = some z2) k ⟨0, (Kp.refl _ _), rfl, (Ext.refl w), L3⟩ ?_
  rintro k9 s10 w11 ⟨x11_1, K12, h15, e13, L14⟩
  cases k9 with
  | zero => exact absurd L14 (by simp [qp])
  | succ k9 =>
   obtain ⟨t16, H, S17⟩ := qK L14
   clear L14
   unfold qF.b1 at H
   refine qj <| qG <| yA (.plain rfl) rfl (ltb rfl) (yl h15 (K12 10 rfl)) <| qJ <| qe <| qj ?_
   rcases qd H with ⟨q18, H⟩ | ⟨q18, H⟩
   ·refine qk (congrArg Value.bool q18) <| qo <| qe <| qj <| qB <| qj <| qG <| yA (.plain rfl) rfl (ltb rfl) (qf (v := (.int .i64 x11_1)) h15) ?_
    obtain ⟨c19, H⟩ := qa H
    refine q4 (.plain rfl) rfl (ltb rfl) rfl Tryz.underlying42 Tryz.sizeOf9 (K12 9 rfl) (Rd.ext f_a0 e13) h15 c19 <| fun p20 h21 => yA (.plain rfl) rfl (ltb rfl) (yr Tryz.isAgg9 rfl h21 rfl) <| yA (.plain rfl) rfl (ltb rfl) (qA (v := (.int .i64 x11_1)) rfl) <| yA (.plain rfl) rfl (ltb rfl) (qA (v := (S (gt a0 x11_1))) rfl) <| qJ <| qe <| qj <| qj <| qG <| yA (.plain rfl) rfl (ltb rfl) (qf (v := (.int .i64 x11_1)) rfl) <| yA (.plain rfl) rfl (ltb rfl) (qf (v := v_a1) (K12 1 rfl)) <| yA (.plain rfl) rfl (ltb rfl) (qO Tryz.underlying42 rfl (Rd.ext f_a1 e13)) <| yA (.plain rfl) rfl (ltb rfl) (VQ rfl rfl) <| qJ <| qe ?_
    rcases qd H with ⟨q22, H⟩ | ⟨q22, H⟩
    ·refine qk (congrArg Value.bool q22) <| qj <| qG <| yA (.plain rfl) rfl (ltb rfl) (qA (v := (.int .i64 1)) rfl) <| qJ <| qe <| qn <| qw <| vv <| qw <| qw <| vv <| qw <| qw <| qt ?_
     obtain rfl := Option.some.inj H
     obtain rfl := Option.some.inj S17
     have H := C4
     obtain rfl := Option.some.inj H
     exact vh rfl e13
    ·refine qi (congrArg Value.bool q22) <| qo <| qe <| qj <| qG <| yA (.plain rfl) rfl (ltb rfl) (qf (v := v_a1) (K12 1 rfl)) <| yA (.plain rfl) rfl (ltb rfl) (qf (v := (.int .i64 x11_1)) rfl) ?_
     obtain ⟨c23, H⟩ := qa H
     refine q4 (.plain rfl) rfl (ltb rfl) rfl Tryz.underlying42 Tryz.sizeOf9 rfl (Rd.ext f_a1 e13) rfl c23 <| fun p24 h25 => yA (.plain rfl) rfl (ltb rfl) (yr Tryz.isAgg9 rfl h25 rfl) <| yA (.plain rfl) rfl (ltb rfl) (qA (v := (S (gt a1 x11_1))) rfl) <| qJ <| qe <| qj <| qG <| yA (.plain rfl) rfl (ltb rfl) (qf (v := (S (gt a0 x11_1))) rfl) <| yA (.plain rfl) rfl (ltb rfl) (qf (v := (S (gt a1 x11_1))) rfl) <| vy (.plain rfl) rfl (ltb rfl) rfl Tryz.call277 (yf.calls (w := w11) (a0 := gt a0 x11_1) (a1 := gt a1 x11_1)) rfl <| fun w26 e27 => yA (.plain rfl) rfl (ltb rfl) (qA (v := (.int .i64 (cmpS (gt a0 x11_1) (gt a1 x11_1)))) rfl) <| qJ <| qe <| qj <| qG <| yA (.plain rfl) rfl (ltb rfl) (qf (v := (.int .i64 (cmpS (gt a0 x11_1) (gt a1 x11_1)))) rfl) <| yA (.plain rfl) rfl (ltb rfl) (j6 rfl rfl) <| qJ <| qe ?_
     rcases qd H with ⟨q28, H⟩ | ⟨q28, H⟩
     ·refine qk (congrArg Value.bool q28) <| qj <| qG <| yA (.plain rfl) rfl (ltb rfl) (qf (v := (.int .i64 (cmpS (gt a0 x11_1) (gt a1 x11_1)))) rfl) <| yA (.plain rfl) rfl (ltb rfl) (qA (v := (.int .i64 (cmpS (gt a0 x11_1) (gt a1 x11_1)))) rfl) <| qJ <| qe <| qn <| vv <| qw <| qw <| vv <| qw <| qw <| qt ?_
      obtain rfl := Option.some.inj H
      obtain rfl := Option.some.inj S17
      have H := C4
      obtain rfl := Option.some.inj H
      exact vh rfl (Ext.trans e13 e27)
     ·refine qi (congrArg Value.bool q28) <| qo <| vk <| qe <| qG <| yA (.plain rfl) rfl (ltb rfl) (vi h15 rfl) <| yA (.plain rfl) rfl (ltb rfl) (qf (v := (.int .i64 (IntKind.wrap .i64 (x11_1 + 1)))) rfl) <| qJ <| qe ?_
      obtain rfl := Option.some.inj H
      exact ⟨_, Nat.lt_succ_self _, IntKind.wrap .i64 (x11_1 + 1), (Kp.upd (Kp.upd (Kp.upd (Kp.upd (Kp.upd (Kp.upd (Kp.upd (Kp.upd (Kp.upd (Kp.upd (Kp.upd (Kp.upd (Kp.upd (Kp.upd (Kp.upd (Kp.upd (Kp.upd (Kp.upd (Kp.upd (Kp.upd (Kp.upd (Kp.upd (Kp.upd K12 rfl) rfl) rfl) rfl) rfl) rfl) rfl) rfl) rfl) rfl) rfl) rfl) rfl) rfl) rfl) rfl) rfl) rfl) rfl) rfl) rfl) rfl) rfl), rfl, (Ext.trans e13 e27), S17⟩
   ·refine qi (congrArg Value.bool q18) <| vH <| qY <| qY <| yF <| qe ?_
    obtain rfl := Option.some.inj H
    obtain rfl := Option.some.inj S17
    exact ⟨(Kp.upd K12 rfl), e13, rfl⟩
 ·rintro s6 w5 ⟨K7, e8, y29⟩
  rw [y29] at C4
  have H := C4
  replace H : _ = some _ := H
  refine qe <| qj <| qj <| qG <| yA (.plain rfl) rfl (ltb rfl) (qf (v := v_a0) (K7 0 rfl)) <| yA (.plain rfl) rfl (ltb rfl) (qO Tryz.underlying42 rfl (Rd.ext f_a0 e8)) <| yA (.plain rfl) rfl (ltb rfl) (qf (v := v_a1) (K7 1 rfl)) <| yA (.plain rfl) rfl (ltb rfl) (qO Tryz.underlying42 rfl (Rd.ext f_a1 e8)) <| yA (.plain rfl) rfl (ltb rfl) (yl rfl rfl) <| qJ <| qe ?_
  rcases qd H with ⟨q30, H⟩ | ⟨q30, H⟩
  ·refine qk (congrArg Value.bool q30) <| qj <| qG <| yA (.plain rfl) rfl (ltb rfl) (qA (v := (.int .i64 (-1))) rfl) <| qJ <| qe <| qn <| qw <| qt ?_
   obtain rfl := Option.some.inj H
   exact vh rfl e8
  ·refine qi (congrArg Value.bool q30) <| qo <| qe <| qj <| qG <| yA (.plain rfl) rfl (ltb rfl) (qA (v := (.int .i64 0)) rfl) <| qJ <| qe <| qn <| qt ?_
   obtain rfl := Option.some.inj H
   exact vh rfl e8
theorem qF.calls {w : World} {a0 : List (List UInt8)} {a1 : List (List UInt8)} {v_a0 : Value} (f_a0 : Rd 1 yK w v_a0 a0) {v_a1 : Value} (f_a1 : Rd 1 yK w v_a1 a1) (h0 : a0.length ≤ 4611686018427387904) (h1 : a1.length ≤ 4611686018427387904) :
  Calls Tryz.prog 246 #[v_a0, v_a1] w (Rt (RP w (.int .i64 (cmpL a0 a1)))) := by
 obtain ⟨k, h⟩ := qF.eq a0 a1 h0 h1
 exact qF.walk f_a0 f_a1 h
theorem impl_compare.walk {w : World} {a0 : List UInt8} {a1 : List UInt8} (gv : GV 0 w) {r : Int} (H : impl_compare.sh a0 a1 = some r) :
  Calls Tryz.prog 181 #[S a0, S a1] w (Rt (RP w (.int .i64 r))) := by
 unfold impl_compare.sh at H
 refine qh Tryz.func181 rfl (Nat.le_of_ble_eq_true rfl) Tryz.ntmps181 rfl ?_
 refine qj <| qG <| yA (.plain rfl) rfl (ltb rfl) (qA (v := (.int .i64 0)) rfl) <| qJ <| qe <| qj <| qG <| yA (.plain rfl) rfl (ltb rfl) (qf (v := (S a0)) rfl) ?_
 obtain ⟨c1, H⟩ := qa H
 refine vp (.plain rfl) rfl (ltb rfl) rfl Tryz.call212 (yd.calls (w := w) (a0 := a0) gv (of_decide_eq_true c1)) rfl <| fun v4 w2 e3 o5 => yA (.plain rfl) rfl (ltb rfl) (qf (v := (S a1)) rfl) ?_
 obtain ⟨c6, H⟩ := qa H
 refine vp (.plain rfl) rfl (ltb rfl) rfl Tryz.call212 (yd.calls (w := w2) (a0 := a1) (GV.ext gv e3) (of_decide_eq_true c6)) rfl <| fun v9 w7 e8 o10 => ?_
 obtain ⟨c11, H⟩ := qa H
 obtain ⟨c12, H⟩ := qa H
 refine vy (.plain rfl) rfl (ltb rfl) rfl Tryz.call246 (qF.calls (w := w7) (a0 := (cut 47 a0)) (a1 := (cut 47 a1)) (Ow.rd (Ow.ext o5 e8)) (Ow.rd o10) (of_decide_eq_true c11) (of_decide_eq_true c12)) rfl <| fun w13 e14 => yA (.plain rfl) rfl (ltb rfl) (qA (v := (.int .i64 (cmpL (cut 47 a0) (cut 47 a1)))) rfl) <| qJ <| qe <| qn <| qt ?_
 obtain rfl := Option.some.inj H
 exact vh rfl (Ext.trans (Ext.trans e3 e8) e14)
theorem impl_compare.calls {w : World} {a0 : List UInt8} {a1 : List UInt8} (gv : GV 0 w) (h0 : a0.length ≤ 1048576) (h1 : a1.length ≤ 1048576) :
  Calls Tryz.prog 181 #[S a0, S a1] w (Rt (RP w (.int .i64 (cmpL (cut 47 a0) (cut 47 a1))))) := impl_compare.walk gv (impl_compare.eq a0 a1 h0 h1)
end Go.Proofs.YtfefjaohlhkmaaaGreatDoor.UD
