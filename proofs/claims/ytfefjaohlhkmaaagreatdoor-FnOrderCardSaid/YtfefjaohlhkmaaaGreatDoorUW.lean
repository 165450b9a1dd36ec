/- The walks, by program (wip/tools). -/
import Derived.Test.YtfefjaohlhkmaaaGreatDoorProg
import Derived.Test.YtfefjaohlhkmaaaGreatDoorUH
set_option linter.unusedVariables false
set_option linter.unusedSimpArgs false
set_option maxRecDepth 10000
namespace Go.Proofs.YtfefjaohlhkmaaaGreatDoor.UD
open Go.UD Go.RowKit
/-! impl.parts -/
theorem impl_parts.walk {w : World} {a0 : List UInt8} (gv : GV 0 w) {r : List (List UInt8)} (H : impl_parts.sh a0 = some r) :
    Calls Tryz.prog 212 #[S a0] w (Rt (RO 9 1 encS w r)) := by
  unfold impl_parts.sh at H
  refine calls_of_W Tryz.func212 rfl (Nat.le_of_ble_eq_true rfl) Tryz.ntmps212 rfl ?_
  refine W_seq <| W_reg <| L_op (.plain rfl) rfl (ltb rfl) (X_assign (v := (.slice none 0 0)) rfl) <| L_nil <| thn_n <| W_seq <| W_reg <| L_op (.plain rfl) rfl (ltb rfl) (X_move (v := (S a0)) rfl) ?_
  obtain ⟨c1, H⟩ := bif_some H
  obtain ⟨c2, H⟩ := bif_some H
  refine L_callO (.plain rfl) rfl (ltb rfl) rfl Tryz.call263 (strings_Split.calls (w := w) (a0 := a0) (a1 := ([47] : List UInt8)) gv (of_decide_eq_true c1) (of_decide_eq_true c2)) rfl <| fun v5 w3 e4 o6 => L_op (.plain rfl) rfl (ltb rfl) (X_assign (v := v5) rfl) <| L_nil <| thn_n <| W_ret <| fin_r ?_
  obtain rfl := Option.some.inj H
  exact fin1o rfl e4 o6 ((Ext.refl w)).size
theorem impl_parts.calls {w : World} {a0 : List UInt8} (gv : GV 0 w) (h0 : a0.length ≤ 1048576) :
    Calls Tryz.prog 212 #[S a0] w (Rt (RO 9 1 encS w (cut 47 a0))) := impl_parts.walk gv (impl_parts.eq a0 h0)
/-! cmp.isNaN(string) -/
theorem cmp_isNaNS.walk {w : World} {a0 : List UInt8} {r : Bool} (H : cmp_isNaNS.sh a0 = some r) :
    Calls Tryz.prog 298 #[S a0] w (Rt (RP w (.bool r))) := by
  unfold cmp_isNaNS.sh at H
  refine calls_of_W Tryz.func298 rfl (Nat.le_of_ble_eq_true rfl) Tryz.ntmps298 rfl ?_
  refine W_seq <| W_reg <| L_op (.plain rfl) rfl (ltb rfl) (X_assign (v := (.bool false)) rfl) <| L_nil <| thn_n <| W_seq <| W_reg <| L_op (.plain rfl) rfl (ltb rfl) (X_move (v := (S a0)) rfl) <| L_op (.plain rfl) rfl (ltb rfl) (X_move (v := (S a0)) rfl) <| L_op (.plain rfl) rfl (ltb rfl) (X_sne rfl rfl) <| L_op (.plain rfl) rfl (ltb rfl) (X_assign (v := (.bool (!decide (a0 = a0)))) rfl) <| L_nil <| thn_n <| W_ret <| fin_r ?_
  obtain rfl := Option.some.inj H
  exact fin1 rfl (Ext.refl w)
theorem cmp_isNaNS.calls {w : World} {a0 : List UInt8} :
    Calls Tryz.prog 298 #[S a0] w (Rt (RP w (.bool false))) := cmp_isNaNS.walk (cmp_isNaNS.eq a0)
/-! cmp.Compare(string) -/
theorem cmp_CompareS.walk {w : World} {a0 : List UInt8} {a1 : List UInt8} {r : Int} (H : cmp_CompareS.sh a0 a1 = some r) :
    Calls Tryz.prog 277 #[S a0, S a1] w (Rt (RP w (.int .i64 r))) := by
  unfold cmp_CompareS.sh at H
  refine calls_of_W Tryz.func277 rfl (Nat.le_of_ble_eq_true rfl) Tryz.ntmps277 rfl ?_
  refine W_seq <| W_reg <| L_op (.plain rfl) rfl (ltb rfl) (X_assign (v := (.int .i64 0)) rfl) <| L_nil <| thn_n <| W_seq <| W_reg <| L_op (.plain rfl) rfl (ltb rfl) (X_move (v := (S a0)) rfl) <| L_callP (.plain rfl) rfl (ltb rfl) rfl Tryz.call298 (cmp_isNaNS.calls (w := w) (a0 := a0)) rfl <| fun w1 e2 => L_op (.plain rfl) rfl (ltb rfl) (X_assign (v := (.bool false)) rfl) <| L_nil <| thn_n <| W_seq <| W_reg <| L_op (.plain rfl) rfl (ltb rfl) (X_move (v := (S a1)) rfl) <| L_callP (.plain rfl) rfl (ltb rfl) rfl Tryz.call298 (cmp_isNaNS.calls (w := w1) (a0 := a1)) rfl <| fun w3 e4 => L_op (.plain rfl) rfl (ltb rfl) (X_assign (v := (.bool false)) rfl) <| L_nil <| thn_n <| W_seq <| W_seq <| W_reg <| L_op (.plain rfl) rfl (ltb rfl) (X_move (v := (.bool false)) rfl) <| L_nil <| thn_n ?_
  rcases bif_two H with ⟨q5, H⟩ | ⟨q5, H⟩
  · refine W_true (congrArg Value.bool q5) <| W_seq <| W_seq <| W_reg <| L_op (.plain rfl) rfl (ltb rfl) (X_move (v := (.bool false)) rfl) <| L_nil <| thn_n ?_
    rcases bif_two H with ⟨q6, H⟩ | ⟨q6, H⟩
    · refine W_true (congrArg Value.bool q6) <| W_seq <| W_reg <| L_op (.plain rfl) rfl (ltb rfl) (X_assign (v := (.int .i64 0)) rfl) <| L_nil <| thn_n <| W_ret <| thn_r <| thn_r <| fin_r ?_
      obtain rfl := Option.some.inj H
      exact fin1 rfl (Ext.trans e2 e4)
    · refine W_false (congrArg Value.bool q6) <| W_skip <| thn_n <| W_seq <| W_reg <| L_op (.plain rfl) rfl (ltb rfl) (X_assign (v := (.int .i64 (-1))) rfl) <| L_nil <| thn_n <| W_ret <| thn_r <| fin_r ?_
      obtain rfl := Option.some.inj H
      exact fin1 rfl (Ext.trans e2 e4)
  · refine W_false (congrArg Value.bool q5) <| W_skip <| thn_n <| W_seq <| W_seq <| W_reg <| L_op (.plain rfl) rfl (ltb rfl) (X_move (v := (.bool false)) rfl) <| L_nil <| thn_n ?_
    rcases bif_two H with ⟨q7, H⟩ | ⟨q7, H⟩
    · refine W_true (congrArg Value.bool q7) <| W_seq <| W_reg <| L_op (.plain rfl) rfl (ltb rfl) (X_assign (v := (.int .i64 1)) rfl) <| L_nil <| thn_n <| W_ret <| thn_r <| fin_r ?_
      obtain rfl := Option.some.inj H
      exact fin1 rfl (Ext.trans e2 e4)
    · refine W_false (congrArg Value.bool q7) <| W_skip <| thn_n <| W_seq <| W_seq <| W_reg <| L_op (.plain rfl) rfl (ltb rfl) (X_move (v := (S a0)) rfl) <| L_op (.plain rfl) rfl (ltb rfl) (X_move (v := (S a1)) rfl) <| L_op (.plain rfl) rfl (ltb rfl) (X_slt rfl rfl) <| L_nil <| thn_n ?_
      rcases bif_two H with ⟨q8, H⟩ | ⟨q8, H⟩
      · refine W_true (congrArg Value.bool q8) <| W_seq <| W_reg <| L_op (.plain rfl) rfl (ltb rfl) (X_assign (v := (.int .i64 (-1))) rfl) <| L_nil <| thn_n <| W_ret <| thn_r <| fin_r ?_
        obtain rfl := Option.some.inj H
        exact fin1 rfl (Ext.trans e2 e4)
      · refine W_false (congrArg Value.bool q8) <| W_skip <| thn_n <| W_seq <| W_seq <| W_reg <| L_op (.plain rfl) rfl (ltb rfl) (X_move (v := (S a0)) rfl) <| L_op (.plain rfl) rfl (ltb rfl) (X_move (v := (S a1)) rfl) <| L_op (.plain rfl) rfl (ltb rfl) (X_sgt rfl rfl) <| L_nil <| thn_n ?_
        rcases bif_two H with ⟨q9, H⟩ | ⟨q9, H⟩
        · refine W_true (congrArg Value.bool q9) <| W_seq <| W_reg <| L_op (.plain rfl) rfl (ltb rfl) (X_assign (v := (.int .i64 1)) rfl) <| L_nil <| thn_n <| W_ret <| thn_r <| fin_r ?_
          obtain rfl := Option.some.inj H
          exact fin1 rfl (Ext.trans e2 e4)
        · refine W_false (congrArg Value.bool q9) <| W_skip <| thn_n <| W_seq <| W_reg <| L_op (.plain rfl) rfl (ltb rfl) (X_assign (v := (.int .i64 0)) rfl) <| L_nil <| thn_n <| W_ret <| fin_r ?_
          obtain rfl := Option.some.inj H
          exact fin1 rfl (Ext.trans e2 e4)
theorem cmp_CompareS.calls {w : World} {a0 : List UInt8} {a1 : List UInt8} :
    Calls Tryz.prog 277 #[S a0, S a1] w (Rt (RP w (.int .i64 (cmpS a0 a1)))) := cmp_CompareS.walk (cmp_CompareS.eq a0 a1)
/-! slices.Compare(()string,string) -/
theorem slices_CompareS.walk {k : Nat} {w : World} {a0 : List (List UInt8)} {a1 : List (List UInt8)} {v_a0 : Value} (f_a0 : Rd 1 encS w v_a0 a0) {v_a1 : Value} (f_a1 : Rd 1 encS w v_a1 a1) {r : Int} (H : slices_CompareS.sh k a0 a1 = some r) :
    Calls Tryz.prog 246 #[v_a0, v_a1] w (Rt (RP w (.int .i64 r))) := by
  unfold slices_CompareS.sh at H
  refine calls_of_W Tryz.func246 rfl (Nat.le_of_ble_eq_true rfl) Tryz.ntmps246 rfl ?_
  refine W_seq <| W_reg <| L_op (.plain rfl) rfl (ltb rfl) (X_assign (v := (.int .i64 0)) rfl) <| L_nil <| thn_n <| W_seq <| W_seq <| W_reg <| L_op (.plain rfl) rfl (ltb rfl) (X_move (v := v_a0) rfl) <| L_op (.plain rfl) rfl (ltb rfl) (X_lenR Tryz.underlying42 rfl f_a0) <| L_op (.plain rfl) rfl (ltb rfl) (X_move (v := (.int .i64 0)) rfl) <| L_nil <| thn_n ?_
  obtain ⟨z2, L3, C4⟩ := bind_some H
  clear H
  refine  W_cutQ (fun s0 sQ wQ => Kp [(4, 9), (11, 31)] s0 sQ ∧ Ext w wQ ∧ z2 = .inr ()) ?_ ?_
  · refine W_block <| W_loopI (fun s0 kk sQ wQ => ∃ (x11_1 : Int), Kp [(4, 9), (11, 31)] s0 sQ ∧ sQ 11 = .int .i64 x11_1 ∧ Ext w wQ ∧ loopF (slices_CompareS.b1 a0 a1) kk x11_1 = some z2) k ⟨0, (Kp.refl _ _), rfl, (Ext.refl w), L3⟩ ?_
    rintro k9 s10 w11 ⟨x11_1, K12, h15, e13, L14⟩
    cases k9 with
    | zero => exact absurd L14 (by simp [loopF])
    | succ k9 =>
      obtain ⟨t16, H, S17⟩ := loopF_succ L14
      clear L14
      unfold slices_CompareS.b1 at H
      refine W_seq <| W_reg <| L_op (.plain rfl) rfl (ltb rfl) (X_lss h15 (K12 10 rfl)) <| L_nil <| thn_n <| W_seq ?_
      rcases bif_two H with ⟨q18, H⟩ | ⟨q18, H⟩
      · refine W_true (congrArg Value.bool q18) <| W_skip <| thn_n <| W_seq <| W_block <| W_seq <| W_reg <| L_op (.plain rfl) rfl (ltb rfl) (X_move (v := (.int .i64 x11_1)) h15) ?_
        obtain ⟨c19, H⟩ := bif_some H
        refine L_idx (.plain rfl) rfl (ltb rfl) rfl Tryz.underlying42 Tryz.sizeOf9 (K12 9 rfl) (Rd.ext f_a0 e13) h15 c19 <| fun p20 h21 => L_op (.plain rfl) rfl (ltb rfl) (X_loadAt Tryz.isAgg9 rfl h21 rfl) <| L_op (.plain rfl) rfl (ltb rfl) (X_assign (v := (.int .i64 x11_1)) rfl) <| L_op (.plain rfl) rfl (ltb rfl) (X_assign (v := (S (gt a0 x11_1))) rfl) <| L_nil <| thn_n <| W_seq <| W_seq <| W_reg <| L_op (.plain rfl) rfl (ltb rfl) (X_move (v := (.int .i64 x11_1)) rfl) <| L_op (.plain rfl) rfl (ltb rfl) (X_move (v := v_a1) (K12 1 rfl)) <| L_op (.plain rfl) rfl (ltb rfl) (X_lenR Tryz.underlying42 rfl (Rd.ext f_a1 e13)) <| L_op (.plain rfl) rfl (ltb rfl) (X_geq rfl rfl) <| L_nil <| thn_n ?_
        rcases bif_two H with ⟨q22, H⟩ | ⟨q22, H⟩
        · refine W_true (congrArg Value.bool q22) <| W_seq <| W_reg <| L_op (.plain rfl) rfl (ltb rfl) (X_assign (v := (.int .i64 1)) rfl) <| L_nil <| thn_n <| W_ret <| thn_r <| blk_r <| thn_r <| thn_r <| blk_r <| thn_r <| thn_r <| fin_r ?_
          obtain rfl := Option.some.inj H
          obtain rfl := Option.some.inj S17
          have H := C4
          obtain rfl := Option.some.inj H
          exact fin1 rfl e13
        · refine W_false (congrArg Value.bool q22) <| W_skip <| thn_n <| W_seq <| W_reg <| L_op (.plain rfl) rfl (ltb rfl) (X_move (v := v_a1) (K12 1 rfl)) <| L_op (.plain rfl) rfl (ltb rfl) (X_move (v := (.int .i64 x11_1)) rfl) ?_
          obtain ⟨c23, H⟩ := bif_some H
          refine L_idx (.plain rfl) rfl (ltb rfl) rfl Tryz.underlying42 Tryz.sizeOf9 rfl (Rd.ext f_a1 e13) rfl c23 <| fun p24 h25 => L_op (.plain rfl) rfl (ltb rfl) (X_loadAt Tryz.isAgg9 rfl h25 rfl) <| L_op (.plain rfl) rfl (ltb rfl) (X_assign (v := (S (gt a1 x11_1))) rfl) <| L_nil <| thn_n <| W_seq <| W_reg <| L_op (.plain rfl) rfl (ltb rfl) (X_move (v := (S (gt a0 x11_1))) rfl) <| L_op (.plain rfl) rfl (ltb rfl) (X_move (v := (S (gt a1 x11_1))) rfl) <| L_callP (.plain rfl) rfl (ltb rfl) rfl Tryz.call277 (cmp_CompareS.calls (w := w11) (a0 := gt a0 x11_1) (a1 := gt a1 x11_1)) rfl <| fun w26 e27 => L_op (.plain rfl) rfl (ltb rfl) (X_assign (v := (.int .i64 (cmpS (gt a0 x11_1) (gt a1 x11_1)))) rfl) <| L_nil <| thn_n <| W_seq <| W_reg <| L_op (.plain rfl) rfl (ltb rfl) (X_move (v := (.int .i64 (cmpS (gt a0 x11_1) (gt a1 x11_1)))) rfl) <| L_op (.plain rfl) rfl (ltb rfl) (X_neq rfl rfl) <| L_nil <| thn_n ?_
          rcases bif_two H with ⟨q28, H⟩ | ⟨q28, H⟩
          · refine W_true (congrArg Value.bool q28) <| W_seq <| W_reg <| L_op (.plain rfl) rfl (ltb rfl) (X_move (v := (.int .i64 (cmpS (gt a0 x11_1) (gt a1 x11_1)))) rfl) <| L_op (.plain rfl) rfl (ltb rfl) (X_assign (v := (.int .i64 (cmpS (gt a0 x11_1) (gt a1 x11_1)))) rfl) <| L_nil <| thn_n <| W_ret <| blk_r <| thn_r <| thn_r <| blk_r <| thn_r <| thn_r <| fin_r ?_
            obtain rfl := Option.some.inj H
            obtain rfl := Option.some.inj S17
            have H := C4
            obtain rfl := Option.some.inj H
            exact fin1 rfl (Ext.trans e13 e27)
          · refine W_false (congrArg Value.bool q28) <| W_skip <| blk_n <| thn_n <| W_reg <| L_op (.plain rfl) rfl (ltb rfl) (X_add h15 rfl) <| L_op (.plain rfl) rfl (ltb rfl) (X_move (v := (.int .i64 (IntKind.wrap .i64 (x11_1 + 1)))) rfl) <| L_nil <| thn_n ?_
            obtain rfl := Option.some.inj H
            exact ⟨_, Nat.lt_succ_self _, IntKind.wrap .i64 (x11_1 + 1), (Kp.upd (Kp.upd (Kp.upd (Kp.upd (Kp.upd (Kp.upd (Kp.upd (Kp.upd (Kp.upd (Kp.upd (Kp.upd (Kp.upd (Kp.upd (Kp.upd (Kp.upd (Kp.upd (Kp.upd (Kp.upd (Kp.upd (Kp.upd (Kp.upd (Kp.upd (Kp.upd K12 rfl) rfl) rfl) rfl) rfl) rfl) rfl) rfl) rfl) rfl) rfl) rfl) rfl) rfl) rfl) rfl) rfl) rfl) rfl) rfl) rfl) rfl) rfl), rfl, (Ext.trans e13 e27), S17⟩
      · refine W_false (congrArg Value.bool q18) <| W_exit <| thn_x <| thn_x <| blk_x <| thn_n ?_
        obtain rfl := Option.some.inj H
        obtain rfl := Option.some.inj S17
        exact ⟨(Kp.upd K12 rfl), e13, rfl⟩
  · rintro s6 w5 ⟨K7, e8, y29⟩
    rw [y29] at C4
    have H := C4
    replace H : _ = some _ := H
    refine thn_n <| W_seq <| W_seq <| W_reg <| L_op (.plain rfl) rfl (ltb rfl) (X_move (v := v_a0) (K7 0 rfl)) <| L_op (.plain rfl) rfl (ltb rfl) (X_lenR Tryz.underlying42 rfl (Rd.ext f_a0 e8)) <| L_op (.plain rfl) rfl (ltb rfl) (X_move (v := v_a1) (K7 1 rfl)) <| L_op (.plain rfl) rfl (ltb rfl) (X_lenR Tryz.underlying42 rfl (Rd.ext f_a1 e8)) <| L_op (.plain rfl) rfl (ltb rfl) (X_lss rfl rfl) <| L_nil <| thn_n ?_
    rcases bif_two H with ⟨q30, H⟩ | ⟨q30, H⟩
    · refine W_true (congrArg Value.bool q30) <| W_seq <| W_reg <| L_op (.plain rfl) rfl (ltb rfl) (X_assign (v := (.int .i64 (-1))) rfl) <| L_nil <| thn_n <| W_ret <| thn_r <| fin_r ?_
      obtain rfl := Option.some.inj H
      exact fin1 rfl e8
    · refine W_false (congrArg Value.bool q30) <| W_skip <| thn_n <| W_seq <| W_reg <| L_op (.plain rfl) rfl (ltb rfl) (X_assign (v := (.int .i64 0)) rfl) <| L_nil <| thn_n <| W_ret <| fin_r ?_
      obtain rfl := Option.some.inj H
      exact fin1 rfl e8
theorem slices_CompareS.calls {w : World} {a0 : List (List UInt8)} {a1 : List (List UInt8)} {v_a0 : Value} (f_a0 : Rd 1 encS w v_a0 a0) {v_a1 : Value} (f_a1 : Rd 1 encS w v_a1 a1) (h0 : a0.length ≤ 4611686018427387904) (h1 : a1.length ≤ 4611686018427387904) :
    Calls Tryz.prog 246 #[v_a0, v_a1] w (Rt (RP w (.int .i64 (cmpL a0 a1)))) := by
  obtain ⟨k, h⟩ := slices_CompareS.eq a0 a1 h0 h1
  exact slices_CompareS.walk f_a0 f_a1 h
/-! impl.compare -/
theorem impl_compare.walk {w : World} {a0 : List UInt8} {a1 : List UInt8} (gv : GV 0 w) {r : Int} (H : impl_compare.sh a0 a1 = some r) :
    Calls Tryz.prog 181 #[S a0, S a1] w (Rt (RP w (.int .i64 r))) := by
  unfold impl_compare.sh at H
  refine calls_of_W Tryz.func181 rfl (Nat.le_of_ble_eq_true rfl) Tryz.ntmps181 rfl ?_
  refine W_seq <| W_reg <| L_op (.plain rfl) rfl (ltb rfl) (X_assign (v := (.int .i64 0)) rfl) <| L_nil <| thn_n <| W_seq <| W_reg <| L_op (.plain rfl) rfl (ltb rfl) (X_move (v := (S a0)) rfl) ?_
  obtain ⟨c1, H⟩ := bif_some H
  refine L_callO (.plain rfl) rfl (ltb rfl) rfl Tryz.call212 (impl_parts.calls (w := w) (a0 := a0) gv (of_decide_eq_true c1)) rfl <| fun v4 w2 e3 o5 => L_op (.plain rfl) rfl (ltb rfl) (X_move (v := (S a1)) rfl) ?_
  obtain ⟨c6, H⟩ := bif_some H
  refine L_callO (.plain rfl) rfl (ltb rfl) rfl Tryz.call212 (impl_parts.calls (w := w2) (a0 := a1) (GV.ext gv e3) (of_decide_eq_true c6)) rfl <| fun v9 w7 e8 o10 => ?_
  obtain ⟨c11, H⟩ := bif_some H
  obtain ⟨c12, H⟩ := bif_some H
  refine L_callP (.plain rfl) rfl (ltb rfl) rfl Tryz.call246 (slices_CompareS.calls (w := w7) (a0 := (cut 47 a0)) (a1 := (cut 47 a1)) (Ow.rd (Ow.ext o5 e8)) (Ow.rd o10) (of_decide_eq_true c11) (of_decide_eq_true c12)) rfl <| fun w13 e14 => L_op (.plain rfl) rfl (ltb rfl) (X_assign (v := (.int .i64 (cmpL (cut 47 a0) (cut 47 a1)))) rfl) <| L_nil <| thn_n <| W_ret <| fin_r ?_
  obtain rfl := Option.some.inj H
  exact fin1 rfl (Ext.trans (Ext.trans e3 e8) e14)
theorem impl_compare.calls {w : World} {a0 : List UInt8} {a1 : List UInt8} (gv : GV 0 w) (h0 : a0.length ≤ 1048576) (h1 : a1.length ≤ 1048576) :
    Calls Tryz.prog 181 #[S a0, S a1] w (Rt (RP w (.int .i64 (cmpL (cut 47 a0) (cut 47 a1))))) := impl_compare.walk gv (impl_compare.eq a0 a1 h0 h1)
end Go.Proofs.YtfefjaohlhkmaaaGreatDoor.UD
