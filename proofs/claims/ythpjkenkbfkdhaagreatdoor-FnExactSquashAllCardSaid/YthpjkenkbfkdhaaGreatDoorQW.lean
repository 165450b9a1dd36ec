/- The walks, by program (wip/tools). -/
import Derived.Test.YthpjkenkbfkdhaaGreatDoorProg
import Derived.Test.YthpjkenkbfkdhaaGreatDoorQWB
set_option linter.unusedVariables false
set_option maxRecDepth 10000
namespace Go.Proofs.YthpjkenkbfkdhaaGreatDoor
open Go.UL Go.RowKit
/-! impl.paths -/
theorem impl_paths.walk {k : Nat} {w : World} {a0 : List (List Rec)} (gv : GV 0 w) {v_a0 : Value} (f_a0 : Rd2 5 encRec w v_a0 a0) {r : List (List UInt8)} (H : impl_paths.sh k a0 = some r) :
    Calls Tryz.prog 85 #[v_a0] w (Rt (RO 9 1 encS w r)) := by
  unfold impl_paths.sh at H
  refine calls_of_W Tryz.func85 rfl (Nat.le_of_ble_eq_true rfl) Tryz.ntmps85 rfl ?_
  refine W_seq <| W_reg <| L_op (.plain rfl) rfl (ltb rfl) (X_assign (v := (.slice none 0 0)) rfl) <| L_nil <| thn_n <| W_seq <| W_reg <| L_lit (.plain rfl) rfl (ltb rfl) rfl Tryz.underlying49 Tryz.sizeOf9 Tryz.zeroValue9 rfl rfl rfl (vs := []) rfl (lit_all rfl) <| fun b1 w2 z3 z4 e5 k6 => L_op (.plain rfl) rfl (ltb rfl) (X_assign (v := (.slice (some ⟨b1, 0, none⟩) 0 0)) rfl) <| L_nil <| thn_n <| W_seq <| W_seq <| W_reg <| L_op (.plain rfl) rfl (ltb rfl) (X_move (v := v_a0) rfl) <| L_op (.plain rfl) rfl (ltb rfl) (X_lenR2 Tryz.underlying39 rfl (Rd2.ext f_a0 e5)) <| L_op (.plain rfl) rfl (ltb rfl) (X_move (v := (.int .i64 0)) rfl) <| L_nil <| thn_n ?_
  obtain ⟨z10, L11, C12⟩ := bind_some H
  clear H
  refine  W_cutQ (fun s0 sQ wQ => ∃ (x3_13 : List (List UInt8)) (v14 : Value), Kp [(3, 4), (5, 6), (7, 8), (11, 28)] s0 sQ ∧ sQ 3 = v14 ∧ Ow 9 1 encS w2.heap.size wQ v14 x3_13 ∧ Ext w2 wQ ∧ z10 = .inr x3_13) ?_ ?_
  · refine W_block <| W_loopI (fun s0 kk sQ wQ => ∃ (x3_7 : List (List UInt8)) (v8 : Value) (x11_9 : Int), Kp [(3, 4), (5, 6), (7, 8), (11, 28)] s0 sQ ∧ sQ 3 = v8 ∧ Ow 9 1 encS w2.heap.size wQ v8 x3_7 ∧ sQ 11 = .int .i64 x11_9 ∧ Ext w2 wQ ∧ loopF (impl_paths.b1 k a0) kk (x3_7, x11_9) = some z10) k ⟨([] : List (List UInt8)), (.slice (some ⟨b1, 0, none⟩) 0 0), 0, (Kp.refl _ _), rfl, (Ow.zero), rfl, (Ext.refl w2), L11⟩ ?_
    rintro k19 s20 w21 ⟨x3_7, v8, x11_9, K22, h25, h26, h27, e23, L24⟩
    cases k19 with
    | zero => exact absurd L24 (by simp [loopF])
    | succ k19 =>
      obtain ⟨t28, H, S29⟩ := loopF_succ L24
      clear L24
      unfold impl_paths.b1 at H
      refine W_seq <| W_reg <| L_op (.plain rfl) rfl (ltb rfl) (X_lss h27 (K22 10 rfl)) <| L_nil <| thn_n <| W_seq ?_
      rcases bif_two H with ⟨q30, H⟩ | ⟨q30, H⟩
      · refine W_true (congrArg Value.bool q30) <| W_skip <| thn_n <| W_seq <| W_block <| W_seq <| W_reg ?_
        obtain ⟨c31, H⟩ := bif_some H
        refine L_idx2o (.plain rfl) rfl (ltb rfl) rfl Tryz.underlying39 Tryz.sizeOf28 (K22 9 rfl) f_a0 (Ext.trans e5 e23) h27 c31 <| fun p32 v34 h33 h35 => L_op (.plain rfl) rfl (ltb rfl) (X_loadAt Tryz.isAgg28 rfl h33 rfl) <| L_op (.plain rfl) rfl (ltb rfl) (X_assign (v := v34) rfl) <| L_nil <| thn_n <| W_seq <| W_reg <| L_op (.plain rfl) rfl (ltb rfl) (X_move (v := v34) rfl) <| L_op (.plain rfl) rfl (ltb rfl) (X_lenR Tryz.underlying28 rfl (Rd.ext h35 (Ext.trans e5 e23))) <| L_op (.plain rfl) rfl (ltb rfl) (X_move (v := (.int .i64 0)) rfl) <| L_nil <| thn_n ?_
        obtain ⟨z39, L40, C41⟩ := bind_some H
        clear H
        refine  W_cutQ (fun s0 sQ wQ => ∃ (x3_42 : List (List UInt8)) (v43 : Value), Kp [(3, 4), (7, 8), (17, 27)] s0 sQ ∧ sQ 3 = v43 ∧ Ow 9 1 encS w2.heap.size wQ v43 x3_42 ∧ Ext w2 wQ ∧ z39 = .inr x3_42) ?_ ?_
        · refine W_block <| W_loopI (fun s0 kk sQ wQ => ∃ (x3_36 : List (List UInt8)) (v37 : Value) (x17_38 : Int), Kp [(3, 4), (7, 8), (17, 27)] s0 sQ ∧ sQ 3 = v37 ∧ Ow 9 1 encS w2.heap.size wQ v37 x3_36 ∧ sQ 17 = .int .i64 x17_38 ∧ Ext w2 wQ ∧ loopF (impl_paths.b2 a0 x11_9) kk (x3_36, x17_38) = some z39) k ⟨x3_7, v8, 0, (Kp.refl _ _), h25, h26, rfl, e23, L40⟩ ?_
          rintro k48 s49 w50 ⟨x3_36, v37, x17_38, K51, h54, h55, h56, e52, L53⟩
          cases k48 with
          | zero => exact absurd L53 (by simp [loopF])
          | succ k48 =>
            obtain ⟨t57, H, S58⟩ := loopF_succ L53
            clear L53
            unfold impl_paths.b2 at H
            refine W_seq <| W_reg <| L_op (.plain rfl) rfl (ltb rfl) (X_lss h56 (K51 16 rfl)) <| L_nil <| thn_n <| W_seq ?_
            rcases bif_two H with ⟨q59, H⟩ | ⟨q59, H⟩
            · refine W_true (congrArg Value.bool q59) <| W_skip <| thn_n <| W_seq <| W_block <| W_seq <| W_reg ?_
              obtain ⟨c60, H⟩ := bif_some H
              refine L_idx (.plain rfl) rfl (ltb rfl) rfl Tryz.underlying28 Tryz.sizeOf78 (K51 15 rfl) (Rd.ext h35 (Ext.trans e5 e52)) h56 c60 <| fun p61 h62 => L_op (.plain rfl) rfl (ltb rfl) (X_loadS Tryz.isAgg78 Tryz.sizeOf78 rfl rfl h62) <| L_alloc (.plain rfl) rfl (ltb rfl) rfl Tryz.zeroValue78 <| fun b63 w64 z65 z66 e67 k68 => L_storeA (.plain rfl) rfl rfl Tryz.sizeOf78 rfl rfl rfl rfl rfl k68 <| fun w69 h70 k71 => L_nil <| thn_n <| W_reg <| L_op (.plain rfl) rfl (ltb rfl) (X_move (v := v37) h54) <| L_op (.plain rfl) rfl (ltb rfl) (X_fieldAddr Tryz.underlying78 rfl Tryz.sizeOf9 rfl rfl) <| L_op (.plain rfl) rfl (ltb rfl) (X_loadB Tryz.isAgg9 k71 rfl rfl) <| L_lit (.plain rfl) rfl (ltb rfl) rfl Tryz.underlying49 Tryz.sizeOf9 Tryz.zeroValue9 rfl rfl rfl (vs := [(S ((gt (gt a0 x11_9) x17_38).path))]) rfl (lit_all rfl) <| fun b72 w73 z74 z75 e76 k77 => ?_
              obtain ⟨c78, H⟩ := bif_some H
              refine L_append (enc := encS) (.plain rfl) rfl (ltb rfl) rfl El.t49 rfl rfl (Ow.ext h55 (Ext.trans (Below.trans e67 (Wr.below h70 (Nat.le_of_eq z65))) e76)) (Ow.rd (Ow.new (xs := [(gt (gt a0 x11_9) x17_38).path]) (sz := 1) (enc := encS) (base := w69.heap.size) k77 (Nat.le_of_eq z74) rfl (fun _ _ => by rfl) (Nat.le_of_ble_eq_true rfl))) (ones_S _) (of_decide_eq_true c78) ((Ext.trans (Ext.trans e52 (Below.trans e67 (Wr.below h70 (Nat.le_of_eq z65)))) e76)).size <| fun v79 w80 o81 z82 g83 => L_op (.plain rfl) rfl (ltb rfl) (X_assign (v := v79) rfl) <| L_nil <| blk_n <| thn_n <| W_reg <| L_op (.plain rfl) rfl (ltb rfl) (X_add h56 rfl) <| L_op (.plain rfl) rfl (ltb rfl) (X_move (v := (.int .i64 (IntKind.wrap .i64 (x17_38 + 1)))) rfl) <| L_nil <| thn_n ?_
              obtain rfl := Option.some.inj H
              exact ⟨_, Nat.lt_succ_self _, x3_36 ++ ([(gt (gt a0 x11_9) x17_38).path] : List (List UInt8)), v79, IntKind.wrap .i64 (x17_38 + 1), (Kp.upd (Kp.upd (Kp.upd (Kp.upd (Kp.upd (Kp.upd (Kp.upd (Kp.upd (Kp.upd (Kp.upd (Kp.upd (Kp.upd K51 rfl) rfl) rfl) rfl) rfl) rfl) rfl) rfl) rfl) rfl) rfl) rfl), rfl, o81, rfl, (g83 _ (Ext.trans (Ext.trans e52 (Below.trans e67 (Wr.below h70 (Nat.le_of_eq z65)))) e76)), S58⟩
            · refine W_false (congrArg Value.bool q59) <| W_exit <| thn_x <| thn_x <| blk_x <| thn_n ?_
              obtain rfl := Option.some.inj H
              obtain rfl := Option.some.inj S58
              exact ⟨x3_36, v37, (Kp.upd K51 rfl), h54, h55, e52, rfl⟩
        · rintro s45 w44 ⟨x3_42, v43, K46, h84, h85, e47, y86⟩
          rw [y86] at C41
          have H := C41
          replace H : _ = some _ := H
          refine blk_n <| thn_n <| W_reg <| L_op (.plain rfl) rfl (ltb rfl) (X_add ((K46 11 rfl).trans h27) rfl) <| L_op (.plain rfl) rfl (ltb rfl) (X_move (v := (.int .i64 (IntKind.wrap .i64 (x11_9 + 1)))) rfl) <| L_nil <| thn_n ?_
          obtain rfl := Option.some.inj H
          exact ⟨_, Nat.lt_succ_self _, x3_42, v43, IntKind.wrap .i64 (x11_9 + 1), (Kp.upd (Kp.upd (Kp.cut (Kp.upd (Kp.upd (Kp.upd (Kp.upd (Kp.upd (Kp.upd (Kp.upd K22 rfl) rfl) rfl) rfl) rfl) rfl) rfl) K46 rfl) rfl) rfl), h84, h85, rfl, e47, S29⟩
      · refine W_false (congrArg Value.bool q30) <| W_exit <| thn_x <| thn_x <| blk_x <| thn_n ?_
        obtain rfl := Option.some.inj H
        obtain rfl := Option.some.inj S29
        exact ⟨x3_7, v8, (Kp.upd K22 rfl), h25, h26, e23, rfl⟩
  · rintro s16 w15 ⟨x3_13, v14, K17, h87, h88, e18, y89⟩
    rw [y89] at C12
    have H := C12
    replace H : _ = some _ := H
    refine thn_n <| W_seq <| W_reg <| L_op (.plain rfl) rfl (ltb rfl) (X_move (v := v14) h87) ?_
    obtain ⟨c90, H⟩ := bif_some H
    obtain ⟨c91, H⟩ := bif_some H
    refine L_callA (.plain rfl) rfl (ltb rfl) rfl Tryz.call127 (slices_SortFuncS.calls (w := w15) h88 (GV.ext gv (Ext.trans e5 e18)) (GV.pos (GV.ext gv e5)) (of_decide_eq_true c90) (of_decide_eq_true c91)) rfl <| fun _ w92 A93 => ?_
    obtain ⟨rfl, B94, ys95, p96, q97, o98⟩ := A93
    refine L_nil <| thn_n <| W_seq <| W_reg <| L_op (.plain rfl) rfl (ltb rfl) (X_move (v := v14) h87) <| L_callA (.plain rfl) rfl (ltb rfl) rfl Tryz.call129 (slices_CompactS.calls (w := w92) o98 p96 q97) rfl <| fun v103 w99 A100 => ?_
    obtain ⟨B101, o102⟩ := A100
    refine L_op (.plain rfl) rfl (ltb rfl) (X_assign (v := v103) rfl) <| L_nil <| thn_n <| W_ret <| fin_r ?_
    obtain rfl := Option.some.inj H
    exact fin1o rfl (Ext.trans e5 (B101 _ (B94 _ e18))) o102 (e5).size
theorem impl_paths.calls {w : World} {a0 : List (List Rec)} (gv : GV 0 w) {v_a0 : Value} (f_a0 : Rd2 5 encRec w v_a0 a0) (h0 : a0.length ≤ 5) (h1 : ∀ l ∈ a0, l.length ≤ 1048576) (h2 : ∀ l ∈ a0, ∀ x ∈ l, x.path.length ≤ 1048576) :
    Calls Tryz.prog 85 #[v_a0] w (Rt (RO 9 1 encS w (pathsL a0))) := by
  obtain ⟨k, h⟩ := impl_paths.eq a0 h0 h1 h2
  exact impl_paths.walk gv f_a0 h
/-! spec.l06Over -/
theorem spec_l06Over.walk {w : World} {a0 : Rec} {a1 : Rec} {r : Rec} (H : spec_l06Over.sh a0 a1 = some r) :
    Calls Tryz.prog 131 #[.agg (encRec a0).toArray, .agg (encRec a1).toArray] w (Rt (RP w (.agg (encRec r).toArray))) := by
  unfold spec_l06Over.sh at H
  refine calls_of_WG Tryz.func131 rfl (Nat.le_of_ble_eq_true rfl) Tryz.ntmps131 ?_
  refine W_seq <| W_reg <| L_box (.plain rfl) rfl (ltb rfl) rfl rfl <| fun b1 w2 z3 z4 e5 k6 => L_box (.plain rfl) rfl (ltb rfl) rfl rfl <| fun b7 w8 z9 z10 e11 k12 => L_alloc (.plain rfl) rfl (ltb rfl) rfl Tryz.zeroValue78 <| fun b13 w14 z15 z16 e17 k18 => L_nil <| thn_n <| W_seq <| W_seq <| W_reg <| L_op (.plain rfl) rfl (ltb rfl) (X_fieldAddr Tryz.underlying78 rfl Tryz.sizeOf3 rfl rfl) <| L_op (.plain rfl) rfl (ltb rfl) (X_loadB Tryz.isAgg3 (Blk.ext k12 e17) rfl rfl) <| L_op (.plain rfl) rfl (ltb rfl) (X_eql rfl rfl) <| L_op (.plain rfl) rfl (ltb rfl) (X_move (v := (.bool (decide (a1.kind = 3)))) rfl) <| L_grp 3 [(9, 12)] 11 (.bool ((decide (a1.kind = 3)) && (stopsR a0))) ?_ ?_
  · rcases bool_two (decide (a1.kind = 3)) with b18_ | b18_
    · exact L_op (.guard 3 true 8 rfl rfl (ltb rfl) (congrArg Value.bool b18_)) rfl (ltb rfl) (X_loadS Tryz.isAgg78 Tryz.sizeOf78 rfl rfl (Blk.at0 (Blk.ext k6 (Ext.trans e11 e17)))) <| L_callP (.guard 3 true 8 rfl rfl (ltb rfl) (congrArg Value.bool b18_)) rfl (ltb rfl) rfl Tryz.call182 (spec_l06Stops.calls (w := w14) (a0 := a0)) rfl <| fun w20 e21 => L_op (.plain rfl) rfl (ltb rfl) (X_pick (b := true) (v := (.bool (stopsR a0))) (congrArg Value.bool b18_) rfl) <| L_nil <| thn_n ⟨(Kp.upd (Kp.upd (Kp.upd (Kp.refl _ _) rfl) rfl) rfl), (and_t b18_), e21⟩
    · exact L_skip rfl rfl (ltb rfl) (congrArg Value.bool b18_) rfl rfl (ltb rfl) <| L_skip rfl rfl (ltb rfl) (congrArg Value.bool b18_) rfl rfl (ltb rfl) <| L_op (.plain rfl) rfl (ltb rfl) (X_pick (b := false) (v := (.bool false)) (congrArg Value.bool b18_) rfl) <| L_nil <| thn_n ⟨(Kp.upd (Kp.upd (Kp.upd (Kp.refl _ _) rfl) rfl) rfl), (and_f b18_), (Ext.refl w14)⟩
  intro s24 w20 K21 h22 e23
  refine L_nil <| thn_n ?_
  rcases bif_two H with ⟨q25, H⟩ | ⟨q25, H⟩
  · refine W_true (h22.trans (congrArg Value.bool q25)) <| W_reg <| L_op (.plain rfl) rfl (ltb rfl) (X_fieldAddr Tryz.underlying78 rfl Tryz.sizeOf4 rfl (K21 3 rfl)) <| L_store1 (.plain rfl) rfl rfl Tryz.sizeOf4 rfl rfl rfl (Blk.ext k12 (Ext.trans e17 e23)) (ltb rfl) <| fun w26 h27 k28 => L_nil <| thn_n <| W_seq <| W_reg <| L_op (.plain rfl) rfl (ltb rfl) (X_loadS Tryz.isAgg78 Tryz.sizeOf78 rfl (K21 3 rfl) (Blk.at0 k28)) <| L_storeA (.plain rfl) rfl rfl Tryz.sizeOf78 (K21 4 rfl) rfl rfl rfl rfl (Wr.blk h27 (Blk.ext k18 e23) (fun e9 => by have e8 : b13 = b7 := e9; clear e9; have h9 := Blk.lt k12; have h8 := z15; omega)) <| fun w29 h30 k31 => L_nil <| thn_n <| W_ret <| finG_r ?_
    obtain rfl := Option.some.inj H
    exact finC1 rfl (K21 4 rfl) k31 Tryz.isAgg78 Tryz.sizeOf78 rfl (Ext.trans e5 (Below.trans (Below.trans (Ext.trans (Ext.trans e11 e17) e23) (Wr.below h27 (Nat.le_of_eq z9))) (Wr.below h30 (Nat.le_trans e11.size (Nat.le_of_eq z15)))))
  · refine W_false (h22.trans (congrArg Value.bool q25)) <| W_skip <| thn_n <| W_seq <| W_reg <| L_op (.plain rfl) rfl (ltb rfl) (X_loadS Tryz.isAgg78 Tryz.sizeOf78 rfl (K21 3 rfl) (Blk.at0 (Blk.ext k12 (Ext.trans e17 e23)))) <| L_storeA (.plain rfl) rfl rfl Tryz.sizeOf78 (K21 4 rfl) rfl rfl rfl rfl (Blk.ext k18 e23) <| fun w32 h33 k34 => L_nil <| thn_n <| W_ret <| finG_r ?_
    obtain rfl := Option.some.inj H
    exact finC1 rfl (K21 4 rfl) k34 Tryz.isAgg78 Tryz.sizeOf78 rfl (Ext.trans (Ext.trans e5 e11) (Below.trans (Ext.trans e17 e23) (Wr.below h33 (Nat.le_of_eq z15))))
theorem spec_l06Over.calls {w : World} {a0 : Rec} {a1 : Rec} :
    Calls Tryz.prog 131 #[.agg (encRec a0).toArray, .agg (encRec a1).toArray] w (Rt (RP w (.agg (encRec (overR a0 a1)).toArray))) := spec_l06Over.walk (spec_l06Over.eq a0 a1)
/-! spec.l06Two -/
abbrev spec_l06Two.e1 (a0 : List Rec) (a1 : List Rec) (x6_9 : Int) (x7_10 : Int) := ((!(decide (x7_10 = (a1.length : Int)))) && (decide (x6_9 < (a0.length : Int))))
abbrev spec_l06Two.e2 (a0 : List Rec) (a1 : List Rec) (x6_9 : Int) (x7_10 : Int) := ((decide (x6_9 < (a0.length : Int))) && (lessL (cut 47 ((gt a0 x6_9).path)) (cut 47 ((gt a1 x7_10).path))))
theorem spec_l06Two.walk {k : Nat} {w : World} {a0 : List Rec} {a1 : List Rec} {v_a0 : Value} (f_a0 : Rd 5 encRec w v_a0 a0) {v_a1 : Value} (f_a1 : Rd 5 encRec w v_a1 a1) {r : List Rec} (H : spec_l06Two.sh k a0 a1 = some r) :
    Calls Tryz.prog 86 #[v_a0, v_a1] w (Rt (RO 78 5 encRec w r)) := by
  unfold spec_l06Two.sh at H
  refine calls_of_W Tryz.func86 rfl (Nat.le_of_ble_eq_true rfl) Tryz.ntmps86 rfl ?_
  refine W_seq <| W_reg <| L_op (.plain rfl) rfl (ltb rfl) (X_assign (v := (.slice none 0 0)) rfl) <| L_nil <| thn_n <| W_seq <| W_reg <| L_lit (.plain rfl) rfl (ltb rfl) rfl Tryz.underlying28 Tryz.sizeOf78 Tryz.zeroValue78 rfl rfl rfl (vs := []) rfl (lit_all rfl) <| fun b1 w2 z3 z4 e5 k6 => L_op (.plain rfl) rfl (ltb rfl) (X_assign (v := (.slice (some ⟨b1, 0, none⟩) 0 0)) rfl) <| L_nil <| thn_n <| W_seq <| W_reg <| L_op (.plain rfl) rfl (ltb rfl) (X_assign (v := (.int .i64 0)) rfl) <| L_nil <| thn_n <| W_seq <| W_reg <| L_op (.plain rfl) rfl (ltb rfl) (X_assign (v := (.int .i64 0)) rfl) <| L_nil <| thn_n <| W_seq ?_
  obtain ⟨z11, L12, C13⟩ := bind_some H
  clear H
  refine  W_cutQ (fun s0 sQ wQ => ∃ (x5_14 : List Rec) (v15 : Value), Kp [(5, 8), (9, 103)] s0 sQ ∧ sQ 5 = v15 ∧ Ow 78 5 encRec w2.heap.size wQ v15 x5_14 ∧ Ext w2 wQ ∧ z11 = .inr x5_14) ?_ ?_
  · refine W_block <| W_loopI (fun s0 kk sQ wQ => ∃ (x5_7 : List Rec) (v8 : Value) (x6_9 : Int) (x7_10 : Int), Kp [(5, 8), (9, 103)] s0 sQ ∧ sQ 5 = v8 ∧ Ow 78 5 encRec w2.heap.size wQ v8 x5_7 ∧ sQ 6 = .int .i64 x6_9 ∧ sQ 7 = .int .i64 x7_10 ∧ Ext w2 wQ ∧ loopF (spec_l06Two.b1 a0 a1) kk (x5_7, x6_9, x7_10) = some z11) k ⟨([] : List Rec), (.slice (some ⟨b1, 0, none⟩) 0 0), 0, 0, (Kp.refl _ _), rfl, (Ow.zero), rfl, rfl, (Ext.refl w2), L12⟩ ?_
    rintro k20 s21 w22 ⟨x5_7, v8, x6_9, x7_10, K23, h26, h27, h28, h29, e24, L25⟩
    cases k20 with
    | zero => exact absurd L25 (by simp [loopF])
    | succ k20 =>
      obtain ⟨t30, H, S31⟩ := loopF_succ L25
      clear L25
      unfold spec_l06Two.b1 at H
      refine W_seq <| W_seq <| W_reg <| L_op (.plain rfl) rfl (ltb rfl) (X_move (v := (.int .i64 x6_9)) h28) <| L_op (.plain rfl) rfl (ltb rfl) (X_move (v := v_a0) (K23 0 rfl)) <| L_op (.plain rfl) rfl (ltb rfl) (X_lenR Tryz.underlying28 rfl (Rd.ext f_a0 (Ext.trans e5 e24))) <| L_op (.plain rfl) rfl (ltb rfl) (X_lss rfl rfl) <| L_op (.plain rfl) rfl (ltb rfl) (X_move (v := (.bool (decide (x6_9 < (a0.length : Int))))) rfl) <| L_grp 5 [(14, 19)] 18 (.bool ((decide (x6_9 < (a0.length : Int))) || (decide (x7_10 < (a1.length : Int))))) ?_ ?_
      · rcases bool_two (decide (x6_9 < (a0.length : Int))) with b31_ | b31_
        · exact L_skip rfl rfl (ltb rfl) (congrArg Value.bool b31_) rfl rfl (ltb rfl) <| L_skip rfl rfl (ltb rfl) (congrArg Value.bool b31_) rfl rfl (ltb rfl) <| L_skip rfl rfl (ltb rfl) (congrArg Value.bool b31_) rfl rfl (ltb rfl) <| L_skip rfl rfl (ltb rfl) (congrArg Value.bool b31_) rfl rfl (ltb rfl) <| L_op (.plain rfl) rfl (ltb rfl) (X_pick (b := true) (v := (.bool true)) (congrArg Value.bool b31_) rfl) <| L_nil <| thn_n ⟨(Kp.upd (Kp.upd (Kp.upd (Kp.upd (Kp.upd (Kp.refl _ _) rfl) rfl) rfl) rfl) rfl), (or_t b31_), (Ext.refl w22)⟩
        · exact L_op (.guard 4 false 13 rfl rfl (ltb rfl) (congrArg Value.bool b31_)) rfl (ltb rfl) (X_move (v := (.int .i64 x7_10)) h29) <| L_op (.guard 4 false 13 rfl rfl (ltb rfl) (congrArg Value.bool b31_)) rfl (ltb rfl) (X_move (v := v_a1) (K23 1 rfl)) <| L_op (.guard 4 false 13 rfl rfl (ltb rfl) (congrArg Value.bool b31_)) rfl (ltb rfl) (X_lenR Tryz.underlying28 rfl (Rd.ext f_a1 (Ext.trans e5 e24))) <| L_op (.guard 4 false 13 rfl rfl (ltb rfl) (congrArg Value.bool b31_)) rfl (ltb rfl) (X_lss rfl rfl) <| L_op (.plain rfl) rfl (ltb rfl) (X_pick (b := false) (v := (.bool (decide (x7_10 < (a1.length : Int))))) (congrArg Value.bool b31_) rfl) <| L_nil <| thn_n ⟨(Kp.upd (Kp.upd (Kp.upd (Kp.upd (Kp.upd (Kp.refl _ _) rfl) rfl) rfl) rfl) rfl), (or_f b31_), (Ext.refl w22)⟩
      intro s37 w33 K34 h35 e36
      refine L_nil <| thn_n ?_
      rcases bif_two H with ⟨q38, H⟩ | ⟨q38, H⟩
      · refine W_true (h35.trans (congrArg Value.bool q38)) <| W_skip <| thn_n <| W_block <| W_block <| W_seq ?_
        obtain ⟨c39, H⟩ := bif_some H
        obtain ⟨c42, H⟩ := bif_some H
        obtain ⟨c45, H⟩ := bif_some H
        obtain ⟨c46, H⟩ := bif_some H
        refine W_drawM [LEq (.int .i64 x7_10), LEq v_a1, LEq (.int .i64 (a1.length : Int)), LEq (.bool (decide (x7_10 = (a1.length : Int)))), LEq (.bool (decide (x7_10 = (a1.length : Int)))), LIf (!(decide (x7_10 = (a1.length : Int)))) (LEq (.int .i64 x6_9)), LIf (!(decide (x7_10 = (a1.length : Int)))) (LEq v_a0), LIf (!(decide (x7_10 = (a1.length : Int)))) (LEq (.int .i64 (a0.length : Int))), LIf (!(decide (x7_10 = (a1.length : Int)))) (LEq (.bool (decide (x6_9 < (a0.length : Int))))), LIf (!(decide (x7_10 = (a1.length : Int)))) (LEq (.bool (decide (x6_9 < (a0.length : Int))))), LIf (spec_l06Two.e1 a0 a1 x6_9 x7_10) (LEq v_a0), LIf (spec_l06Two.e1 a0 a1 x6_9 x7_10) (LEq (.int .i64 x6_9)), LIf (spec_l06Two.e1 a0 a1 x6_9 x7_10) (LAt0 (encRec (gt a0 x6_9))), LIf (spec_l06Two.e1 a0 a1 x6_9 x7_10) (LAt 1 (encRec (gt a0 x6_9))), LIf (spec_l06Two.e1 a0 a1 x6_9 x7_10) (LEq (S ((gt a0 x6_9).path))), LIf (spec_l06Two.e1 a0 a1 x6_9 x7_10) (LEq v_a1), LIf (spec_l06Two.e1 a0 a1 x6_9 x7_10) (LEq (.int .i64 x7_10)), LIf (spec_l06Two.e1 a0 a1 x6_9 x7_10) (LAt0 (encRec (gt a1 x7_10))), LIf (spec_l06Two.e1 a0 a1 x6_9 x7_10) (LAt 1 (encRec (gt a1 x7_10))), LIf (spec_l06Two.e1 a0 a1 x6_9 x7_10) (LEq (S ((gt a1 x7_10).path))), LIf (spec_l06Two.e1 a0 a1 x6_9 x7_10) (LEq (.bool (lessL (cut 47 ((gt a0 x6_9).path)) (cut 47 ((gt a1 x7_10).path))))), LIf (!(decide (x7_10 = (a1.length : Int)))) (LEq (.bool (spec_l06Two.e2 a0 a1 x6_9 x7_10))), LEq (.bool ((decide (x7_10 = (a1.length : Int))) || (spec_l06Two.e2 a0 a1 x6_9 x7_10))), LEq (.bool ((decide (x7_10 = (a1.length : Int))) || (spec_l06Two.e2 a0 a1 x6_9 x7_10)))] (by kernel_rfl) (by kernel_rfl) ⟨LEq.mono, LEq.mono, LEq.mono, LEq.mono, LEq.mono, (LIf.mono LEq.mono), (LIf.mono LEq.mono), (LIf.mono LEq.mono), (LIf.mono LEq.mono), (LIf.mono LEq.mono), (LIf.mono LEq.mono), (LIf.mono LEq.mono), (LIf.mono LAt0.mono), (LIf.mono LAt.mono), (LIf.mono LEq.mono), (LIf.mono LEq.mono), (LIf.mono LEq.mono), (LIf.mono LAt0.mono), (LIf.mono LAt.mono), (LIf.mono LEq.mono), (LIf.mono LEq.mono), (LIf.mono LEq.mono), LEq.mono, LEq.mono, trivial⟩ ⟨?_, ?_, ?_, ?_, ?_, ?_, ?_, ?_, ?_, ?_, ?_, ?_, ?_, ?_, ?_, ?_, ?_, ?_, ?_, ?_, ?_, ?_, ?_, ?_, trivial⟩ ?_
        · intro s49 w50 e51 hf52 hd53 hu54
          exact L_op (.plain rfl) rfl (ltb rfl) (X_move (v := (.int .i64 x7_10)) ((hf52 7 rfl).trans ((K34 7 rfl).trans h29))) <| L_nil <| stepEnd rfl rfl (Ext.refl w50) rfl
        · intro s55 w56 e57 hf58 hd59 hu60
          exact L_op (.plain rfl) rfl (ltb rfl) (X_move (v := v_a1) ((hf58 1 rfl).trans ((K34 1 rfl).trans (K23 1 rfl)))) <| L_nil <| stepEnd rfl rfl (Ext.refl w56) rfl
        · intro s61 w62 e63 hf64 hd65 hu66
          have d67 : s61 37 = v_a1 := (hd65 1 rfl)
          exact L_op (.plain rfl) rfl (ltb rfl) (X_lenR Tryz.underlying28 d67 (Rd.ext f_a1 (Ext.trans (Ext.trans (Ext.trans e5 e24) e36) e63))) <| L_nil <| stepEnd rfl rfl (Ext.refl w62) rfl
        · intro s68 w69 e70 hf71 hd72 hu73
          have d74 : s68 36 = (.int .i64 x7_10) := (hd72 0 rfl)
          have d75 : s68 38 = (.int .i64 (a1.length : Int)) := (hd72 2 rfl)
          exact L_op (.plain rfl) rfl (ltb rfl) (X_eql d74 d75) <| L_nil <| stepEnd rfl rfl (Ext.refl w69) rfl
        · intro s76 w77 e78 hf79 hd80 hu81
          have d82 : s76 39 = (.bool (decide (x7_10 = (a1.length : Int)))) := (hd80 3 rfl)
          exact L_op (.plain rfl) rfl (ltb rfl) (X_move (v := (.bool (decide (x7_10 = (a1.length : Int))))) d82) <| L_nil <| stepEnd rfl rfl (Ext.refl w77) rfl
        · intro s83 w84 e85 hf86 hd87 hu88
          rcases bool_two (!(decide (x7_10 = (a1.length : Int)))) with b89 | b89
          · have g90 : (decide (x7_10 = (a1.length : Int))) = false := (not_f b89)
            have d91 : s83 40 = (.bool (decide (x7_10 = (a1.length : Int)))) := (hd87 4 rfl)
            have d92 : s83 40 = (.bool (decide (x7_10 = (a1.length : Int)))) := (hd87 4 rfl)
            exact L_op (.guard 4 false 40 rfl rfl (ltb rfl) (d91.trans (congrArg Value.bool g90))) rfl (ltb rfl) (X_move (v := (.int .i64 x6_9)) ((hf86 6 rfl).trans ((K34 6 rfl).trans h28))) <| L_nil <| stepEnd rfl rfl (Ext.refl w84) ⟨fun _ => rfl, fun h => absurd (b89.symm.trans h) (by decide)⟩
          · have d93 : s83 40 = (.bool (decide (x7_10 = (a1.length : Int)))) := (hd87 4 rfl)
            have g94 : (decide (x7_10 = (a1.length : Int))) = true := (not_ff b89)
            exact L_skip rfl rfl (ltb rfl) (d93.trans (congrArg Value.bool g94)) rfl rfl (ltb rfl) <| L_nil <| stepEnd rfl rfl (Ext.refl w84) ⟨fun h => absurd (b89.symm.trans h) (by decide), fun _ => rfl⟩
        · intro s95 w96 e97 hf98 hd99 hu100
          rcases bool_two (!(decide (x7_10 = (a1.length : Int)))) with b101 | b101
          · have g102 : (decide (x7_10 = (a1.length : Int))) = false := (not_f b101)
            have d103 : s95 40 = (.bool (decide (x7_10 = (a1.length : Int)))) := (hd99 4 rfl)
            have d104 : s95 40 = (.bool (decide (x7_10 = (a1.length : Int)))) := (hd99 4 rfl)
            exact L_op (.guard 4 false 40 rfl rfl (ltb rfl) (d103.trans (congrArg Value.bool g102))) rfl (ltb rfl) (X_move (v := v_a0) ((hf98 0 rfl).trans ((K34 0 rfl).trans (K23 0 rfl)))) <| L_nil <| stepEnd rfl rfl (Ext.refl w96) ⟨fun _ => rfl, fun h => absurd (b101.symm.trans h) (by decide)⟩
          · have d105 : s95 40 = (.bool (decide (x7_10 = (a1.length : Int)))) := (hd99 4 rfl)
            have g106 : (decide (x7_10 = (a1.length : Int))) = true := (not_ff b101)
            exact L_skip rfl rfl (ltb rfl) (d105.trans (congrArg Value.bool g106)) rfl rfl (ltb rfl) <| L_nil <| stepEnd rfl rfl (Ext.refl w96) ⟨fun h => absurd (b101.symm.trans h) (by decide), fun _ => rfl⟩
        · intro s107 w108 e109 hf110 hd111 hu112
          rcases bool_two (!(decide (x7_10 = (a1.length : Int)))) with b113 | b113
          · have g114 : (decide (x7_10 = (a1.length : Int))) = false := (not_f b113)
            have d115 : s107 40 = (.bool (decide (x7_10 = (a1.length : Int)))) := (hd111 4 rfl)
            have d116 : s107 40 = (.bool (decide (x7_10 = (a1.length : Int)))) := (hd111 4 rfl)
            have d117 : s107 42 = v_a0 := ((hd111 6 rfl).1 (not_mk (not_f b113)))
            exact L_op (.guard 4 false 40 rfl rfl (ltb rfl) (d115.trans (congrArg Value.bool g114))) rfl (ltb rfl) (X_lenR Tryz.underlying28 d117 (Rd.ext f_a0 (Ext.trans (Ext.trans (Ext.trans e5 e24) e36) e109))) <| L_nil <| stepEnd rfl rfl (Ext.refl w108) ⟨fun _ => rfl, fun h => absurd (b113.symm.trans h) (by decide)⟩
          · have d118 : s107 40 = (.bool (decide (x7_10 = (a1.length : Int)))) := (hd111 4 rfl)
            have g119 : (decide (x7_10 = (a1.length : Int))) = true := (not_ff b113)
            exact L_skip rfl rfl (ltb rfl) (d118.trans (congrArg Value.bool g119)) rfl rfl (ltb rfl) <| L_nil <| stepEnd rfl rfl (Ext.refl w108) ⟨fun h => absurd (b113.symm.trans h) (by decide), fun _ => rfl⟩
        · intro s120 w121 e122 hf123 hd124 hu125
          rcases bool_two (!(decide (x7_10 = (a1.length : Int)))) with b126 | b126
          · have g127 : (decide (x7_10 = (a1.length : Int))) = false := (not_f b126)
            have d128 : s120 40 = (.bool (decide (x7_10 = (a1.length : Int)))) := (hd124 4 rfl)
            have d129 : s120 40 = (.bool (decide (x7_10 = (a1.length : Int)))) := (hd124 4 rfl)
            have d130 : s120 41 = (.int .i64 x6_9) := ((hd124 5 rfl).1 (not_mk (not_f b126)))
            have d131 : s120 43 = (.int .i64 (a0.length : Int)) := ((hd124 7 rfl).1 (not_mk (not_f b126)))
            exact L_op (.guard 4 false 40 rfl rfl (ltb rfl) (d128.trans (congrArg Value.bool g127))) rfl (ltb rfl) (X_lss d130 d131) <| L_nil <| stepEnd rfl rfl (Ext.refl w121) ⟨fun _ => rfl, fun h => absurd (b126.symm.trans h) (by decide)⟩
          · have d132 : s120 40 = (.bool (decide (x7_10 = (a1.length : Int)))) := (hd124 4 rfl)
            have g133 : (decide (x7_10 = (a1.length : Int))) = true := (not_ff b126)
            exact L_skip rfl rfl (ltb rfl) (d132.trans (congrArg Value.bool g133)) rfl rfl (ltb rfl) <| L_nil <| stepEnd rfl rfl (Ext.refl w121) ⟨fun h => absurd (b126.symm.trans h) (by decide), fun _ => rfl⟩
        · intro s134 w135 e136 hf137 hd138 hu139
          rcases bool_two (!(decide (x7_10 = (a1.length : Int)))) with b140 | b140
          · have g141 : (decide (x7_10 = (a1.length : Int))) = false := (not_f b140)
            have d142 : s134 40 = (.bool (decide (x7_10 = (a1.length : Int)))) := (hd138 4 rfl)
            have d143 : s134 40 = (.bool (decide (x7_10 = (a1.length : Int)))) := (hd138 4 rfl)
            have d144 : s134 44 = (.bool (decide (x6_9 < (a0.length : Int)))) := ((hd138 8 rfl).1 (not_mk (not_f b140)))
            exact L_op (.guard 4 false 40 rfl rfl (ltb rfl) (d142.trans (congrArg Value.bool g141))) rfl (ltb rfl) (X_move (v := (.bool (decide (x6_9 < (a0.length : Int))))) d144) <| L_nil <| stepEnd rfl rfl (Ext.refl w135) ⟨fun _ => rfl, fun h => absurd (b140.symm.trans h) (by decide)⟩
          · have d145 : s134 40 = (.bool (decide (x7_10 = (a1.length : Int)))) := (hd138 4 rfl)
            have g146 : (decide (x7_10 = (a1.length : Int))) = true := (not_ff b140)
            exact L_skip rfl rfl (ltb rfl) (d145.trans (congrArg Value.bool g146)) rfl rfl (ltb rfl) <| L_nil <| stepEnd rfl rfl (Ext.refl w135) ⟨fun h => absurd (b140.symm.trans h) (by decide), fun _ => rfl⟩
        · intro s147 w148 e149 hf150 hd151 hu152
          rcases bool_two (spec_l06Two.e1 a0 a1 x6_9 x7_10) with b153 | b153
          · have g154 : (decide (x6_9 < (a0.length : Int))) = true := (and_r b153)
            have d155 : s147 45 = (.bool (decide (x6_9 < (a0.length : Int)))) := ((hd151 9 rfl).1 (not_mk (not_f (and_l b153))))
            have d156 : s147 45 = (.bool (decide (x6_9 < (a0.length : Int)))) := ((hd151 9 rfl).1 (not_mk (not_f (and_l b153))))
            exact L_op (.guard 9 true 45 rfl rfl (ltb rfl) (d155.trans (congrArg Value.bool g154))) rfl (ltb rfl) (X_move (v := v_a0) ((hf150 0 rfl).trans ((K34 0 rfl).trans (K23 0 rfl)))) <| L_nil <| stepEnd rfl rfl (Ext.refl w148) ⟨fun _ => rfl, fun h => absurd (b153.symm.trans h) (by decide)⟩
          · rcases bool_two (!(decide (x7_10 = (a1.length : Int)))) with b157 | b157
            · have d158 : s147 45 = (.bool (decide (x6_9 < (a0.length : Int)))) := ((hd151 9 rfl).1 (not_mk (not_f b157)))
              have g159 : (decide (x6_9 < (a0.length : Int))) = false := (and_fr b153 b157)
              exact L_skip rfl rfl (ltb rfl) (d158.trans (congrArg Value.bool g159)) rfl rfl (ltb rfl) <| L_nil <| stepEnd rfl rfl (Ext.refl w148) ⟨fun h => absurd (b153.symm.trans h) (by decide), fun _ => rfl⟩
            · exact L_skipU rfl rfl (ltb rfl) ((hd151 9 rfl).2 b157) rfl (ltb rfl) <| L_nil <| stepEnd rfl rfl (Ext.refl w148) ⟨fun h => absurd (b153.symm.trans h) (by decide), fun _ => rfl⟩
        · intro s160 w161 e162 hf163 hd164 hu165
          rcases bool_two (spec_l06Two.e1 a0 a1 x6_9 x7_10) with b166 | b166
          · have g167 : (decide (x6_9 < (a0.length : Int))) = true := (and_r b166)
            have d168 : s160 45 = (.bool (decide (x6_9 < (a0.length : Int)))) := ((hd164 9 rfl).1 (not_mk (not_f (and_l b166))))
            have d169 : s160 45 = (.bool (decide (x6_9 < (a0.length : Int)))) := ((hd164 9 rfl).1 (not_mk (not_f (and_l b166))))
            exact L_op (.guard 9 true 45 rfl rfl (ltb rfl) (d168.trans (congrArg Value.bool g167))) rfl (ltb rfl) (X_move (v := (.int .i64 x6_9)) ((hf163 6 rfl).trans ((K34 6 rfl).trans h28))) <| L_nil <| stepEnd rfl rfl (Ext.refl w161) ⟨fun _ => rfl, fun h => absurd (b166.symm.trans h) (by decide)⟩
          · rcases bool_two (!(decide (x7_10 = (a1.length : Int)))) with b170 | b170
            · have d171 : s160 45 = (.bool (decide (x6_9 < (a0.length : Int)))) := ((hd164 9 rfl).1 (not_mk (not_f b170)))
              have g172 : (decide (x6_9 < (a0.length : Int))) = false := (and_fr b166 b170)
              exact L_skip rfl rfl (ltb rfl) (d171.trans (congrArg Value.bool g172)) rfl rfl (ltb rfl) <| L_nil <| stepEnd rfl rfl (Ext.refl w161) ⟨fun h => absurd (b166.symm.trans h) (by decide), fun _ => rfl⟩
            · exact L_skipU rfl rfl (ltb rfl) ((hd164 9 rfl).2 b170) rfl (ltb rfl) <| L_nil <| stepEnd rfl rfl (Ext.refl w161) ⟨fun h => absurd (b166.symm.trans h) (by decide), fun _ => rfl⟩
        · intro s173 w174 e175 hf176 hd177 hu178
          rcases bool_two (spec_l06Two.e1 a0 a1 x6_9 x7_10) with b179 | b179
          · have g180 : (decide (x6_9 < (a0.length : Int))) = true := (and_r b179)
            have d181 : s173 45 = (.bool (decide (x6_9 < (a0.length : Int)))) := ((hd177 9 rfl).1 (not_mk (not_f (and_l b179))))
            have d182 : s173 45 = (.bool (decide (x6_9 < (a0.length : Int)))) := ((hd177 9 rfl).1 (not_mk (not_f (and_l b179))))
            have d183 : s173 46 = v_a0 := ((hd177 10 rfl).1 (and_mk (not_mk (not_f (and_l b179))) (and_r b179)))
            have d184 : s173 47 = (.int .i64 x6_9) := ((hd177 11 rfl).1 (and_mk (not_mk (not_f (and_l b179))) (and_r b179)))
            have c185 := imp_take b179 c39
            exact L_idx (.guard 9 true 45 rfl rfl (ltb rfl) (d181.trans (congrArg Value.bool g180))) rfl (ltb rfl) rfl Tryz.underlying28 Tryz.sizeOf78 d183 (Rd.ext f_a0 (Ext.trans (Ext.trans (Ext.trans e5 e24) e36) e175)) d184 c185 <| fun p186 h187 => L_nil <| stepEnd rfl rfl (Ext.refl w174) ⟨fun _ => ⟨_, rfl, h187⟩, fun h => absurd (b179.symm.trans h) (by decide)⟩
          · rcases bool_two (!(decide (x7_10 = (a1.length : Int)))) with b188 | b188
            · have d189 : s173 45 = (.bool (decide (x6_9 < (a0.length : Int)))) := ((hd177 9 rfl).1 (not_mk (not_f b188)))
              have g190 : (decide (x6_9 < (a0.length : Int))) = false := (and_fr b179 b188)
              exact L_skip rfl rfl (ltb rfl) (d189.trans (congrArg Value.bool g190)) rfl rfl (ltb rfl) <| L_nil <| stepEnd rfl rfl (Ext.refl w174) ⟨fun h => absurd (b179.symm.trans h) (by decide), fun _ => rfl⟩
            · exact L_skipU rfl rfl (ltb rfl) ((hd177 9 rfl).2 b188) rfl (ltb rfl) <| L_nil <| stepEnd rfl rfl (Ext.refl w174) ⟨fun h => absurd (b179.symm.trans h) (by decide), fun _ => rfl⟩
        · intro s191 w192 e193 hf194 hd195 hu196
          rcases bool_two (spec_l06Two.e1 a0 a1 x6_9 x7_10) with b197 | b197
          · have g198 : (decide (x6_9 < (a0.length : Int))) = true := (and_r b197)
            have d199 : s191 45 = (.bool (decide (x6_9 < (a0.length : Int)))) := ((hd195 9 rfl).1 (not_mk (not_f (and_l b197))))
            have d200 : s191 45 = (.bool (decide (x6_9 < (a0.length : Int)))) := ((hd195 9 rfl).1 (not_mk (not_f (and_l b197))))
            obtain ⟨p201, h202, h203⟩ := ((hd195 12 rfl).1 (and_mk (not_mk (not_f (and_l b197))) (and_r b197)))
            exact L_op (.guard 9 true 45 rfl rfl (ltb rfl) (d199.trans (congrArg Value.bool g198))) rfl (ltb rfl) (X_fieldAddr Tryz.underlying78 rfl Tryz.sizeOf9 rfl h202) <| L_nil <| stepEnd rfl rfl (Ext.refl w192) ⟨fun _ => ⟨_, rfl, h203⟩, fun h => absurd (b197.symm.trans h) (by decide)⟩
          · rcases bool_two (!(decide (x7_10 = (a1.length : Int)))) with b204 | b204
            · have d205 : s191 45 = (.bool (decide (x6_9 < (a0.length : Int)))) := ((hd195 9 rfl).1 (not_mk (not_f b204)))
              have g206 : (decide (x6_9 < (a0.length : Int))) = false := (and_fr b197 b204)
              exact L_skip rfl rfl (ltb rfl) (d205.trans (congrArg Value.bool g206)) rfl rfl (ltb rfl) <| L_nil <| stepEnd rfl rfl (Ext.refl w192) ⟨fun h => absurd (b197.symm.trans h) (by decide), fun _ => rfl⟩
            · exact L_skipU rfl rfl (ltb rfl) ((hd195 9 rfl).2 b204) rfl (ltb rfl) <| L_nil <| stepEnd rfl rfl (Ext.refl w192) ⟨fun h => absurd (b197.symm.trans h) (by decide), fun _ => rfl⟩
        · intro s207 w208 e209 hf210 hd211 hu212
          rcases bool_two (spec_l06Two.e1 a0 a1 x6_9 x7_10) with b213 | b213
          · have g214 : (decide (x6_9 < (a0.length : Int))) = true := (and_r b213)
            have d215 : s207 45 = (.bool (decide (x6_9 < (a0.length : Int)))) := ((hd211 9 rfl).1 (not_mk (not_f (and_l b213))))
            have d216 : s207 45 = (.bool (decide (x6_9 < (a0.length : Int)))) := ((hd211 9 rfl).1 (not_mk (not_f (and_l b213))))
            obtain ⟨p217, h218, h219⟩ := ((hd211 13 rfl).1 (and_mk (not_mk (not_f (and_l b213))) (and_r b213)))
            exact L_op (.guard 9 true 45 rfl rfl (ltb rfl) (d215.trans (congrArg Value.bool g214))) rfl (ltb rfl) (X_loadF Tryz.isAgg9 (j := 1) h219 h218 rfl) <| L_nil <| stepEnd rfl rfl (Ext.refl w208) ⟨fun _ => rfl, fun h => absurd (b213.symm.trans h) (by decide)⟩
          · rcases bool_two (!(decide (x7_10 = (a1.length : Int)))) with b220 | b220
            · have d221 : s207 45 = (.bool (decide (x6_9 < (a0.length : Int)))) := ((hd211 9 rfl).1 (not_mk (not_f b220)))
              have g222 : (decide (x6_9 < (a0.length : Int))) = false := (and_fr b213 b220)
              exact L_skip rfl rfl (ltb rfl) (d221.trans (congrArg Value.bool g222)) rfl rfl (ltb rfl) <| L_nil <| stepEnd rfl rfl (Ext.refl w208) ⟨fun h => absurd (b213.symm.trans h) (by decide), fun _ => rfl⟩
            · exact L_skipU rfl rfl (ltb rfl) ((hd211 9 rfl).2 b220) rfl (ltb rfl) <| L_nil <| stepEnd rfl rfl (Ext.refl w208) ⟨fun h => absurd (b213.symm.trans h) (by decide), fun _ => rfl⟩
        · intro s223 w224 e225 hf226 hd227 hu228
          rcases bool_two (spec_l06Two.e1 a0 a1 x6_9 x7_10) with b229 | b229
          · have g230 : (decide (x6_9 < (a0.length : Int))) = true := (and_r b229)
            have d231 : s223 45 = (.bool (decide (x6_9 < (a0.length : Int)))) := ((hd227 9 rfl).1 (not_mk (not_f (and_l b229))))
            have d232 : s223 45 = (.bool (decide (x6_9 < (a0.length : Int)))) := ((hd227 9 rfl).1 (not_mk (not_f (and_l b229))))
            exact L_op (.guard 9 true 45 rfl rfl (ltb rfl) (d231.trans (congrArg Value.bool g230))) rfl (ltb rfl) (X_move (v := v_a1) ((hf226 1 rfl).trans ((K34 1 rfl).trans (K23 1 rfl)))) <| L_nil <| stepEnd rfl rfl (Ext.refl w224) ⟨fun _ => rfl, fun h => absurd (b229.symm.trans h) (by decide)⟩
          · rcases bool_two (!(decide (x7_10 = (a1.length : Int)))) with b233 | b233
            · have d234 : s223 45 = (.bool (decide (x6_9 < (a0.length : Int)))) := ((hd227 9 rfl).1 (not_mk (not_f b233)))
              have g235 : (decide (x6_9 < (a0.length : Int))) = false := (and_fr b229 b233)
              exact L_skip rfl rfl (ltb rfl) (d234.trans (congrArg Value.bool g235)) rfl rfl (ltb rfl) <| L_nil <| stepEnd rfl rfl (Ext.refl w224) ⟨fun h => absurd (b229.symm.trans h) (by decide), fun _ => rfl⟩
            · exact L_skipU rfl rfl (ltb rfl) ((hd227 9 rfl).2 b233) rfl (ltb rfl) <| L_nil <| stepEnd rfl rfl (Ext.refl w224) ⟨fun h => absurd (b229.symm.trans h) (by decide), fun _ => rfl⟩
        · intro s236 w237 e238 hf239 hd240 hu241
          rcases bool_two (spec_l06Two.e1 a0 a1 x6_9 x7_10) with b242 | b242
          · have g243 : (decide (x6_9 < (a0.length : Int))) = true := (and_r b242)
            have d244 : s236 45 = (.bool (decide (x6_9 < (a0.length : Int)))) := ((hd240 9 rfl).1 (not_mk (not_f (and_l b242))))
            have d245 : s236 45 = (.bool (decide (x6_9 < (a0.length : Int)))) := ((hd240 9 rfl).1 (not_mk (not_f (and_l b242))))
            exact L_op (.guard 9 true 45 rfl rfl (ltb rfl) (d244.trans (congrArg Value.bool g243))) rfl (ltb rfl) (X_move (v := (.int .i64 x7_10)) ((hf239 7 rfl).trans ((K34 7 rfl).trans h29))) <| L_nil <| stepEnd rfl rfl (Ext.refl w237) ⟨fun _ => rfl, fun h => absurd (b242.symm.trans h) (by decide)⟩
          · rcases bool_two (!(decide (x7_10 = (a1.length : Int)))) with b246 | b246
            · have d247 : s236 45 = (.bool (decide (x6_9 < (a0.length : Int)))) := ((hd240 9 rfl).1 (not_mk (not_f b246)))
              have g248 : (decide (x6_9 < (a0.length : Int))) = false := (and_fr b242 b246)
              exact L_skip rfl rfl (ltb rfl) (d247.trans (congrArg Value.bool g248)) rfl rfl (ltb rfl) <| L_nil <| stepEnd rfl rfl (Ext.refl w237) ⟨fun h => absurd (b242.symm.trans h) (by decide), fun _ => rfl⟩
            · exact L_skipU rfl rfl (ltb rfl) ((hd240 9 rfl).2 b246) rfl (ltb rfl) <| L_nil <| stepEnd rfl rfl (Ext.refl w237) ⟨fun h => absurd (b242.symm.trans h) (by decide), fun _ => rfl⟩
        · intro s249 w250 e251 hf252 hd253 hu254
          rcases bool_two (spec_l06Two.e1 a0 a1 x6_9 x7_10) with b255 | b255
          · have g256 : (decide (x6_9 < (a0.length : Int))) = true := (and_r b255)
            have d257 : s249 45 = (.bool (decide (x6_9 < (a0.length : Int)))) := ((hd253 9 rfl).1 (not_mk (not_f (and_l b255))))
            have d258 : s249 45 = (.bool (decide (x6_9 < (a0.length : Int)))) := ((hd253 9 rfl).1 (not_mk (not_f (and_l b255))))
            have d259 : s249 51 = v_a1 := ((hd253 15 rfl).1 (and_mk (not_mk (not_f (and_l b255))) (and_r b255)))
            have d260 : s249 52 = (.int .i64 x7_10) := ((hd253 16 rfl).1 (and_mk (not_mk (not_f (and_l b255))) (and_r b255)))
            have c261 := imp_take b255 c42
            exact L_idx (.guard 9 true 45 rfl rfl (ltb rfl) (d257.trans (congrArg Value.bool g256))) rfl (ltb rfl) rfl Tryz.underlying28 Tryz.sizeOf78 d259 (Rd.ext f_a1 (Ext.trans (Ext.trans (Ext.trans e5 e24) e36) e251)) d260 c261 <| fun p262 h263 => L_nil <| stepEnd rfl rfl (Ext.refl w250) ⟨fun _ => ⟨_, rfl, h263⟩, fun h => absurd (b255.symm.trans h) (by decide)⟩
          · rcases bool_two (!(decide (x7_10 = (a1.length : Int)))) with b264 | b264
            · have d265 : s249 45 = (.bool (decide (x6_9 < (a0.length : Int)))) := ((hd253 9 rfl).1 (not_mk (not_f b264)))
              have g266 : (decide (x6_9 < (a0.length : Int))) = false := (and_fr b255 b264)
              exact L_skip rfl rfl (ltb rfl) (d265.trans (congrArg Value.bool g266)) rfl rfl (ltb rfl) <| L_nil <| stepEnd rfl rfl (Ext.refl w250) ⟨fun h => absurd (b255.symm.trans h) (by decide), fun _ => rfl⟩
            · exact L_skipU rfl rfl (ltb rfl) ((hd253 9 rfl).2 b264) rfl (ltb rfl) <| L_nil <| stepEnd rfl rfl (Ext.refl w250) ⟨fun h => absurd (b255.symm.trans h) (by decide), fun _ => rfl⟩
        · intro s267 w268 e269 hf270 hd271 hu272
          rcases bool_two (spec_l06Two.e1 a0 a1 x6_9 x7_10) with b273 | b273
          · have g274 : (decide (x6_9 < (a0.length : Int))) = true := (and_r b273)
            have d275 : s267 45 = (.bool (decide (x6_9 < (a0.length : Int)))) := ((hd271 9 rfl).1 (not_mk (not_f (and_l b273))))
            have d276 : s267 45 = (.bool (decide (x6_9 < (a0.length : Int)))) := ((hd271 9 rfl).1 (not_mk (not_f (and_l b273))))
            obtain ⟨p277, h278, h279⟩ := ((hd271 17 rfl).1 (and_mk (not_mk (not_f (and_l b273))) (and_r b273)))
            exact L_op (.guard 9 true 45 rfl rfl (ltb rfl) (d275.trans (congrArg Value.bool g274))) rfl (ltb rfl) (X_fieldAddr Tryz.underlying78 rfl Tryz.sizeOf9 rfl h278) <| L_nil <| stepEnd rfl rfl (Ext.refl w268) ⟨fun _ => ⟨_, rfl, h279⟩, fun h => absurd (b273.symm.trans h) (by decide)⟩
          · rcases bool_two (!(decide (x7_10 = (a1.length : Int)))) with b280 | b280
            · have d281 : s267 45 = (.bool (decide (x6_9 < (a0.length : Int)))) := ((hd271 9 rfl).1 (not_mk (not_f b280)))
              have g282 : (decide (x6_9 < (a0.length : Int))) = false := (and_fr b273 b280)
              exact L_skip rfl rfl (ltb rfl) (d281.trans (congrArg Value.bool g282)) rfl rfl (ltb rfl) <| L_nil <| stepEnd rfl rfl (Ext.refl w268) ⟨fun h => absurd (b273.symm.trans h) (by decide), fun _ => rfl⟩
            · exact L_skipU rfl rfl (ltb rfl) ((hd271 9 rfl).2 b280) rfl (ltb rfl) <| L_nil <| stepEnd rfl rfl (Ext.refl w268) ⟨fun h => absurd (b273.symm.trans h) (by decide), fun _ => rfl⟩
        · intro s283 w284 e285 hf286 hd287 hu288
          rcases bool_two (spec_l06Two.e1 a0 a1 x6_9 x7_10) with b289 | b289
          · have g290 : (decide (x6_9 < (a0.length : Int))) = true := (and_r b289)
            have d291 : s283 45 = (.bool (decide (x6_9 < (a0.length : Int)))) := ((hd287 9 rfl).1 (not_mk (not_f (and_l b289))))
            have d292 : s283 45 = (.bool (decide (x6_9 < (a0.length : Int)))) := ((hd287 9 rfl).1 (not_mk (not_f (and_l b289))))
            obtain ⟨p293, h294, h295⟩ := ((hd287 18 rfl).1 (and_mk (not_mk (not_f (and_l b289))) (and_r b289)))
            exact L_op (.guard 9 true 45 rfl rfl (ltb rfl) (d291.trans (congrArg Value.bool g290))) rfl (ltb rfl) (X_loadF Tryz.isAgg9 (j := 1) h295 h294 rfl) <| L_nil <| stepEnd rfl rfl (Ext.refl w284) ⟨fun _ => rfl, fun h => absurd (b289.symm.trans h) (by decide)⟩
          · rcases bool_two (!(decide (x7_10 = (a1.length : Int)))) with b296 | b296
            · have d297 : s283 45 = (.bool (decide (x6_9 < (a0.length : Int)))) := ((hd287 9 rfl).1 (not_mk (not_f b296)))
              have g298 : (decide (x6_9 < (a0.length : Int))) = false := (and_fr b289 b296)
              exact L_skip rfl rfl (ltb rfl) (d297.trans (congrArg Value.bool g298)) rfl rfl (ltb rfl) <| L_nil <| stepEnd rfl rfl (Ext.refl w284) ⟨fun h => absurd (b289.symm.trans h) (by decide), fun _ => rfl⟩
            · exact L_skipU rfl rfl (ltb rfl) ((hd287 9 rfl).2 b296) rfl (ltb rfl) <| L_nil <| stepEnd rfl rfl (Ext.refl w284) ⟨fun h => absurd (b289.symm.trans h) (by decide), fun _ => rfl⟩
        · intro s299 w300 e301 hf302 hd303 hu304
          rcases bool_two (spec_l06Two.e1 a0 a1 x6_9 x7_10) with b305 | b305
          · have g306 : (decide (x6_9 < (a0.length : Int))) = true := (and_r b305)
            have d307 : s299 45 = (.bool (decide (x6_9 < (a0.length : Int)))) := ((hd303 9 rfl).1 (not_mk (not_f (and_l b305))))
            have d308 : s299 45 = (.bool (decide (x6_9 < (a0.length : Int)))) := ((hd303 9 rfl).1 (not_mk (not_f (and_l b305))))
            have d309 : s299 50 = (S ((gt a0 x6_9).path)) := ((hd303 14 rfl).1 (and_mk (not_mk (not_f (and_l b305))) (and_r b305)))
            have d310 : s299 55 = (S ((gt a1 x7_10).path)) := ((hd303 19 rfl).1 (and_mk (not_mk (not_f (and_l b305))) (and_r b305)))
            have c311 := imp_take b305 c45
            have c312 := imp_take b305 c46
            exact L_callP (.guard 9 true 45 rfl rfl (ltb rfl) (d307.trans (congrArg Value.bool g306))) rfl (ltb rfl) rfl Tryz.call112 (spec_l01Less.calls (w := w300) (a0 := (gt a0 x6_9).path) (a1 := (gt a1 x7_10).path) (of_decide_eq_true c311) (of_decide_eq_true c312)) (cons2 d309 (cons2 d310 rfl)) <| fun w313 e314 => L_nil <| stepEnd rfl rfl e314 ⟨fun _ => rfl, fun h => absurd (b305.symm.trans h) (by decide)⟩
          · rcases bool_two (!(decide (x7_10 = (a1.length : Int)))) with b315 | b315
            · have d316 : s299 45 = (.bool (decide (x6_9 < (a0.length : Int)))) := ((hd303 9 rfl).1 (not_mk (not_f b315)))
              have g317 : (decide (x6_9 < (a0.length : Int))) = false := (and_fr b305 b315)
              exact L_skip rfl rfl (ltb rfl) (d316.trans (congrArg Value.bool g317)) rfl rfl (ltb rfl) <| L_nil <| stepEnd rfl rfl (Ext.refl w300) ⟨fun h => absurd (b305.symm.trans h) (by decide), fun _ => rfl⟩
            · exact L_skipU rfl rfl (ltb rfl) ((hd303 9 rfl).2 b315) rfl (ltb rfl) <| L_nil <| stepEnd rfl rfl (Ext.refl w300) ⟨fun h => absurd (b305.symm.trans h) (by decide), fun _ => rfl⟩
        · intro s318 w319 e320 hf321 hd322 hu323
          rcases bool_two (!(decide (x7_10 = (a1.length : Int)))) with b324 | b324
          · have g325 : (decide (x7_10 = (a1.length : Int))) = false := (not_f b324)
            have d326 : s318 40 = (.bool (decide (x7_10 = (a1.length : Int)))) := (hd322 4 rfl)
            rcases bool_two (decide (x6_9 < (a0.length : Int))) with b327 | b327
            · have d328 : s318 45 = (.bool (decide (x6_9 < (a0.length : Int)))) := ((hd322 9 rfl).1 (not_mk (not_f b324)))
              have d329 : s318 56 = (.bool (lessL (cut 47 ((gt a0 x6_9).path)) (cut 47 ((gt a1 x7_10).path)))) := ((hd322 20 rfl).1 (and_mk (not_mk (not_f b324)) b327))
              exact L_op (.guard 4 false 40 rfl rfl (ltb rfl) (d326.trans (congrArg Value.bool g325))) rfl (ltb rfl) (X_pick (b := true) (v := (.bool (lessL (cut 47 ((gt a0 x6_9).path)) (cut 47 ((gt a1 x7_10).path))))) (d328.trans (congrArg Value.bool b327)) d329) <| L_nil <| stepEnd rfl rfl (Ext.refl w319) ⟨fun _ => (and_t b327), fun h => absurd (b324.symm.trans h) (by decide)⟩
            · have d330 : s318 45 = (.bool (decide (x6_9 < (a0.length : Int)))) := ((hd322 9 rfl).1 (not_mk (not_f b324)))
              exact L_op (.guard 4 false 40 rfl rfl (ltb rfl) (d326.trans (congrArg Value.bool g325))) rfl (ltb rfl) (X_pick (b := false) (v := (.bool false)) (d330.trans (congrArg Value.bool b327)) rfl) <| L_nil <| stepEnd rfl rfl (Ext.refl w319) ⟨fun _ => (and_f b327), fun h => absurd (b324.symm.trans h) (by decide)⟩
          · have d331 : s318 40 = (.bool (decide (x7_10 = (a1.length : Int)))) := (hd322 4 rfl)
            have g332 : (decide (x7_10 = (a1.length : Int))) = true := (not_ff b324)
            exact L_skip rfl rfl (ltb rfl) (d331.trans (congrArg Value.bool g332)) rfl rfl (ltb rfl) <| L_nil <| stepEnd rfl rfl (Ext.refl w319) ⟨fun h => absurd (b324.symm.trans h) (by decide), fun _ => rfl⟩
        · intro s333 w334 e335 hf336 hd337 hu338
          rcases bool_two (decide (x7_10 = (a1.length : Int))) with b339 | b339
          · have d340 : s333 40 = (.bool (decide (x7_10 = (a1.length : Int)))) := (hd337 4 rfl)
            exact L_op (.plain rfl) rfl (ltb rfl) (X_pick (b := true) (v := (.bool true)) (d340.trans (congrArg Value.bool b339)) rfl) <| L_nil <| stepEnd rfl rfl (Ext.refl w334) (or_t b339)
          · have d341 : s333 40 = (.bool (decide (x7_10 = (a1.length : Int)))) := (hd337 4 rfl)
            have d342 : s333 57 = (.bool (spec_l06Two.e2 a0 a1 x6_9 x7_10)) := ((hd337 21 rfl).1 (not_mk b339))
            exact L_op (.plain rfl) rfl (ltb rfl) (X_pick (b := false) (v := (.bool (spec_l06Two.e2 a0 a1 x6_9 x7_10))) (d341.trans (congrArg Value.bool b339)) d342) <| L_nil <| stepEnd rfl rfl (Ext.refl w334) (or_f b339)
        · intro s343 w344 e345 hf346 hd347 hu348
          have d349 : s343 58 = (.bool ((decide (x7_10 = (a1.length : Int))) || (spec_l06Two.e2 a0 a1 x6_9 x7_10))) := (hd347 22 rfl)
          exact L_op (.plain rfl) rfl (ltb rfl) (X_assign d349) <| L_nil <| stepEnd rfl rfl (Ext.refl w344) rfl
        intro s350 w351 e352 hf353 ha354
        have K355 := Kp.ofD (kp := [(35, 59)]) rfl hf353
        have d356 : s350 35 = (.bool ((decide (x7_10 = (a1.length : Int))) || (spec_l06Two.e2 a0 a1 x6_9 x7_10))) := ha354 23 rfl
        clear ha354 hf353
        refine thn_n ?_
        rcases bif_two H with ⟨q357, H⟩ | ⟨q357, H⟩
        · refine W_true (d356.trans (congrArg Value.bool q357)) <| W_seq <| W_seq <| W_reg <| L_op (.plain rfl) rfl (ltb rfl) (X_move (v := v_a1) ((K355 1 rfl).trans ((K34 1 rfl).trans (K23 1 rfl)))) <| L_op (.plain rfl) rfl (ltb rfl) (X_move (v := v_a0) ((K355 0 rfl).trans ((K34 0 rfl).trans (K23 0 rfl)))) <| L_op (.plain rfl) rfl (ltb rfl) (X_move (v := (.int .i64 x6_9)) ((K355 6 rfl).trans ((K34 6 rfl).trans h28))) ?_
          obtain ⟨c358, H⟩ := bif_some H
          refine L_idx (.plain rfl) rfl (ltb rfl) rfl Tryz.underlying28 Tryz.sizeOf78 rfl (Rd.ext f_a0 (Ext.trans (Ext.trans (Ext.trans e5 e24) e36) e352)) rfl c358 <| fun p359 h360 => L_op (.plain rfl) rfl (ltb rfl) (X_fieldAddr Tryz.underlying78 rfl Tryz.sizeOf9 rfl rfl) <| L_op (.plain rfl) rfl (ltb rfl) (X_loadF Tryz.isAgg9 (j := 1) h360 rfl rfl) ?_
          obtain ⟨c361, H⟩ := bif_some H
          obtain ⟨c362, H⟩ := bif_some H
          refine L_callP (.plain rfl) rfl (ltb rfl) rfl Tryz.call130 (spec_l06Cuts.calls (w := w351) (a0 := a1) (a1 := (gt a0 x6_9).path) (Rd.ext f_a1 (Ext.trans (Ext.trans (Ext.trans e5 e24) e36) e352)) (of_decide_eq_true c361) (of_decide_eq_true c362)) rfl <| fun w363 e364 => L_op (.plain rfl) rfl (ltb rfl) (X_not rfl) <| L_nil <| thn_n ?_
          rcases bif_two H with ⟨q365, H⟩ | ⟨q365, H⟩
          · refine W_true (congrArg Value.bool q365) <| W_reg <| L_op (.plain rfl) rfl (ltb rfl) (X_move (v := v8) ((K355 5 rfl).trans ((K34 5 rfl).trans h26))) <| L_op (.plain rfl) rfl (ltb rfl) (X_move (v := v_a0) ((K355 0 rfl).trans ((K34 0 rfl).trans (K23 0 rfl)))) <| L_op (.plain rfl) rfl (ltb rfl) (X_move (v := (.int .i64 x6_9)) ((K355 6 rfl).trans ((K34 6 rfl).trans h28))) ?_
            obtain ⟨c366, H⟩ := bif_some H
            refine L_idx (.plain rfl) rfl (ltb rfl) rfl Tryz.underlying28 Tryz.sizeOf78 rfl (Rd.ext f_a0 (Ext.trans (Ext.trans (Ext.trans (Ext.trans e5 e24) e36) e352) e364)) rfl c366 <| fun p367 h368 => L_op (.plain rfl) rfl (ltb rfl) (X_loadS Tryz.isAgg78 Tryz.sizeOf78 rfl rfl h368) <| L_lit (.plain rfl) rfl (ltb rfl) rfl Tryz.underlying28 Tryz.sizeOf78 Tryz.zeroValue78 rfl rfl rfl (vs := [(.agg (encRec (gt a0 x6_9)).toArray)]) rfl (lit_all rfl) <| fun b369 w370 z371 z372 e373 k374 => ?_
            obtain ⟨c375, H⟩ := bif_some H
            refine L_append (enc := encRec) (.plain rfl) rfl (ltb rfl) rfl El.t28 rfl rfl (Ow.ext h27 (Ext.trans (Ext.trans (Ext.trans e36 e352) e364) e373)) (Ow.rd (Ow.new (xs := [gt a0 x6_9]) (sz := 5) (enc := encRec) (base := w363.heap.size) k374 (Nat.le_of_eq z371) rfl (fun _ _ => by rfl) (Nat.le_of_ble_eq_true rfl))) (ones_Rec _) (of_decide_eq_true c375) ((Ext.trans (Ext.trans (Ext.trans (Ext.trans e24 e36) e352) e364) e373)).size <| fun v376 w377 o378 z379 g380 => L_op (.plain rfl) rfl (ltb rfl) (X_assign (v := v376) rfl) <| L_nil <| thn_n <| W_reg <| L_op (.plain rfl) rfl (ltb rfl) (X_move (v := (.int .i64 x6_9)) ((K355 6 rfl).trans ((K34 6 rfl).trans h28))) <| L_op (.plain rfl) rfl (ltb rfl) (X_add rfl rfl) <| L_op (.plain rfl) rfl (ltb rfl) (X_assign (v := (.int .i64 (IntKind.wrap .i64 (x6_9 + 1)))) rfl) <| L_nil <| blk_n <| blk_n <| thn_n ?_
            obtain rfl := Option.some.inj H
            exact ⟨_, Nat.lt_succ_self _, x5_7 ++ ([gt a0 x6_9] : List Rec), v376, IntKind.wrap .i64 (x6_9 + 1), x7_10, (Kp.upd (Kp.upd (Kp.upd (Kp.upd (Kp.upd (Kp.upd (Kp.upd (Kp.upd (Kp.upd (Kp.upd (Kp.upd (Kp.upd (Kp.upd (Kp.upd (Kp.upd (Kp.upd (Kp.upd (Kp.upd (Kp.upd (Kp.cut (Kp.cut (Kp.upd (Kp.upd (Kp.upd (Kp.upd (Kp.upd K23 rfl) rfl) rfl) rfl) rfl) K34 rfl) K355 rfl) rfl) rfl) rfl) rfl) rfl) rfl) rfl) rfl) rfl) rfl) rfl) rfl) rfl) rfl) rfl) rfl) rfl) rfl) rfl), rfl, o378, rfl, ((K355 7 rfl).trans ((K34 7 rfl).trans h29)), (g380 _ (Ext.trans (Ext.trans (Ext.trans (Ext.trans e24 e36) e352) e364) e373)), S31⟩
          · refine W_false (congrArg Value.bool q365) <| W_skip <| thn_n <| W_reg <| L_op (.plain rfl) rfl (ltb rfl) (X_move (v := (.int .i64 x6_9)) ((K355 6 rfl).trans ((K34 6 rfl).trans h28))) <| L_op (.plain rfl) rfl (ltb rfl) (X_add rfl rfl) <| L_op (.plain rfl) rfl (ltb rfl) (X_assign (v := (.int .i64 (IntKind.wrap .i64 (x6_9 + 1)))) rfl) <| L_nil <| blk_n <| blk_n <| thn_n ?_
            obtain rfl := Option.some.inj H
            exact ⟨_, Nat.lt_succ_self _, x5_7, v8, IntKind.wrap .i64 (x6_9 + 1), x7_10, (Kp.upd (Kp.upd (Kp.upd (Kp.upd (Kp.upd (Kp.upd (Kp.upd (Kp.upd (Kp.upd (Kp.upd (Kp.upd (Kp.cut (Kp.cut (Kp.upd (Kp.upd (Kp.upd (Kp.upd (Kp.upd K23 rfl) rfl) rfl) rfl) rfl) K34 rfl) K355 rfl) rfl) rfl) rfl) rfl) rfl) rfl) rfl) rfl) rfl) rfl) rfl), ((K355 5 rfl).trans ((K34 5 rfl).trans h26)), (Ow.ext h27 (Ext.trans (Ext.trans e36 e352) e364)), rfl, ((K355 7 rfl).trans ((K34 7 rfl).trans h29)), (Ext.trans (Ext.trans (Ext.trans e24 e36) e352) e364), S31⟩
        · refine W_false (d356.trans (congrArg Value.bool q357)) <| W_seq ?_
          obtain ⟨c381, H⟩ := bif_some H
          obtain ⟨c384, H⟩ := bif_some H
          obtain ⟨c387, H⟩ := bif_some H
          obtain ⟨c388, H⟩ := bif_some H
          refine W_drawM [LEq (.int .i64 x6_9), LEq v_a0, LEq (.int .i64 (a0.length : Int)), LEq (.bool (decide (x6_9 = (a0.length : Int)))), LEq (.bool (decide (x6_9 = (a0.length : Int)))), LIf (!(decide (x6_9 = (a0.length : Int)))) (LEq v_a1), LIf (!(decide (x6_9 = (a0.length : Int)))) (LEq (.int .i64 x7_10)), LIf (!(decide (x6_9 = (a0.length : Int)))) (LAt0 (encRec (gt a1 x7_10))), LIf (!(decide (x6_9 = (a0.length : Int)))) (LAt 1 (encRec (gt a1 x7_10))), LIf (!(decide (x6_9 = (a0.length : Int)))) (LEq (S ((gt a1 x7_10).path))), LIf (!(decide (x6_9 = (a0.length : Int)))) (LEq v_a0), LIf (!(decide (x6_9 = (a0.length : Int)))) (LEq (.int .i64 x6_9)), LIf (!(decide (x6_9 = (a0.length : Int)))) (LAt0 (encRec (gt a0 x6_9))), LIf (!(decide (x6_9 = (a0.length : Int)))) (LAt 1 (encRec (gt a0 x6_9))), LIf (!(decide (x6_9 = (a0.length : Int)))) (LEq (S ((gt a0 x6_9).path))), LIf (!(decide (x6_9 = (a0.length : Int)))) (LEq (.bool (lessL (cut 47 ((gt a1 x7_10).path)) (cut 47 ((gt a0 x6_9).path))))), LEq (.bool ((decide (x6_9 = (a0.length : Int))) || (lessL (cut 47 ((gt a1 x7_10).path)) (cut 47 ((gt a0 x6_9).path))))), LEq (.bool ((decide (x6_9 = (a0.length : Int))) || (lessL (cut 47 ((gt a1 x7_10).path)) (cut 47 ((gt a0 x6_9).path)))))] (by kernel_rfl) (by kernel_rfl) ⟨LEq.mono, LEq.mono, LEq.mono, LEq.mono, LEq.mono, (LIf.mono LEq.mono), (LIf.mono LEq.mono), (LIf.mono LAt0.mono), (LIf.mono LAt.mono), (LIf.mono LEq.mono), (LIf.mono LEq.mono), (LIf.mono LEq.mono), (LIf.mono LAt0.mono), (LIf.mono LAt.mono), (LIf.mono LEq.mono), (LIf.mono LEq.mono), LEq.mono, LEq.mono, trivial⟩ ⟨?_, ?_, ?_, ?_, ?_, ?_, ?_, ?_, ?_, ?_, ?_, ?_, ?_, ?_, ?_, ?_, ?_, ?_, trivial⟩ ?_
          · intro s391 w392 e393 hf394 hd395 hu396
            exact L_op (.plain rfl) rfl (ltb rfl) (X_move (v := (.int .i64 x6_9)) ((hf394 6 rfl).trans ((K355 6 rfl).trans ((K34 6 rfl).trans h28)))) <| L_nil <| stepEnd rfl rfl (Ext.refl w392) rfl
          · intro s397 w398 e399 hf400 hd401 hu402
            exact L_op (.plain rfl) rfl (ltb rfl) (X_move (v := v_a0) ((hf400 0 rfl).trans ((K355 0 rfl).trans ((K34 0 rfl).trans (K23 0 rfl))))) <| L_nil <| stepEnd rfl rfl (Ext.refl w398) rfl
          · intro s403 w404 e405 hf406 hd407 hu408
            have d409 : s403 78 = v_a0 := (hd407 1 rfl)
            exact L_op (.plain rfl) rfl (ltb rfl) (X_lenR Tryz.underlying28 d409 (Rd.ext f_a0 (Ext.trans (Ext.trans (Ext.trans (Ext.trans e5 e24) e36) e352) e405))) <| L_nil <| stepEnd rfl rfl (Ext.refl w404) rfl
          · intro s410 w411 e412 hf413 hd414 hu415
            have d416 : s410 77 = (.int .i64 x6_9) := (hd414 0 rfl)
            have d417 : s410 79 = (.int .i64 (a0.length : Int)) := (hd414 2 rfl)
            exact L_op (.plain rfl) rfl (ltb rfl) (X_eql d416 d417) <| L_nil <| stepEnd rfl rfl (Ext.refl w411) rfl
          · intro s418 w419 e420 hf421 hd422 hu423
            have d424 : s418 80 = (.bool (decide (x6_9 = (a0.length : Int)))) := (hd422 3 rfl)
            exact L_op (.plain rfl) rfl (ltb rfl) (X_move (v := (.bool (decide (x6_9 = (a0.length : Int))))) d424) <| L_nil <| stepEnd rfl rfl (Ext.refl w419) rfl
          · intro s425 w426 e427 hf428 hd429 hu430
            rcases bool_two (!(decide (x6_9 = (a0.length : Int)))) with b431 | b431
            · have g432 : (decide (x6_9 = (a0.length : Int))) = false := (not_f b431)
              have d433 : s425 81 = (.bool (decide (x6_9 = (a0.length : Int)))) := (hd429 4 rfl)
              have d434 : s425 81 = (.bool (decide (x6_9 = (a0.length : Int)))) := (hd429 4 rfl)
              exact L_op (.guard 4 false 81 rfl rfl (ltb rfl) (d433.trans (congrArg Value.bool g432))) rfl (ltb rfl) (X_move (v := v_a1) ((hf428 1 rfl).trans ((K355 1 rfl).trans ((K34 1 rfl).trans (K23 1 rfl))))) <| L_nil <| stepEnd rfl rfl (Ext.refl w426) ⟨fun _ => rfl, fun h => absurd (b431.symm.trans h) (by decide)⟩
            · have d435 : s425 81 = (.bool (decide (x6_9 = (a0.length : Int)))) := (hd429 4 rfl)
              have g436 : (decide (x6_9 = (a0.length : Int))) = true := (not_ff b431)
              exact L_skip rfl rfl (ltb rfl) (d435.trans (congrArg Value.bool g436)) rfl rfl (ltb rfl) <| L_nil <| stepEnd rfl rfl (Ext.refl w426) ⟨fun h => absurd (b431.symm.trans h) (by decide), fun _ => rfl⟩
          · intro s437 w438 e439 hf440 hd441 hu442
            rcases bool_two (!(decide (x6_9 = (a0.length : Int)))) with b443 | b443
            · have g444 : (decide (x6_9 = (a0.length : Int))) = false := (not_f b443)
              have d445 : s437 81 = (.bool (decide (x6_9 = (a0.length : Int)))) := (hd441 4 rfl)
              have d446 : s437 81 = (.bool (decide (x6_9 = (a0.length : Int)))) := (hd441 4 rfl)
              exact L_op (.guard 4 false 81 rfl rfl (ltb rfl) (d445.trans (congrArg Value.bool g444))) rfl (ltb rfl) (X_move (v := (.int .i64 x7_10)) ((hf440 7 rfl).trans ((K355 7 rfl).trans ((K34 7 rfl).trans h29)))) <| L_nil <| stepEnd rfl rfl (Ext.refl w438) ⟨fun _ => rfl, fun h => absurd (b443.symm.trans h) (by decide)⟩
            · have d447 : s437 81 = (.bool (decide (x6_9 = (a0.length : Int)))) := (hd441 4 rfl)
              have g448 : (decide (x6_9 = (a0.length : Int))) = true := (not_ff b443)
              exact L_skip rfl rfl (ltb rfl) (d447.trans (congrArg Value.bool g448)) rfl rfl (ltb rfl) <| L_nil <| stepEnd rfl rfl (Ext.refl w438) ⟨fun h => absurd (b443.symm.trans h) (by decide), fun _ => rfl⟩
          · intro s449 w450 e451 hf452 hd453 hu454
            rcases bool_two (!(decide (x6_9 = (a0.length : Int)))) with b455 | b455
            · have g456 : (decide (x6_9 = (a0.length : Int))) = false := (not_f b455)
              have d457 : s449 81 = (.bool (decide (x6_9 = (a0.length : Int)))) := (hd453 4 rfl)
              have d458 : s449 81 = (.bool (decide (x6_9 = (a0.length : Int)))) := (hd453 4 rfl)
              have d459 : s449 82 = v_a1 := ((hd453 5 rfl).1 (not_mk (not_f b455)))
              have d460 : s449 83 = (.int .i64 x7_10) := ((hd453 6 rfl).1 (not_mk (not_f b455)))
              have c461 := imp_take b455 c381
              exact L_idx (.guard 4 false 81 rfl rfl (ltb rfl) (d457.trans (congrArg Value.bool g456))) rfl (ltb rfl) rfl Tryz.underlying28 Tryz.sizeOf78 d459 (Rd.ext f_a1 (Ext.trans (Ext.trans (Ext.trans (Ext.trans e5 e24) e36) e352) e451)) d460 c461 <| fun p462 h463 => L_nil <| stepEnd rfl rfl (Ext.refl w450) ⟨fun _ => ⟨_, rfl, h463⟩, fun h => absurd (b455.symm.trans h) (by decide)⟩
            · have d464 : s449 81 = (.bool (decide (x6_9 = (a0.length : Int)))) := (hd453 4 rfl)
              have g465 : (decide (x6_9 = (a0.length : Int))) = true := (not_ff b455)
              exact L_skip rfl rfl (ltb rfl) (d464.trans (congrArg Value.bool g465)) rfl rfl (ltb rfl) <| L_nil <| stepEnd rfl rfl (Ext.refl w450) ⟨fun h => absurd (b455.symm.trans h) (by decide), fun _ => rfl⟩
          · intro s466 w467 e468 hf469 hd470 hu471
            rcases bool_two (!(decide (x6_9 = (a0.length : Int)))) with b472 | b472
            · have g473 : (decide (x6_9 = (a0.length : Int))) = false := (not_f b472)
              have d474 : s466 81 = (.bool (decide (x6_9 = (a0.length : Int)))) := (hd470 4 rfl)
              have d475 : s466 81 = (.bool (decide (x6_9 = (a0.length : Int)))) := (hd470 4 rfl)
              obtain ⟨p476, h477, h478⟩ := ((hd470 7 rfl).1 (not_mk (not_f b472)))
              exact L_op (.guard 4 false 81 rfl rfl (ltb rfl) (d474.trans (congrArg Value.bool g473))) rfl (ltb rfl) (X_fieldAddr Tryz.underlying78 rfl Tryz.sizeOf9 rfl h477) <| L_nil <| stepEnd rfl rfl (Ext.refl w467) ⟨fun _ => ⟨_, rfl, h478⟩, fun h => absurd (b472.symm.trans h) (by decide)⟩
            · have d479 : s466 81 = (.bool (decide (x6_9 = (a0.length : Int)))) := (hd470 4 rfl)
              have g480 : (decide (x6_9 = (a0.length : Int))) = true := (not_ff b472)
              exact L_skip rfl rfl (ltb rfl) (d479.trans (congrArg Value.bool g480)) rfl rfl (ltb rfl) <| L_nil <| stepEnd rfl rfl (Ext.refl w467) ⟨fun h => absurd (b472.symm.trans h) (by decide), fun _ => rfl⟩
          · intro s481 w482 e483 hf484 hd485 hu486
            rcases bool_two (!(decide (x6_9 = (a0.length : Int)))) with b487 | b487
            · have g488 : (decide (x6_9 = (a0.length : Int))) = false := (not_f b487)
              have d489 : s481 81 = (.bool (decide (x6_9 = (a0.length : Int)))) := (hd485 4 rfl)
              have d490 : s481 81 = (.bool (decide (x6_9 = (a0.length : Int)))) := (hd485 4 rfl)
              obtain ⟨p491, h492, h493⟩ := ((hd485 8 rfl).1 (not_mk (not_f b487)))
              exact L_op (.guard 4 false 81 rfl rfl (ltb rfl) (d489.trans (congrArg Value.bool g488))) rfl (ltb rfl) (X_loadF Tryz.isAgg9 (j := 1) h493 h492 rfl) <| L_nil <| stepEnd rfl rfl (Ext.refl w482) ⟨fun _ => rfl, fun h => absurd (b487.symm.trans h) (by decide)⟩
            · have d494 : s481 81 = (.bool (decide (x6_9 = (a0.length : Int)))) := (hd485 4 rfl)
              have g495 : (decide (x6_9 = (a0.length : Int))) = true := (not_ff b487)
              exact L_skip rfl rfl (ltb rfl) (d494.trans (congrArg Value.bool g495)) rfl rfl (ltb rfl) <| L_nil <| stepEnd rfl rfl (Ext.refl w482) ⟨fun h => absurd (b487.symm.trans h) (by decide), fun _ => rfl⟩
          · intro s496 w497 e498 hf499 hd500 hu501
            rcases bool_two (!(decide (x6_9 = (a0.length : Int)))) with b502 | b502
            · have g503 : (decide (x6_9 = (a0.length : Int))) = false := (not_f b502)
              have d504 : s496 81 = (.bool (decide (x6_9 = (a0.length : Int)))) := (hd500 4 rfl)
              have d505 : s496 81 = (.bool (decide (x6_9 = (a0.length : Int)))) := (hd500 4 rfl)
              exact L_op (.guard 4 false 81 rfl rfl (ltb rfl) (d504.trans (congrArg Value.bool g503))) rfl (ltb rfl) (X_move (v := v_a0) ((hf499 0 rfl).trans ((K355 0 rfl).trans ((K34 0 rfl).trans (K23 0 rfl))))) <| L_nil <| stepEnd rfl rfl (Ext.refl w497) ⟨fun _ => rfl, fun h => absurd (b502.symm.trans h) (by decide)⟩
            · have d506 : s496 81 = (.bool (decide (x6_9 = (a0.length : Int)))) := (hd500 4 rfl)
              have g507 : (decide (x6_9 = (a0.length : Int))) = true := (not_ff b502)
              exact L_skip rfl rfl (ltb rfl) (d506.trans (congrArg Value.bool g507)) rfl rfl (ltb rfl) <| L_nil <| stepEnd rfl rfl (Ext.refl w497) ⟨fun h => absurd (b502.symm.trans h) (by decide), fun _ => rfl⟩
          · intro s508 w509 e510 hf511 hd512 hu513
            rcases bool_two (!(decide (x6_9 = (a0.length : Int)))) with b514 | b514
            · have g515 : (decide (x6_9 = (a0.length : Int))) = false := (not_f b514)
              have d516 : s508 81 = (.bool (decide (x6_9 = (a0.length : Int)))) := (hd512 4 rfl)
              have d517 : s508 81 = (.bool (decide (x6_9 = (a0.length : Int)))) := (hd512 4 rfl)
              exact L_op (.guard 4 false 81 rfl rfl (ltb rfl) (d516.trans (congrArg Value.bool g515))) rfl (ltb rfl) (X_move (v := (.int .i64 x6_9)) ((hf511 6 rfl).trans ((K355 6 rfl).trans ((K34 6 rfl).trans h28)))) <| L_nil <| stepEnd rfl rfl (Ext.refl w509) ⟨fun _ => rfl, fun h => absurd (b514.symm.trans h) (by decide)⟩
            · have d518 : s508 81 = (.bool (decide (x6_9 = (a0.length : Int)))) := (hd512 4 rfl)
              have g519 : (decide (x6_9 = (a0.length : Int))) = true := (not_ff b514)
              exact L_skip rfl rfl (ltb rfl) (d518.trans (congrArg Value.bool g519)) rfl rfl (ltb rfl) <| L_nil <| stepEnd rfl rfl (Ext.refl w509) ⟨fun h => absurd (b514.symm.trans h) (by decide), fun _ => rfl⟩
          · intro s520 w521 e522 hf523 hd524 hu525
            rcases bool_two (!(decide (x6_9 = (a0.length : Int)))) with b526 | b526
            · have g527 : (decide (x6_9 = (a0.length : Int))) = false := (not_f b526)
              have d528 : s520 81 = (.bool (decide (x6_9 = (a0.length : Int)))) := (hd524 4 rfl)
              have d529 : s520 81 = (.bool (decide (x6_9 = (a0.length : Int)))) := (hd524 4 rfl)
              have d530 : s520 87 = v_a0 := ((hd524 10 rfl).1 (not_mk (not_f b526)))
              have d531 : s520 88 = (.int .i64 x6_9) := ((hd524 11 rfl).1 (not_mk (not_f b526)))
              have c532 := imp_take b526 c384
              exact L_idx (.guard 4 false 81 rfl rfl (ltb rfl) (d528.trans (congrArg Value.bool g527))) rfl (ltb rfl) rfl Tryz.underlying28 Tryz.sizeOf78 d530 (Rd.ext f_a0 (Ext.trans (Ext.trans (Ext.trans (Ext.trans e5 e24) e36) e352) e522)) d531 c532 <| fun p533 h534 => L_nil <| stepEnd rfl rfl (Ext.refl w521) ⟨fun _ => ⟨_, rfl, h534⟩, fun h => absurd (b526.symm.trans h) (by decide)⟩
            · have d535 : s520 81 = (.bool (decide (x6_9 = (a0.length : Int)))) := (hd524 4 rfl)
              have g536 : (decide (x6_9 = (a0.length : Int))) = true := (not_ff b526)
              exact L_skip rfl rfl (ltb rfl) (d535.trans (congrArg Value.bool g536)) rfl rfl (ltb rfl) <| L_nil <| stepEnd rfl rfl (Ext.refl w521) ⟨fun h => absurd (b526.symm.trans h) (by decide), fun _ => rfl⟩
          · intro s537 w538 e539 hf540 hd541 hu542
            rcases bool_two (!(decide (x6_9 = (a0.length : Int)))) with b543 | b543
            · have g544 : (decide (x6_9 = (a0.length : Int))) = false := (not_f b543)
              have d545 : s537 81 = (.bool (decide (x6_9 = (a0.length : Int)))) := (hd541 4 rfl)
              have d546 : s537 81 = (.bool (decide (x6_9 = (a0.length : Int)))) := (hd541 4 rfl)
              obtain ⟨p547, h548, h549⟩ := ((hd541 12 rfl).1 (not_mk (not_f b543)))
              exact L_op (.guard 4 false 81 rfl rfl (ltb rfl) (d545.trans (congrArg Value.bool g544))) rfl (ltb rfl) (X_fieldAddr Tryz.underlying78 rfl Tryz.sizeOf9 rfl h548) <| L_nil <| stepEnd rfl rfl (Ext.refl w538) ⟨fun _ => ⟨_, rfl, h549⟩, fun h => absurd (b543.symm.trans h) (by decide)⟩
            · have d550 : s537 81 = (.bool (decide (x6_9 = (a0.length : Int)))) := (hd541 4 rfl)
              have g551 : (decide (x6_9 = (a0.length : Int))) = true := (not_ff b543)
              exact L_skip rfl rfl (ltb rfl) (d550.trans (congrArg Value.bool g551)) rfl rfl (ltb rfl) <| L_nil <| stepEnd rfl rfl (Ext.refl w538) ⟨fun h => absurd (b543.symm.trans h) (by decide), fun _ => rfl⟩
          · intro s552 w553 e554 hf555 hd556 hu557
            rcases bool_two (!(decide (x6_9 = (a0.length : Int)))) with b558 | b558
            · have g559 : (decide (x6_9 = (a0.length : Int))) = false := (not_f b558)
              have d560 : s552 81 = (.bool (decide (x6_9 = (a0.length : Int)))) := (hd556 4 rfl)
              have d561 : s552 81 = (.bool (decide (x6_9 = (a0.length : Int)))) := (hd556 4 rfl)
              obtain ⟨p562, h563, h564⟩ := ((hd556 13 rfl).1 (not_mk (not_f b558)))
              exact L_op (.guard 4 false 81 rfl rfl (ltb rfl) (d560.trans (congrArg Value.bool g559))) rfl (ltb rfl) (X_loadF Tryz.isAgg9 (j := 1) h564 h563 rfl) <| L_nil <| stepEnd rfl rfl (Ext.refl w553) ⟨fun _ => rfl, fun h => absurd (b558.symm.trans h) (by decide)⟩
            · have d565 : s552 81 = (.bool (decide (x6_9 = (a0.length : Int)))) := (hd556 4 rfl)
              have g566 : (decide (x6_9 = (a0.length : Int))) = true := (not_ff b558)
              exact L_skip rfl rfl (ltb rfl) (d565.trans (congrArg Value.bool g566)) rfl rfl (ltb rfl) <| L_nil <| stepEnd rfl rfl (Ext.refl w553) ⟨fun h => absurd (b558.symm.trans h) (by decide), fun _ => rfl⟩
          · intro s567 w568 e569 hf570 hd571 hu572
            rcases bool_two (!(decide (x6_9 = (a0.length : Int)))) with b573 | b573
            · have g574 : (decide (x6_9 = (a0.length : Int))) = false := (not_f b573)
              have d575 : s567 81 = (.bool (decide (x6_9 = (a0.length : Int)))) := (hd571 4 rfl)
              have d576 : s567 81 = (.bool (decide (x6_9 = (a0.length : Int)))) := (hd571 4 rfl)
              have d577 : s567 86 = (S ((gt a1 x7_10).path)) := ((hd571 9 rfl).1 (not_mk (not_f b573)))
              have d578 : s567 91 = (S ((gt a0 x6_9).path)) := ((hd571 14 rfl).1 (not_mk (not_f b573)))
              have c579 := imp_take b573 c387
              have c580 := imp_take b573 c388
              exact L_callP (.guard 4 false 81 rfl rfl (ltb rfl) (d575.trans (congrArg Value.bool g574))) rfl (ltb rfl) rfl Tryz.call112 (spec_l01Less.calls (w := w568) (a0 := (gt a1 x7_10).path) (a1 := (gt a0 x6_9).path) (of_decide_eq_true c579) (of_decide_eq_true c580)) (cons2 d577 (cons2 d578 rfl)) <| fun w581 e582 => L_nil <| stepEnd rfl rfl e582 ⟨fun _ => rfl, fun h => absurd (b573.symm.trans h) (by decide)⟩
            · have d583 : s567 81 = (.bool (decide (x6_9 = (a0.length : Int)))) := (hd571 4 rfl)
              have g584 : (decide (x6_9 = (a0.length : Int))) = true := (not_ff b573)
              exact L_skip rfl rfl (ltb rfl) (d583.trans (congrArg Value.bool g584)) rfl rfl (ltb rfl) <| L_nil <| stepEnd rfl rfl (Ext.refl w568) ⟨fun h => absurd (b573.symm.trans h) (by decide), fun _ => rfl⟩
          · intro s585 w586 e587 hf588 hd589 hu590
            rcases bool_two (decide (x6_9 = (a0.length : Int))) with b591 | b591
            · have d592 : s585 81 = (.bool (decide (x6_9 = (a0.length : Int)))) := (hd589 4 rfl)
              exact L_op (.plain rfl) rfl (ltb rfl) (X_pick (b := true) (v := (.bool true)) (d592.trans (congrArg Value.bool b591)) rfl) <| L_nil <| stepEnd rfl rfl (Ext.refl w586) (or_t b591)
            · have d593 : s585 81 = (.bool (decide (x6_9 = (a0.length : Int)))) := (hd589 4 rfl)
              have d594 : s585 92 = (.bool (lessL (cut 47 ((gt a1 x7_10).path)) (cut 47 ((gt a0 x6_9).path)))) := ((hd589 15 rfl).1 (not_mk b591))
              exact L_op (.plain rfl) rfl (ltb rfl) (X_pick (b := false) (v := (.bool (lessL (cut 47 ((gt a1 x7_10).path)) (cut 47 ((gt a0 x6_9).path))))) (d593.trans (congrArg Value.bool b591)) d594) <| L_nil <| stepEnd rfl rfl (Ext.refl w586) (or_f b591)
          · intro s595 w596 e597 hf598 hd599 hu600
            have d601 : s595 93 = (.bool ((decide (x6_9 = (a0.length : Int))) || (lessL (cut 47 ((gt a1 x7_10).path)) (cut 47 ((gt a0 x6_9).path))))) := (hd599 16 rfl)
            exact L_op (.plain rfl) rfl (ltb rfl) (X_assign d601) <| L_nil <| stepEnd rfl rfl (Ext.refl w596) rfl
          intro s602 w603 e604 hf605 ha606
          have K607 := Kp.ofD (kp := [(76, 94)]) rfl hf605
          have d608 : s602 76 = (.bool ((decide (x6_9 = (a0.length : Int))) || (lessL (cut 47 ((gt a1 x7_10).path)) (cut 47 ((gt a0 x6_9).path))))) := ha606 17 rfl
          clear ha606 hf605
          refine thn_n ?_
          rcases bif_two H with ⟨q609, H⟩ | ⟨q609, H⟩
          · refine W_true (d608.trans (congrArg Value.bool q609)) <| W_seq <| W_reg <| L_op (.plain rfl) rfl (ltb rfl) (X_move (v := v8) ((K607 5 rfl).trans ((K355 5 rfl).trans ((K34 5 rfl).trans h26)))) <| L_op (.plain rfl) rfl (ltb rfl) (X_move (v := v_a1) ((K607 1 rfl).trans ((K355 1 rfl).trans ((K34 1 rfl).trans (K23 1 rfl))))) <| L_op (.plain rfl) rfl (ltb rfl) (X_move (v := (.int .i64 x7_10)) ((K607 7 rfl).trans ((K355 7 rfl).trans ((K34 7 rfl).trans h29)))) ?_
            obtain ⟨c610, H⟩ := bif_some H
            refine L_idx (.plain rfl) rfl (ltb rfl) rfl Tryz.underlying28 Tryz.sizeOf78 rfl (Rd.ext f_a1 (Ext.trans (Ext.trans (Ext.trans (Ext.trans e5 e24) e36) e352) e604)) rfl c610 <| fun p611 h612 => L_op (.plain rfl) rfl (ltb rfl) (X_loadS Tryz.isAgg78 Tryz.sizeOf78 rfl rfl h612) <| L_lit (.plain rfl) rfl (ltb rfl) rfl Tryz.underlying28 Tryz.sizeOf78 Tryz.zeroValue78 rfl rfl rfl (vs := [(.agg (encRec (gt a1 x7_10)).toArray)]) rfl (lit_all rfl) <| fun b613 w614 z615 z616 e617 k618 => ?_
            obtain ⟨c619, H⟩ := bif_some H
            refine L_append (enc := encRec) (.plain rfl) rfl (ltb rfl) rfl El.t28 rfl rfl (Ow.ext h27 (Ext.trans (Ext.trans (Ext.trans e36 e352) e604) e617)) (Ow.rd (Ow.new (xs := [gt a1 x7_10]) (sz := 5) (enc := encRec) (base := w603.heap.size) k618 (Nat.le_of_eq z615) rfl (fun _ _ => by rfl) (Nat.le_of_ble_eq_true rfl))) (ones_Rec _) (of_decide_eq_true c619) ((Ext.trans (Ext.trans (Ext.trans (Ext.trans e24 e36) e352) e604) e617)).size <| fun v620 w621 o622 z623 g624 => L_op (.plain rfl) rfl (ltb rfl) (X_assign (v := v620) rfl) <| L_nil <| thn_n <| W_reg <| L_op (.plain rfl) rfl (ltb rfl) (X_move (v := (.int .i64 x7_10)) ((K607 7 rfl).trans ((K355 7 rfl).trans ((K34 7 rfl).trans h29)))) <| L_op (.plain rfl) rfl (ltb rfl) (X_add rfl rfl) <| L_op (.plain rfl) rfl (ltb rfl) (X_assign (v := (.int .i64 (IntKind.wrap .i64 (x7_10 + 1)))) rfl) <| L_nil <| blk_n <| blk_n <| thn_n ?_
            obtain rfl := Option.some.inj H
            exact ⟨_, Nat.lt_succ_self _, x5_7 ++ ([gt a1 x7_10] : List Rec), v620, x6_9, IntKind.wrap .i64 (x7_10 + 1), (Kp.upd (Kp.upd (Kp.upd (Kp.upd (Kp.upd (Kp.upd (Kp.upd (Kp.upd (Kp.upd (Kp.upd (Kp.upd (Kp.cut (Kp.cut (Kp.cut (Kp.upd (Kp.upd (Kp.upd (Kp.upd (Kp.upd K23 rfl) rfl) rfl) rfl) rfl) K34 rfl) K355 rfl) K607 rfl) rfl) rfl) rfl) rfl) rfl) rfl) rfl) rfl) rfl) rfl) rfl), rfl, o622, ((K607 6 rfl).trans ((K355 6 rfl).trans ((K34 6 rfl).trans h28))), rfl, (g624 _ (Ext.trans (Ext.trans (Ext.trans (Ext.trans e24 e36) e352) e604) e617)), S31⟩
          · refine W_false (d608.trans (congrArg Value.bool q609)) <| W_seq ?_
            obtain ⟨c625, H⟩ := bif_some H
            obtain ⟨c628, H⟩ := bif_some H
            obtain ⟨c639, H⟩ := bif_some H
            refine W_drawR (B := w2.heap.size) [LEq v8, LEq v_a0, LEq (.int .i64 x6_9), LAt0W w603 (encRec (gt a0 x6_9)), LEq (.agg (encRec (gt a0 x6_9)).toArray), LEq v_a1, LEq (.int .i64 x7_10), LAt0W w603 (encRec (gt a1 x7_10)), LEq (.agg (encRec (gt a1 x7_10)).toArray), LEq (.agg (encRec (overR (gt a0 x6_9) (gt a1 x7_10))).toArray), LRd 5 encRec ([(overR (gt a0 x6_9) (gt a1 x7_10))] : List Rec), LOw 78 5 encRec w2.heap.size (x5_7 ++ ([(overR (gt a0 x6_9) (gt a1 x7_10))] : List Rec)), LOw 78 5 encRec w2.heap.size (x5_7 ++ ([(overR (gt a0 x6_9) (gt a1 x7_10))] : List Rec))] [⟨true, true, true, false, []⟩, ⟨true, true, true, false, []⟩, ⟨true, true, true, false, []⟩, ⟨true, true, true, false, [1, 2]⟩, ⟨true, true, true, false, [3]⟩, ⟨true, true, true, false, []⟩, ⟨true, true, true, false, []⟩, ⟨true, true, true, false, [5, 6]⟩, ⟨true, true, true, false, [7]⟩, ⟨true, true, true, false, [4, 8]⟩, ⟨true, false, true, false, [9]⟩, ⟨false, false, true, false, [0, 10]⟩, ⟨true, false, false, true, [11]⟩] [(11, 0, []), (11, 1, [9, 4, 3]), (11, 2, [9, 4, 3]), (11, 3, [9, 4]), (11, 4, [9]), (11, 5, [9, 8, 7]), (11, 6, [9, 8, 7]), (11, 7, [9, 8]), (11, 8, [9]), (11, 9, []), (11, 10, []), (12, 11, [])] (by kernel_rfl) (by kernel_rfl) (Ext.trans (Ext.trans (Ext.trans e24 e36) e352) e604).size ⟨⟨LEq.rig.mono, fun _ => LEq.rig⟩, ⟨LEq.rig.mono, fun _ => LEq.rig⟩, ⟨LEq.rig.mono, fun _ => LEq.rig⟩, ⟨LAt0W.rig.mono, fun _ => LAt0W.rig⟩, ⟨LEq.rig.mono, fun _ => LEq.rig⟩, ⟨LEq.rig.mono, fun _ => LEq.rig⟩, ⟨LEq.rig.mono, fun _ => LEq.rig⟩, ⟨LAt0W.rig.mono, fun _ => LAt0W.rig⟩, ⟨LEq.rig.mono, fun _ => LEq.rig⟩, ⟨LEq.rig.mono, fun _ => LEq.rig⟩, ⟨LRd.mono, noR⟩, ⟨LOw.mono, noR⟩, ⟨LOw.mono, noR⟩, trivial⟩ ⟨?_, ?_, ?_, ?_, ?_, ?_, ?_, ?_, ?_, ?_, ?_, ?_, ?_, trivial⟩ ?_
            · intro s645 w646 hb647 hx648 hf649 hd650 hu651
              have e652 : Ext w603 w646 := hx648 rfl
              exact L_op (.plain rfl) rfl (ltb rfl) (X_move (v := v8) ((hu651 12 rfl).trans ((K607 5 rfl).trans ((K355 5 rfl).trans ((K34 5 rfl).trans h26))))) <| L_nil <| stepS rfl rfl rfl (Ext.refl w646) rfl
            · intro s653 w654 hb655 hx656 hf657 hd658 hu659
              have e660 : Ext w603 w654 := hx656 rfl
              exact L_op (.plain rfl) rfl (ltb rfl) (X_move (v := v_a0) ((hf657 0 rfl).trans ((K607 0 rfl).trans ((K355 0 rfl).trans ((K34 0 rfl).trans (K23 0 rfl)))))) <| L_nil <| stepS rfl rfl rfl (Ext.refl w654) rfl
            · intro s661 w662 hb663 hx664 hf665 hd666 hu667
              have e668 : Ext w603 w662 := hx664 rfl
              exact L_op (.plain rfl) rfl (ltb rfl) (X_move (v := (.int .i64 x6_9)) ((hf665 6 rfl).trans ((K607 6 rfl).trans ((K355 6 rfl).trans ((K34 6 rfl).trans h28))))) <| L_nil <| stepS rfl rfl rfl (Ext.refl w662) rfl
            · intro s669 w670 hb671 hx672 hf673 hd674 hu675
              have e676 : Ext w603 w670 := hx672 rfl
              have d677 : s669 20 = v_a0 := (hd674 1 rfl)
              have d678 : s669 21 = (.int .i64 x6_9) := (hd674 2 rfl)
              have c679 := c625
              exact L_idx (.plain rfl) rfl (ltb rfl) rfl Tryz.underlying28 Tryz.sizeOf78 d677 (Rd.ext f_a0 (Ext.trans (Ext.trans (Ext.trans (Ext.trans e5 e24) e36) e352) e604)) d678 c679 <| fun p680 h681 => L_nil <| stepS rfl rfl rfl (Ext.refl w670) ⟨_, rfl, h681⟩
            · intro s682 w683 hb684 hx685 hf686 hd687 hu688
              have e689 : Ext w603 w683 := hx685 rfl
              obtain ⟨p690, h691, h692⟩ := (hd687 3 rfl)
              exact L_op (.plain rfl) rfl (ltb rfl) (X_loadS Tryz.isAgg78 Tryz.sizeOf78 rfl h691 (At.ext h692 e689)) <| L_nil <| stepS rfl rfl rfl (Ext.refl w683) rfl
            · intro s693 w694 hb695 hx696 hf697 hd698 hu699
              have e700 : Ext w603 w694 := hx696 rfl
              exact L_op (.plain rfl) rfl (ltb rfl) (X_move (v := v_a1) ((hf697 1 rfl).trans ((K607 1 rfl).trans ((K355 1 rfl).trans ((K34 1 rfl).trans (K23 1 rfl)))))) <| L_nil <| stepS rfl rfl rfl (Ext.refl w694) rfl
            · intro s701 w702 hb703 hx704 hf705 hd706 hu707
              have e708 : Ext w603 w702 := hx704 rfl
              exact L_op (.plain rfl) rfl (ltb rfl) (X_move (v := (.int .i64 x7_10)) ((hf705 7 rfl).trans ((K607 7 rfl).trans ((K355 7 rfl).trans ((K34 7 rfl).trans h29))))) <| L_nil <| stepS rfl rfl rfl (Ext.refl w702) rfl
            · intro s709 w710 hb711 hx712 hf713 hd714 hu715
              have e716 : Ext w603 w710 := hx712 rfl
              have d717 : s709 24 = v_a1 := (hd714 5 rfl)
              have d718 : s709 25 = (.int .i64 x7_10) := (hd714 6 rfl)
              have c719 := c628
              exact L_idx (.plain rfl) rfl (ltb rfl) rfl Tryz.underlying28 Tryz.sizeOf78 d717 (Rd.ext f_a1 (Ext.trans (Ext.trans (Ext.trans (Ext.trans e5 e24) e36) e352) e604)) d718 c719 <| fun p720 h721 => L_nil <| stepS rfl rfl rfl (Ext.refl w710) ⟨_, rfl, h721⟩
            · intro s722 w723 hb724 hx725 hf726 hd727 hu728
              have e729 : Ext w603 w723 := hx725 rfl
              obtain ⟨p730, h731, h732⟩ := (hd727 7 rfl)
              exact L_op (.plain rfl) rfl (ltb rfl) (X_loadS Tryz.isAgg78 Tryz.sizeOf78 rfl h731 (At.ext h732 e729)) <| L_nil <| stepS rfl rfl rfl (Ext.refl w723) rfl
            · intro s733 w734 hb735 hx736 hf737 hd738 hu739
              have e740 : Ext w603 w734 := hx736 rfl
              have d741 : s733 23 = (.agg (encRec (gt a0 x6_9)).toArray) := (hd738 4 rfl)
              have d742 : s733 27 = (.agg (encRec (gt a1 x7_10)).toArray) := (hd738 8 rfl)
              exact L_callP (.plain rfl) rfl (ltb rfl) rfl Tryz.call131 (spec_l06Over.calls (w := w734) (a0 := gt a0 x6_9) (a1 := gt a1 x7_10)) (cons2 d741 (cons2 d742 rfl)) <| fun w743 e744 => L_nil <| stepS rfl rfl rfl e744 rfl
            · intro s745 w746 hb747 hx748 hf749 hd750 hu751
              have e752 : Ext w603 w746 := hx748 rfl
              have d753 : s745 28 = (.agg (encRec (overR (gt a0 x6_9) (gt a1 x7_10))).toArray) := (hd750 9 rfl)
              exact L_lit (.plain rfl) rfl (ltb rfl) rfl Tryz.underlying28 Tryz.sizeOf78 Tryz.zeroValue78 rfl rfl rfl (vs := [(.agg (encRec (overR (gt a0 x6_9) (gt a1 x7_10))).toArray)]) (cons2 d753 rfl) (lit_all rfl) <| fun b754 w755 z756 z757 e758 k759 => L_nil <| stepS rfl rfl rfl e758 (Ow.rd (Ow.new (xs := [(overR (gt a0 x6_9) (gt a1 x7_10))]) (sz := 5) (enc := encRec) (base := w746.heap.size) k759 (Nat.le_of_eq z756) rfl (fun _ _ => by rfl) (Nat.le_of_ble_eq_true rfl)))
            · intro s760 w761 hb762 hx763 hf764 hd765 hu766
              have e767 : Ext w603 w761 := hx763 rfl
              have d768 : s760 19 = v8 := (hd765 0 rfl)
              have d769 : Rd 5 encRec w761 (s760 29) ([(overR (gt a0 x6_9) (gt a1 x7_10))] : List Rec) := (hd765 10 rfl)
              have c770 := c639
              exact L_append (enc := encRec) (.plain rfl) rfl (ltb rfl) rfl El.t28 d768 rfl (Ow.ext h27 (Ext.trans (Ext.trans (Ext.trans e36 e352) e604) e767)) d769 (ones_Rec _) (of_decide_eq_true c770) ((Ext.trans (Ext.trans (Ext.trans (Ext.trans e24 e36) e352) e604) e767)).size <| fun v771 w772 o773 z774 g775 => L_nil <| stepH rfl rfl rfl (g775 _ (Below.refl _ _)) o773
            · intro s776 w777 hb778 hx779 hf780 hd781 hu782
              have e783 : Ext w2 w777 := Below.trans (Ext.trans (Ext.trans (Ext.trans e24 e36) e352) e604) hb778
              have d784 : Ow 78 5 encRec w2.heap.size w777 (s776 30) (x5_7 ++ ([(overR (gt a0 x6_9) (gt a1 x7_10))] : List Rec)) := (hd781 11 rfl)
              exact L_op (.plain rfl) rfl (ltb rfl) (X_assign (v := (s776 30)) rfl) <| L_nil <| stepS rfl rfl rfl (Ext.refl w777) d784
            intro s785 w786 hb787 hf789 ha790
            have K791 := Kp.ofD (kp := [(5, 6), (19, 31)]) rfl hf789
            have e788 : Ext w2 w786 := Below.trans (Ext.trans (Ext.trans (Ext.trans e24 e36) e352) e604) hb787
            have d792 : Ow 78 5 encRec w2.heap.size w786 (s785 5) (x5_7 ++ ([(overR (gt a0 x6_9) (gt a1 x7_10))] : List Rec)) := ha790 12 rfl rfl
            clear ha790 hf789
            refine thn_n <| W_seq <| W_reg <| L_op (.plain rfl) rfl (ltb rfl) (X_move (v := (.int .i64 x6_9)) ((K791 6 rfl).trans ((K607 6 rfl).trans ((K355 6 rfl).trans ((K34 6 rfl).trans h28))))) <| L_op (.plain rfl) rfl (ltb rfl) (X_add rfl rfl) <| L_op (.plain rfl) rfl (ltb rfl) (X_assign (v := (.int .i64 (IntKind.wrap .i64 (x6_9 + 1)))) rfl) <| L_nil <| thn_n <| W_reg <| L_op (.plain rfl) rfl (ltb rfl) (X_move (v := (.int .i64 x7_10)) ((K791 7 rfl).trans ((K607 7 rfl).trans ((K355 7 rfl).trans ((K34 7 rfl).trans h29))))) <| L_op (.plain rfl) rfl (ltb rfl) (X_add rfl rfl) <| L_op (.plain rfl) rfl (ltb rfl) (X_assign (v := (.int .i64 (IntKind.wrap .i64 (x7_10 + 1)))) rfl) <| L_nil <| blk_n <| blk_n <| thn_n ?_
            obtain rfl := Option.some.inj H
            exact ⟨_, Nat.lt_succ_self _, x5_7 ++ ([(overR (gt a0 x6_9) (gt a1 x7_10))] : List Rec), (s785 5), IntKind.wrap .i64 (x6_9 + 1), IntKind.wrap .i64 (x7_10 + 1), (Kp.upd (Kp.upd (Kp.upd (Kp.upd (Kp.upd (Kp.upd (Kp.cut (Kp.cut (Kp.cut (Kp.cut (Kp.upd (Kp.upd (Kp.upd (Kp.upd (Kp.upd K23 rfl) rfl) rfl) rfl) rfl) K34 rfl) K355 rfl) K607 rfl) K791 rfl) rfl) rfl) rfl) rfl) rfl) rfl), rfl, d792, rfl, rfl, e788, S31⟩
      · refine W_false (h35.trans (congrArg Value.bool q38)) <| W_exit <| thn_x <| thn_x <| blk_x <| thn_n ?_
        obtain rfl := Option.some.inj H
        obtain rfl := Option.some.inj S31
        exact ⟨x5_7, v8, (Kp.cut (Kp.upd (Kp.upd (Kp.upd (Kp.upd (Kp.upd K23 rfl) rfl) rfl) rfl) rfl) K34 rfl), ((K34 5 rfl).trans h26), (Ow.ext h27 e36), (Ext.trans e24 e36), rfl⟩
  · rintro s17 w16 ⟨x5_14, v15, K18, h793, h794, e19, y795⟩
    rw [y795] at C13
    have H := C13
    replace H : _ = some _ := H
    refine thn_n <| W_seq <| W_reg <| L_op (.plain rfl) rfl (ltb rfl) (X_move (v := v15) h793) ?_
    obtain ⟨c796, H⟩ := bif_some H
    obtain ⟨c797, H⟩ := bif_some H
    refine L_callO (.plain rfl) rfl (ltb rfl) rfl Tryz.call132 (spec_l03Canon.calls (w := w16) (a0 := x5_14) (Ow.rd h794) (of_decide_eq_true c796) (of_decide_eq_true c797)) rfl <| fun v800 w798 e799 o801 => L_op (.plain rfl) rfl (ltb rfl) (X_assign (v := v800) rfl) <| L_nil <| thn_n <| W_ret <| fin_r ?_
    obtain rfl := Option.some.inj H
    exact fin1o rfl (Ext.trans (Ext.trans e5 e19) e799) o801 ((Ext.trans e5 e19)).size
theorem spec_l06Two.calls {w : World} {a0 : List Rec} {a1 : List Rec} {v_a0 : Value} (f_a0 : Rd 5 encRec w v_a0 a0) {v_a1 : Value} (f_a1 : Rd 5 encRec w v_a1 a1) (h0 : a0.length ≤ 500000) (h1 : a1.length ≤ 500000) (h2 : sheetB a0 = true) (h3 : sheetB a1 = true) :
    Calls Tryz.prog 86 #[v_a0, v_a1] w (Rt (RO 78 5 encRec w (squashL a0 a1))) := by
  obtain ⟨k, h⟩ := spec_l06Two.eq a0 a1 h0 h1 h2 h3
  exact spec_l06Two.walk f_a0 f_a1 h
/-! impl.squash -/
abbrev impl_squash.e1 (a0 : List Rec) (a1 : List Rec) (x17_22 : Int) := (gt a1 (findR a1 (gt (pathsL ([a0, a1] : List (List Rec))) x17_22)))
theorem impl_squash.walk {k : Nat} {w : World} {a0 : List Rec} {a1 : List Rec} (gv : GV 0 w) {v_a0 : Value} (f_a0 : Rd 5 encRec w v_a0 a0) {v_a1 : Value} (f_a1 : Rd 5 encRec w v_a1 a1) {r : List Rec} (H : impl_squash.sh k a0 a1 = some r) :
    Calls Tryz.prog 89 #[v_a0, v_a1] w (Rt (RO 78 5 encRec w r)) := by
  unfold impl_squash.sh at H
  refine calls_of_W Tryz.func89 rfl (Nat.le_of_ble_eq_true rfl) Tryz.ntmps89 rfl ?_
  refine W_seq <| W_reg <| L_op (.plain rfl) rfl (ltb rfl) (X_assign (v := (.slice none 0 0)) rfl) <| L_nil <| thn_n <| W_seq <| W_reg <| L_lit (.plain rfl) rfl (ltb rfl) rfl Tryz.underlying28 Tryz.sizeOf78 Tryz.zeroValue78 rfl rfl rfl (vs := []) rfl (lit_all rfl) <| fun b1 w2 z3 z4 e5 k6 => L_op (.plain rfl) rfl (ltb rfl) (X_assign (v := (.slice (some ⟨b1, 0, none⟩) 0 0)) rfl) <| L_nil <| thn_n <| W_seq <| W_seq <| W_reg <| L_op (.plain rfl) rfl (ltb rfl) (X_move (v := v_a0) rfl) <| L_op (.plain rfl) rfl (ltb rfl) (X_move (v := v_a1) rfl) <| L_lit (.plain rfl) rfl (ltb rfl) rfl Tryz.underlying39 Tryz.sizeOf28 Tryz.zeroValue28 rfl rfl rfl (vs := [v_a0, v_a1]) rfl (by simp; exact ⟨(Rd.one (Rd.ext f_a0 e5)), (Rd.one (Rd.ext f_a1 e5))⟩) <| fun b7 w8 z9 z10 e11 k12 => ?_
  obtain ⟨c13, H⟩ := bif_some H
  obtain ⟨c14, H⟩ := bif_some H
  obtain ⟨c15, H⟩ := bif_some H
  refine L_callO (.plain rfl) rfl (ltb rfl) rfl Tryz.call85 (impl_paths.calls (w := w8) (a0 := ([a0, a1] : List (List Rec))) (GV.ext gv (Ext.trans e5 e11)) (Rd2.new (vs := [v_a0, v_a1]) k12 ⟨(Rd.ext f_a0 (Ext.trans e5 e11)), (Rd.ext f_a1 (Ext.trans e5 e11)), trivial⟩ (Nat.le_of_ble_eq_true rfl)) (of_decide_eq_true c13) (of_decide_eq_true c14) (of_decide_eq_true c15)) rfl <| fun v18 w16 e17 o19 => L_op (.plain rfl) rfl (ltb rfl) (X_lenR Tryz.underlying49 rfl (Ow.rd o19)) <| L_op (.plain rfl) rfl (ltb rfl) (X_move (v := (.int .i64 0)) rfl) <| L_nil <| thn_n ?_
  obtain ⟨z23, L24, C25⟩ := bind_some H
  clear H
  refine  W_cutQ (fun s0 sQ wQ => ∃ (x5_26 : List Rec) (v27 : Value), Kp [(5, 6), (7, 11), (17, 66)] s0 sQ ∧ sQ 5 = v27 ∧ Ow 78 5 encRec w16.heap.size wQ v27 x5_26 ∧ Ext w16 wQ ∧ z23 = .inr x5_26) ?_ ?_
  · refine W_block <| W_loopI (fun s0 kk sQ wQ => ∃ (x5_20 : List Rec) (v21 : Value) (x17_22 : Int), Kp [(5, 6), (7, 11), (17, 66)] s0 sQ ∧ sQ 5 = v21 ∧ Ow 78 5 encRec w16.heap.size wQ v21 x5_20 ∧ sQ 17 = .int .i64 x17_22 ∧ Ext w16 wQ ∧ loopF (impl_squash.b1 a0 a1) kk (x5_20, x17_22) = some z23) k ⟨([] : List Rec), (.slice (some ⟨b1, 0, none⟩) 0 0), 0, (Kp.refl _ _), rfl, (Ow.zero), rfl, (Ext.refl w16), L24⟩ ?_
    rintro k32 s33 w34 ⟨x5_20, v21, x17_22, K35, h38, h39, h40, e36, L37⟩
    cases k32 with
    | zero => exact absurd L37 (by simp [loopF])
    | succ k32 =>
      obtain ⟨t41, H, S42⟩ := loopF_succ L37
      clear L37
      unfold impl_squash.b1 at H
      refine W_seq <| W_reg <| L_op (.plain rfl) rfl (ltb rfl) (X_lss h40 (K35 16 rfl)) <| L_nil <| thn_n <| W_seq ?_
      rcases bif_two H with ⟨q43, H⟩ | ⟨q43, H⟩
      · refine W_true (congrArg Value.bool q43) <| W_skip <| thn_n <| W_seq <| W_block <| W_seq <| W_reg ?_
        obtain ⟨c44, H⟩ := bif_some H
        refine L_idx (.plain rfl) rfl (ltb rfl) rfl Tryz.underlying49 Tryz.sizeOf9 (K35 15 rfl) (Ow.rd (Ow.ext o19 e36)) h40 c44 <| fun p45 h46 => L_op (.plain rfl) rfl (ltb rfl) (X_loadAt Tryz.isAgg9 rfl h46 rfl) <| L_op (.plain rfl) rfl (ltb rfl) (X_assign (v := (S (gt (pathsL ([a0, a1] : List (List Rec))) x17_22))) rfl) <| L_nil <| thn_n <| W_seq <| W_reg <| L_op (.plain rfl) rfl (ltb rfl) (X_move (v := v_a0) (K35 0 rfl)) <| L_op (.plain rfl) rfl (ltb rfl) (X_move (v := (S (gt (pathsL ([a0, a1] : List (List Rec))) x17_22))) rfl) ?_
        obtain ⟨c47, H⟩ := bif_some H
        refine L_callP (.plain rfl) rfl (ltb rfl) rfl Tryz.call105 (impl_find.calls (w := w34) (a0 := a0) (a1 := gt (pathsL ([a0, a1] : List (List Rec))) x17_22) (Rd.ext f_a0 (Ext.trans (Ext.trans (Ext.trans e5 e11) e17) e36)) (of_decide_eq_true c47)) rfl <| fun w48 e49 => L_op (.plain rfl) rfl (ltb rfl) (X_move (v := v_a1) (K35 1 rfl)) <| L_op (.plain rfl) rfl (ltb rfl) (X_move (v := (S (gt (pathsL ([a0, a1] : List (List Rec))) x17_22))) rfl) ?_
        obtain ⟨c50, H⟩ := bif_some H
        refine L_callP (.plain rfl) rfl (ltb rfl) rfl Tryz.call105 (impl_find.calls (w := w48) (a0 := a1) (a1 := gt (pathsL ([a0, a1] : List (List Rec))) x17_22) (Rd.ext f_a1 (Ext.trans (Ext.trans (Ext.trans (Ext.trans e5 e11) e17) e36) e49)) (of_decide_eq_true c50)) rfl <| fun w51 e52 => L_op (.plain rfl) rfl (ltb rfl) (X_assign rfl) <| L_op (.plain rfl) rfl (ltb rfl) (X_assign rfl) <| L_nil <| thn_n <| W_block <| W_seq <| W_reg <| L_op (.plain rfl) rfl (ltb rfl) (X_move rfl) <| L_op (.plain rfl) rfl (ltb rfl) (X_geq rfl rfl) <| L_op (.plain rfl) rfl (ltb rfl) (X_assign rfl) <| L_nil <| thn_n ?_
        rcases bif_two H with ⟨q53, H⟩ | ⟨q53, H⟩
        · refine W_true (congrArg Value.bool q53) <| W_seq <| W_reg <| L_op (.plain rfl) rfl (ltb rfl) (X_move (v := v_a1) (K35 1 rfl)) <| L_op (.plain rfl) rfl (ltb rfl) (X_move rfl) ?_
          obtain ⟨c54, H⟩ := bif_some H
          refine L_idx (.plain rfl) rfl (ltb rfl) rfl Tryz.underlying28 Tryz.sizeOf78 rfl (Rd.ext f_a1 (Ext.trans (Ext.trans (Ext.trans (Ext.trans (Ext.trans e5 e11) e17) e36) e49) e52)) rfl c54 <| fun p55 h56 => L_op (.plain rfl) rfl (ltb rfl) (X_loadS Tryz.isAgg78 Tryz.sizeOf78 rfl rfl h56) <| L_alloc (.plain rfl) rfl (ltb rfl) rfl Tryz.zeroValue78 <| fun b57 w58 z59 z60 e61 k62 => L_storeA (.plain rfl) rfl rfl Tryz.sizeOf78 rfl rfl rfl rfl rfl k62 <| fun w63 h64 k65 => L_nil <| thn_n <| W_seq <| W_seq <| W_reg <| L_op (.plain rfl) rfl (ltb rfl) (X_move rfl) <| L_op (.plain rfl) rfl (ltb rfl) (X_geq rfl rfl) <| L_op (.plain rfl) rfl (ltb rfl) (X_move rfl) <| L_grp 4 [(37, 41)] 40 (.bool ((decide (0 ≤ (findR a0 (gt (pathsL ([a0, a1] : List (List Rec))) x17_22)))) && (decide (((impl_squash.e1 a0 a1 x17_22).kind) = 3)))) ?_ ?_
          · rcases bool_two (decide (0 ≤ (findR a0 (gt (pathsL ([a0, a1] : List (List Rec))) x17_22)))) with b65_ | b65_
            · exact L_op (.guard 2 true 36 rfl rfl (ltb rfl) (congrArg Value.bool b65_)) rfl (ltb rfl) (X_fieldAddr Tryz.underlying78 rfl Tryz.sizeOf3 rfl rfl) <| L_op (.guard 2 true 36 rfl rfl (ltb rfl) (congrArg Value.bool b65_)) rfl (ltb rfl) (X_loadB Tryz.isAgg3 k65 rfl rfl) <| L_op (.guard 2 true 36 rfl rfl (ltb rfl) (congrArg Value.bool b65_)) rfl (ltb rfl) (X_eql rfl rfl) <| L_op (.plain rfl) rfl (ltb rfl) (X_pick (b := true) (v := (.bool (decide (((impl_squash.e1 a0 a1 x17_22).kind) = 3)))) (congrArg Value.bool b65_) rfl) <| L_nil <| thn_n ⟨(Kp.upd (Kp.upd (Kp.upd (Kp.upd (Kp.refl _ _) rfl) rfl) rfl) rfl), (and_t b65_), (Ext.refl w63)⟩
            · exact L_skip rfl rfl (ltb rfl) (congrArg Value.bool b65_) rfl rfl (ltb rfl) <| L_skip rfl rfl (ltb rfl) (congrArg Value.bool b65_) rfl rfl (ltb rfl) <| L_skip rfl rfl (ltb rfl) (congrArg Value.bool b65_) rfl rfl (ltb rfl) <| L_op (.plain rfl) rfl (ltb rfl) (X_pick (b := false) (v := (.bool false)) (congrArg Value.bool b65_) rfl) <| L_nil <| thn_n ⟨(Kp.upd (Kp.upd (Kp.upd (Kp.upd (Kp.refl _ _) rfl) rfl) rfl) rfl), (and_f b65_), (Ext.refl w63)⟩
          intro s71 w67 K68 h69 e70
          refine L_op (.plain rfl) rfl (ltb rfl) (X_move h69) ?_
          obtain ⟨z73, x74, H⟩ := bind_some H
          refine L_grpE 6 [(42, 48)] 47 (fun q => q = z73) ?_ ?_
          · rcases bif_two x74 with ⟨b71_, H⟩ | ⟨b71_, H⟩
            · refine L_op (.guard 7 true 41 rfl rfl (ltb rfl) (congrArg Value.bool b71_)) rfl (ltb rfl) (X_move (v := v_a0) ((K68 0 rfl).trans (K35 0 rfl))) <| L_op (.guard 7 true 41 rfl rfl (ltb rfl) (congrArg Value.bool b71_)) rfl (ltb rfl) (X_move (K68 8 rfl)) ?_
              obtain ⟨c73, H⟩ := bif_some H
              refine L_idx (.guard 7 true 41 rfl rfl (ltb rfl) (congrArg Value.bool b71_)) rfl (ltb rfl) rfl Tryz.underlying28 Tryz.sizeOf78 rfl (Rd.ext f_a0 (Ext.trans (Ext.trans (Ext.trans (Ext.trans (Ext.trans (Ext.trans (Ext.trans e5 e11) e17) e36) e49) e52) (Below.trans e61 (Wr.below h64 (Nat.le_of_eq z59)))) e70)) rfl c73 <| fun p74 h75 => L_op (.guard 7 true 41 rfl rfl (ltb rfl) (congrArg Value.bool b71_)) rfl (ltb rfl) (X_loadS Tryz.isAgg78 Tryz.sizeOf78 rfl rfl h75) <| L_callP (.guard 7 true 41 rfl rfl (ltb rfl) (congrArg Value.bool b71_)) rfl (ltb rfl) rfl Tryz.call133 (impl_stops.calls (w := w67) (a0 := gt a0 (findR a0 (gt (pathsL ([a0, a1] : List (List Rec))) x17_22)))) rfl <| fun w76 e77 => L_op (.plain rfl) rfl (ltb rfl) (X_pick (b := true) (v := (.bool (stopsR (gt a0 (findR a0 (gt (pathsL ([a0, a1] : List (List Rec))) x17_22)))))) (congrArg Value.bool b71_) rfl) ?_
              obtain rfl := Option.some.inj H
              exact L_nil <| thn_n ⟨(Kp.upd (Kp.upd (Kp.upd (Kp.upd (Kp.upd (Kp.upd (Kp.refl _ _) rfl) rfl) rfl) rfl) rfl) rfl), ⟨_, rfl, rfl⟩, e77⟩
            · refine L_skip rfl rfl (ltb rfl) (congrArg Value.bool b71_) rfl rfl (ltb rfl) <| L_skip rfl rfl (ltb rfl) (congrArg Value.bool b71_) rfl rfl (ltb rfl) <| L_skip rfl rfl (ltb rfl) (congrArg Value.bool b71_) rfl rfl (ltb rfl) <| L_skip rfl rfl (ltb rfl) (congrArg Value.bool b71_) rfl rfl (ltb rfl) <| L_skip rfl rfl (ltb rfl) (congrArg Value.bool b71_) rfl rfl (ltb rfl) <| L_op (.plain rfl) rfl (ltb rfl) (X_pick (b := false) (v := (.bool false)) (congrArg Value.bool b71_) rfl) ?_
              obtain rfl := Option.some.inj H
              exact L_nil <| thn_n ⟨(Kp.upd (Kp.upd (Kp.upd (Kp.upd (Kp.upd (Kp.upd (Kp.refl _ _) rfl) rfl) rfl) rfl) rfl) rfl), ⟨_, rfl, rfl⟩, (Ext.refl w67)⟩
          intro s79 w75 z80 K76 hq h77 e78
          rw [hq] at h77; clear hq
          refine L_nil <| thn_n ?_
          rcases bif_two H with ⟨q81, H⟩ | ⟨q81, H⟩
          · refine W_true (h77.trans (congrArg Value.bool q81)) <| W_reg <| L_op (.plain rfl) rfl (ltb rfl) (X_fieldAddr Tryz.underlying78 rfl Tryz.sizeOf4 rfl ((K76 10 rfl).trans (K68 10 rfl))) <| L_store1 (.plain rfl) rfl rfl Tryz.sizeOf4 rfl rfl rfl (Blk.ext k65 (Ext.trans e70 e78)) (ltb rfl) <| fun w82 h83 k84 => L_nil <| thn_n <| W_reg <| L_op (.plain rfl) rfl (ltb rfl) (X_move (v := v21) ((K76 5 rfl).trans ((K68 5 rfl).trans h38))) <| L_op (.plain rfl) rfl (ltb rfl) (X_loadS Tryz.isAgg78 Tryz.sizeOf78 rfl ((K76 10 rfl).trans (K68 10 rfl)) (Blk.at0 k84)) <| L_lit (.plain rfl) rfl (ltb rfl) rfl Tryz.underlying28 Tryz.sizeOf78 Tryz.zeroValue78 rfl rfl rfl (vs := [(.agg #[(.int .i64 ((impl_squash.e1 a0 a1 x17_22).kind)), (S ((impl_squash.e1 a0 a1 x17_22).path)), (S ((impl_squash.e1 a0 a1 x17_22).body)), (.int .i64 ((impl_squash.e1 a0 a1 x17_22).mode)), (.bool true)])]) rfl (lit_all rfl) <| fun b85 w86 z87 z88 e89 k90 => ?_
            obtain ⟨c91, H⟩ := bif_some H
            refine L_append (enc := encRec) (.plain rfl) rfl (ltb rfl) rfl El.t28 rfl rfl (Ow.ext h39 (Ext.trans (Ext.trans (Ext.trans e49 e52) (Below.trans (Ext.trans (Ext.trans (Below.trans e61 (Wr.below h64 (Nat.le_of_eq z59))) e70) e78) (Wr.below h83 (Nat.le_of_eq z59)))) e89)) (Ow.rd (Ow.new (xs := [(⟨(impl_squash.e1 a0 a1 x17_22).kind, (impl_squash.e1 a0 a1 x17_22).path, (impl_squash.e1 a0 a1 x17_22).body, (impl_squash.e1 a0 a1 x17_22).mode, true⟩ : Rec)]) (sz := 5) (enc := encRec) (base := w82.heap.size) k90 (Nat.le_of_eq z87) rfl (fun _ _ => by rfl) (Nat.le_of_ble_eq_true rfl))) (ones_Rec _) (of_decide_eq_true c91) ((Ext.trans (Ext.trans (Ext.trans (Ext.trans e36 e49) e52) (Below.trans (Ext.trans (Ext.trans (Below.trans e61 (Wr.below h64 (Nat.le_of_eq z59))) e70) e78) (Wr.below h83 (Nat.le_of_eq z59)))) e89)).size <| fun v92 w93 o94 z95 g96 => L_op (.plain rfl) rfl (ltb rfl) (X_assign (v := v92) rfl) <| L_nil <| blk_n <| blk_n <| thn_n <| W_reg <| L_op (.plain rfl) rfl (ltb rfl) (X_add ((K76 17 rfl).trans ((K68 17 rfl).trans h40)) rfl) <| L_op (.plain rfl) rfl (ltb rfl) (X_move (v := (.int .i64 (IntKind.wrap .i64 (x17_22 + 1)))) rfl) <| L_nil <| thn_n ?_
            obtain rfl := Option.some.inj H
            exact ⟨_, Nat.lt_succ_self _, x5_20 ++ ([(⟨(impl_squash.e1 a0 a1 x17_22).kind, (impl_squash.e1 a0 a1 x17_22).path, (impl_squash.e1 a0 a1 x17_22).body, (impl_squash.e1 a0 a1 x17_22).mode, true⟩ : Rec)] : List Rec), v92, IntKind.wrap .i64 (x17_22 + 1), (Kp.upd (Kp.upd (Kp.upd (Kp.upd (Kp.upd (Kp.upd (Kp.upd (Kp.upd (Kp.cut (Kp.upd (Kp.cut (Kp.upd (Kp.upd (Kp.upd (Kp.upd (Kp.upd (Kp.upd (Kp.upd (Kp.upd (Kp.upd (Kp.upd (Kp.upd (Kp.upd (Kp.upd (Kp.upd (Kp.upd (Kp.upd (Kp.upd (Kp.upd (Kp.upd (Kp.upd (Kp.upd (Kp.upd (Kp.upd K35 rfl) rfl) rfl) rfl) rfl) rfl) rfl) rfl) rfl) rfl) rfl) rfl) rfl) rfl) rfl) rfl) rfl) rfl) rfl) rfl) rfl) rfl) rfl) K68 rfl) rfl) K76 rfl) rfl) rfl) rfl) rfl) rfl) rfl) rfl) rfl), rfl, o94, rfl, (g96 _ (Ext.trans (Ext.trans (Ext.trans (Ext.trans e36 e49) e52) (Below.trans (Ext.trans (Ext.trans (Below.trans e61 (Wr.below h64 (Nat.le_of_eq z59))) e70) e78) (Wr.below h83 (Nat.le_of_eq z59)))) e89)), S42⟩
          · refine W_false (h77.trans (congrArg Value.bool q81)) <| W_skip <| thn_n <| W_reg <| L_op (.plain rfl) rfl (ltb rfl) (X_move (v := v21) ((K76 5 rfl).trans ((K68 5 rfl).trans h38))) <| L_op (.plain rfl) rfl (ltb rfl) (X_loadS Tryz.isAgg78 Tryz.sizeOf78 rfl ((K76 10 rfl).trans (K68 10 rfl)) (Blk.at0 (Blk.ext k65 (Ext.trans e70 e78)))) <| L_lit (.plain rfl) rfl (ltb rfl) rfl Tryz.underlying28 Tryz.sizeOf78 Tryz.zeroValue78 rfl rfl rfl (vs := [(.agg #[(.int .i64 ((impl_squash.e1 a0 a1 x17_22).kind)), (S ((impl_squash.e1 a0 a1 x17_22).path)), (S ((impl_squash.e1 a0 a1 x17_22).body)), (.int .i64 ((impl_squash.e1 a0 a1 x17_22).mode)), (.bool ((impl_squash.e1 a0 a1 x17_22).opq))])]) rfl (lit_all rfl) <| fun b97 w98 z99 z100 e101 k102 => ?_
            obtain ⟨c103, H⟩ := bif_some H
            refine L_append (enc := encRec) (.plain rfl) rfl (ltb rfl) rfl El.t28 rfl rfl (Ow.ext h39 (Ext.trans (Ext.trans (Ext.trans (Ext.trans (Ext.trans e49 e52) (Below.trans e61 (Wr.below h64 (Nat.le_of_eq z59)))) e70) e78) e101)) (Ow.rd (Ow.new (xs := [(impl_squash.e1 a0 a1 x17_22)]) (sz := 5) (enc := encRec) (base := w75.heap.size) k102 (Nat.le_of_eq z99) rfl (fun _ _ => by rfl) (Nat.le_of_ble_eq_true rfl))) (ones_Rec _) (of_decide_eq_true c103) ((Ext.trans (Ext.trans (Ext.trans (Ext.trans (Ext.trans (Ext.trans e36 e49) e52) (Below.trans e61 (Wr.below h64 (Nat.le_of_eq z59)))) e70) e78) e101)).size <| fun v104 w105 o106 z107 g108 => L_op (.plain rfl) rfl (ltb rfl) (X_assign (v := v104) rfl) <| L_nil <| blk_n <| blk_n <| thn_n <| W_reg <| L_op (.plain rfl) rfl (ltb rfl) (X_add ((K76 17 rfl).trans ((K68 17 rfl).trans h40)) rfl) <| L_op (.plain rfl) rfl (ltb rfl) (X_move (v := (.int .i64 (IntKind.wrap .i64 (x17_22 + 1)))) rfl) <| L_nil <| thn_n ?_
            obtain rfl := Option.some.inj H
            exact ⟨_, Nat.lt_succ_self _, x5_20 ++ ([(impl_squash.e1 a0 a1 x17_22)] : List Rec), v104, IntKind.wrap .i64 (x17_22 + 1), (Kp.upd (Kp.upd (Kp.upd (Kp.upd (Kp.upd (Kp.upd (Kp.upd (Kp.cut (Kp.upd (Kp.cut (Kp.upd (Kp.upd (Kp.upd (Kp.upd (Kp.upd (Kp.upd (Kp.upd (Kp.upd (Kp.upd (Kp.upd (Kp.upd (Kp.upd (Kp.upd (Kp.upd (Kp.upd (Kp.upd (Kp.upd (Kp.upd (Kp.upd (Kp.upd (Kp.upd (Kp.upd (Kp.upd K35 rfl) rfl) rfl) rfl) rfl) rfl) rfl) rfl) rfl) rfl) rfl) rfl) rfl) rfl) rfl) rfl) rfl) rfl) rfl) rfl) rfl) rfl) rfl) K68 rfl) rfl) K76 rfl) rfl) rfl) rfl) rfl) rfl) rfl) rfl), rfl, o106, rfl, (g108 _ (Ext.trans (Ext.trans (Ext.trans (Ext.trans (Ext.trans (Ext.trans e36 e49) e52) (Below.trans e61 (Wr.below h64 (Nat.le_of_eq z59)))) e70) e78) e101)), S42⟩
        · refine W_false (congrArg Value.bool q53) <| W_seq <| W_reg <| L_op (.plain rfl) rfl (ltb rfl) (X_move (v := v_a1) (K35 1 rfl)) <| L_op (.plain rfl) rfl (ltb rfl) (X_move (v := (S (gt (pathsL ([a0, a1] : List (List Rec))) x17_22))) rfl) ?_
          obtain ⟨c109, H⟩ := bif_some H
          obtain ⟨c110, H⟩ := bif_some H
          refine L_callP (.plain rfl) rfl (ltb rfl) rfl Tryz.call134 (impl_cuts.calls (w := w51) (a0 := a1) (a1 := gt (pathsL ([a0, a1] : List (List Rec))) x17_22) (Rd.ext f_a1 (Ext.trans (Ext.trans (Ext.trans (Ext.trans (Ext.trans e5 e11) e17) e36) e49) e52)) (of_decide_eq_true c109) (of_decide_eq_true c110)) rfl <| fun w111 e112 => L_op (.plain rfl) rfl (ltb rfl) (X_not rfl) <| L_op (.plain rfl) rfl (ltb rfl) (X_assign rfl) <| L_nil <| thn_n ?_
          rcases bif_two H with ⟨q113, H⟩ | ⟨q113, H⟩
          · refine W_true (congrArg Value.bool q113) <| W_reg <| L_op (.plain rfl) rfl (ltb rfl) (X_move (v := v21) h38) <| L_op (.plain rfl) rfl (ltb rfl) (X_move (v := v_a0) (K35 0 rfl)) <| L_op (.plain rfl) rfl (ltb rfl) (X_move rfl) ?_
            obtain ⟨c114, H⟩ := bif_some H
            refine L_idx (.plain rfl) rfl (ltb rfl) rfl Tryz.underlying28 Tryz.sizeOf78 rfl (Rd.ext f_a0 (Ext.trans (Ext.trans (Ext.trans (Ext.trans (Ext.trans (Ext.trans e5 e11) e17) e36) e49) e52) e112)) rfl c114 <| fun p115 h116 => L_op (.plain rfl) rfl (ltb rfl) (X_loadS Tryz.isAgg78 Tryz.sizeOf78 rfl rfl h116) <| L_lit (.plain rfl) rfl (ltb rfl) rfl Tryz.underlying28 Tryz.sizeOf78 Tryz.zeroValue78 rfl rfl rfl (vs := [(.agg (encRec (gt a0 (findR a0 (gt (pathsL ([a0, a1] : List (List Rec))) x17_22)))).toArray)]) rfl (lit_all rfl) <| fun b117 w118 z119 z120 e121 k122 => ?_
            obtain ⟨c123, H⟩ := bif_some H
            refine L_append (enc := encRec) (.plain rfl) rfl (ltb rfl) rfl El.t28 rfl rfl (Ow.ext h39 (Ext.trans (Ext.trans (Ext.trans e49 e52) e112) e121)) (Ow.rd (Ow.new (xs := [gt a0 (findR a0 (gt (pathsL ([a0, a1] : List (List Rec))) x17_22))]) (sz := 5) (enc := encRec) (base := w111.heap.size) k122 (Nat.le_of_eq z119) rfl (fun _ _ => by rfl) (Nat.le_of_ble_eq_true rfl))) (ones_Rec _) (of_decide_eq_true c123) ((Ext.trans (Ext.trans (Ext.trans (Ext.trans e36 e49) e52) e112) e121)).size <| fun v124 w125 o126 z127 g128 => L_op (.plain rfl) rfl (ltb rfl) (X_assign (v := v124) rfl) <| L_nil <| blk_n <| blk_n <| thn_n <| W_reg <| L_op (.plain rfl) rfl (ltb rfl) (X_add h40 rfl) <| L_op (.plain rfl) rfl (ltb rfl) (X_move (v := (.int .i64 (IntKind.wrap .i64 (x17_22 + 1)))) rfl) <| L_nil <| thn_n ?_
            obtain rfl := Option.some.inj H
            exact ⟨_, Nat.lt_succ_self _, x5_20 ++ ([gt a0 (findR a0 (gt (pathsL ([a0, a1] : List (List Rec))) x17_22))] : List Rec), v124, IntKind.wrap .i64 (x17_22 + 1), (Kp.upd (Kp.upd (Kp.upd (Kp.upd (Kp.upd (Kp.upd (Kp.upd (Kp.upd (Kp.upd (Kp.upd (Kp.upd (Kp.upd (Kp.upd (Kp.upd (Kp.upd (Kp.upd (Kp.upd (Kp.upd (Kp.upd (Kp.upd (Kp.upd (Kp.upd (Kp.upd (Kp.upd (Kp.upd (Kp.upd (Kp.upd (Kp.upd (Kp.upd (Kp.upd K35 rfl) rfl) rfl) rfl) rfl) rfl) rfl) rfl) rfl) rfl) rfl) rfl) rfl) rfl) rfl) rfl) rfl) rfl) rfl) rfl) rfl) rfl) rfl) rfl) rfl) rfl) rfl) rfl) rfl) rfl), rfl, o126, rfl, (g128 _ (Ext.trans (Ext.trans (Ext.trans (Ext.trans e36 e49) e52) e112) e121)), S42⟩
          · refine W_false (congrArg Value.bool q113) <| W_skip <| blk_n <| blk_n <| thn_n <| W_reg <| L_op (.plain rfl) rfl (ltb rfl) (X_add h40 rfl) <| L_op (.plain rfl) rfl (ltb rfl) (X_move (v := (.int .i64 (IntKind.wrap .i64 (x17_22 + 1)))) rfl) <| L_nil <| thn_n ?_
            obtain rfl := Option.some.inj H
            exact ⟨_, Nat.lt_succ_self _, x5_20, v21, IntKind.wrap .i64 (x17_22 + 1), (Kp.upd (Kp.upd (Kp.upd (Kp.upd (Kp.upd (Kp.upd (Kp.upd (Kp.upd (Kp.upd (Kp.upd (Kp.upd (Kp.upd (Kp.upd (Kp.upd (Kp.upd (Kp.upd (Kp.upd (Kp.upd (Kp.upd (Kp.upd (Kp.upd (Kp.upd K35 rfl) rfl) rfl) rfl) rfl) rfl) rfl) rfl) rfl) rfl) rfl) rfl) rfl) rfl) rfl) rfl) rfl) rfl) rfl) rfl) rfl) rfl), h38, (Ow.ext h39 (Ext.trans (Ext.trans e49 e52) e112)), rfl, (Ext.trans (Ext.trans (Ext.trans e36 e49) e52) e112), S42⟩
      · refine W_false (congrArg Value.bool q43) <| W_exit <| thn_x <| thn_x <| blk_x <| thn_n ?_
        obtain rfl := Option.some.inj H
        obtain rfl := Option.some.inj S42
        exact ⟨x5_20, v21, (Kp.upd K35 rfl), h38, h39, e36, rfl⟩
  · rintro s29 w28 ⟨x5_26, v27, K30, h129, h130, e31, y131⟩
    rw [y131] at C25
    have H := C25
    replace H : _ = some _ := H
    refine thn_n <| W_seq <| W_reg <| L_op (.plain rfl) rfl (ltb rfl) (X_move (v := v27) h129) ?_
    obtain ⟨c132, H⟩ := bif_some H
    obtain ⟨c133, H⟩ := bif_some H
    refine L_callO (.plain rfl) rfl (ltb rfl) rfl Tryz.call104 (impl_canonical.calls (w := w28) (a0 := x5_26) (GV.ext gv (Ext.trans (Ext.trans (Ext.trans e5 e11) e17) e31)) (Ow.rd h130) (of_decide_eq_true c132) (of_decide_eq_true c133)) rfl <| fun v136 w134 e135 o137 => L_op (.plain rfl) rfl (ltb rfl) (X_assign (v := v136) rfl) <| L_nil <| thn_n <| W_ret <| fin_r ?_
    obtain rfl := Option.some.inj H
    exact fin1o rfl (Ext.trans (Ext.trans (Ext.trans (Ext.trans e5 e11) e17) e31) e135) o137 ((Ext.trans (Ext.trans (Ext.trans e5 e11) e17) e31)).size
theorem impl_squash.calls {w : World} {a0 : List Rec} {a1 : List Rec} (gv : GV 0 w) {v_a0 : Value} (f_a0 : Rd 5 encRec w v_a0 a0) {v_a1 : Value} (f_a1 : Rd 5 encRec w v_a1 a1) (h0 : a0.length ≤ 500000) (h1 : a1.length ≤ 500000) (h2 : sheetB a0 = true) (h3 : sheetB a1 = true) :
    Calls Tryz.prog 89 #[v_a0, v_a1] w (Rt (RO 78 5 encRec w (squashL a0 a1))) := by
  obtain ⟨k, h⟩ := impl_squash.eq a0 a1 h0 h1 h2 h3
  exact impl_squash.walk gv f_a0 f_a1 h
/-! impl.fitting, by text -/
theorem impl_fitting.calls {w : World} {a : List Rec} {v : Value} (h : Rd 5 encRec w v a) :
    Calls Tryz.prog 88 #[v] w (Rt (fun r w' => r = .tuple #[fitV v a, .int .i64 (fitC a)] ∧ Ext w w')) := by
  refine calls_of_W Tryz.func88 rfl (Nat.le_of_ble_eq_true rfl) Tryz.ntmps88 rfl ?_
  refine W_seq <| W_reg <| L_op (.plain rfl) rfl (ltb rfl) (X_assign rfl) <| L_op (.plain rfl) rfl (ltb rfl) (X_assign rfl) <| L_nil <| thn_n <| W_seq <| W_seq <| W_reg <| L_op (.plain rfl) rfl (ltb rfl) (X_move (v := v) rfl) <| L_op (.plain rfl) rfl (ltb rfl) (X_lenR Tryz.underlying28 rfl h) <|
    L_op (.plain rfl) rfl (ltb rfl) (X_gtr rfl rfl) <| L_nil <| thn_n ?_
  by_cases hc : 16 < a.length
  · refine W_true (congrArg Value.bool (decide_eq_true (by omega))) <| W_seq <| W_reg <| L_op (.plain rfl) rfl (ltb rfl) (X_assign rfl) <| L_op (.plain rfl) rfl (ltb rfl) (X_assign rfl) <| L_nil <| thn_n <| W_ret <| thn_r <| fin_r ?_
    exact ⟨_, rfl, by simp only [fitV, fitC, hc, if_true]; rfl, Ext.refl _⟩
  · refine W_false (congrArg Value.bool (decide_eq_false (by omega))) <| W_skip <| thn_n <| W_seq <| W_reg <| L_op (.plain rfl) rfl (ltb rfl) (X_move (v := v) rfl) <| L_op (.plain rfl) rfl (ltb rfl) (X_assign (v := v) rfl) <| L_op (.plain rfl) rfl (ltb rfl) (X_assign rfl) <| L_nil <| thn_n <| W_ret <| fin_r ?_
    exact ⟨_, rfl, by simp only [fitV, fitC, hc, if_false]; rfl, Ext.refl _⟩

/-! laws.markRecordSS, by text -/
theorem laws_markRecordSS.calls {w : World} {a0 : List (List Rec)} {a1 : Int} {v_a0 : Value} {B T : Nat} (o_a0 : Own2 28 78 5 encRec B w v_a0 a0) (l_a0 : HB2 w v_a0 T) (h0 : a0.length ≤ 1048576) (h1 : ∀ l ∈ a0, l.length ≤ 1048576) (h2 : (0 : Int) ≤ a1) (h3 : (a1 : Int) ≤ 4611686018427387904 - 5 * (totL a0 : Int)) :
    Calls Tryz.prog 28 #[v_a0, .int .i64 a1] w (Rt (RM2 28 78 5 encRec B T w (.int .i64 (a1 + 5 * (totL a0 : Int))) v_a0 (marksSS a0 a1))) := by
  refine calls_of_W Tryz.func28 rfl (Nat.le_of_ble_eq_true rfl) Tryz.ntmps28 rfl ?_
  refine W_seq <| W_reg <| L_op (.plain rfl) rfl (ltb rfl) (X_assign (v := (.int .i64 0)) rfl) <| L_nil <| thn_n <| W_seq <| W_seq <| W_reg <| L_op (.plain rfl) rfl (ltb rfl) (X_assign (v := (.int .i64 0)) rfl) <| L_nil <| thn_n ?_
  refine W_cutQ (fun s0 σ W => σ 1 = .int .i64 (a1 + 5 * (totL a0 : Int)) ∧ Gr B T w W ∧ Own2 28 78 5 encRec B W v_a0 (marksSS a0 a1)) ?_ ?_
  · refine W_block <| W_loopI (fun s0 m σ W => ∃ (D R : List (List Rec)) (k : Int), m = R.length ∧ σ 0 = v_a0 ∧ σ 5 = .int .i64 (D.length : Int) ∧ σ 1 = .int .i64 k ∧ D.length + R.length = a0.length ∧ Gr B T w W ∧ Own2 28 78 5 encRec B W v_a0 (D ++ R) ∧ HB2 W v_a0 T ∧ (∀ l ∈ R, l.length ≤ 1048576) ∧ 0 ≤ k ∧ k + 5 * (totL R : Int) = a1 + 5 * (totL a0 : Int) ∧ D ++ marksSS R k = marksSS a0 a1) a0.length
      ⟨[], a0, a1, rfl, rfl, rfl, rfl, by simp, Gr.refl _ _ _, o_a0, l_a0, h1, h2, rfl, rfl⟩ ?_
    rintro m s1 W1 ⟨D, R, k, rfl, q0, q5, q1, hl, hg, hO, hH, hR, hk0, hk, hf⟩
    refine W_seq <| W_seq <| W_reg <| L_op (.plain rfl) rfl (ltb rfl) (X_move q5) <| L_op (.plain rfl) rfl (ltb rfl) (X_move q0) <| L_op (.plain rfl) rfl (ltb rfl) (X_lenR2 Tryz.underlying39 rfl hO.rd) <| L_op (.plain rfl) rfl (ltb rfl) (X_lss rfl rfl) <| L_nil <| thn_n ?_
    cases R with
    | nil =>
      refine W_false (congrArg Value.bool (decide_eq_false (by simp))) <| W_exit <| thn_x <| thn_x <| blk_x <| thn_n ?_
      have hkk : k = a1 + 5 * (totL a0 : Int) := by simpa [totL] using hk
      refine ⟨by rw [← hkk]; exact q1, hg, ?_⟩
      rw [← hf]
      exact hO
    | cons l R =>
      obtain ⟨vs, u, lo, hi, hv, hvl, hu, ho, hh, hsub, hback⟩ := hO.inner hH
      have hlt : D.length < vs.length := by rw [hvl]; simp
      haveI : Inhabited Value := ⟨undef⟩
      have hgu : gt vs (D.length : Int) = u := by
        rw [getD_gt, getD_el hlt]
        rw [List.getElem?_eq_getElem hlt] at hu
        exact Option.some.inj hu
      have htot : totL (l :: R) = l.length + totL R := by simp [totL]
      rw [htot] at hk
      have hll := hR l (by simp)
      refine W_true (congrArg Value.bool (decide_eq_true (by simp; omega))) <| W_skip <| thn_n <| W_seq <| W_block <| W_reg <| L_op (.plain rfl) rfl (ltb rfl) (X_move q0) <| L_op (.plain rfl) rfl (ltb rfl) (X_move q5) <|
        L_idx (xs := vs) (.plain rfl) rfl (ltb rfl) rfl Tryz.underlying39 Tryz.sizeOf28 rfl hv rfl (inR_nat hlt) <| fun p hA => ?_
      rw [hgu] at hA
      refine L_op (.plain rfl) rfl (ltb rfl) (X_loadAt (v := u) Tryz.isAgg28 rfl hA rfl) <| L_op (.plain rfl) rfl (ltb rfl) (X_move q1) <|
        L_callM (.plain rfl) rfl (ltb rfl) rfl Tryz.call33 (laws_markRecordS.calls (w := W1) (a0 := l) (a1 := k) ho hh (by omega) hk0 (by omega)) rfl <| fun W2 g2 o2 => L_op (.plain rfl) rfl (ltb rfl) (X_assign (v := .int .i64 (k + 5 * (l.length : Int))) rfl) <| L_nil <| blk_n <| thn_n ?_
      obtain ⟨hO2, hH2⟩ := hback W2 (marksR l.length k) g2 o2
      have hw : IntKind.wrap .i64 ((D.length : Int) + 1) = (((D ++ [marksR l.length k]).length : Nat) : Int) := by simp only [List.length_append, List.length_cons, List.length_nil]; rw [Int.natCast_add]; exact Go.UL.wrap_small (by omega) (by simp at hl; omega)
      refine W_reg <| L_op (.plain rfl) rfl (ltb rfl) (X_move q5) <| L_op (.plain rfl) rfl (ltb rfl) (X_add rfl rfl) <| L_op (.plain rfl) rfl (ltb rfl) (X_assign (v := .int .i64 (((D ++ [marksR l.length k]).length : Nat) : Int)) (congrArg (Value.int .i64) hw)) <| L_nil <| thn_n ?_
      exact ⟨R.length, by simp, D ++ [marksR l.length k], R, k + 5 * (l.length : Int), rfl, q0, rfl, rfl, by simp at hl ⊢; omega, hg.trans (hsub W2 g2), by rw [List.append_assoc]; exact hO2, hH2, fun y hy => hR y (by simp [hy]), by omega, by omega, by rw [List.append_assoc]; exact hf⟩
  · rintro s2 W2 ⟨q1, hg, hO⟩
    refine thn_n <| W_seq <| W_reg <| L_op (.plain rfl) rfl (ltb rfl) (X_move q1) <| L_op (.plain rfl) rfl (ltb rfl) (X_assign (v := .int .i64 (a1 + 5 * (totL a0 : Int))) rfl) <| L_nil <| thn_n <| W_ret <| fin_r ?_
    exact ⟨_, rfl, rfl, hg, hO⟩

/-! spec.l06All -/
theorem spec_l06All.walk {k : Nat} {w : World} {a0 : List (List Rec)} {v_a0 : Value} (f_a0 : Rd2 5 encRec w v_a0 a0) {r : List Rec} (H : spec_l06All.sh k a0 = some r) :
    Calls Tryz.prog 94 #[v_a0] w (Rt (RO 78 5 encRec w r)) := by
  unfold spec_l06All.sh at H
  refine calls_of_W Tryz.func94 rfl (Nat.le_of_ble_eq_true rfl) Tryz.ntmps94 rfl ?_
  refine W_seq <| W_reg <| L_op (.plain rfl) rfl (ltb rfl) (X_assign (v := (.slice none 0 0)) rfl) <| L_nil <| thn_n <| W_seq <| W_reg <| L_lit (.plain rfl) rfl (ltb rfl) rfl Tryz.underlying28 Tryz.sizeOf78 Tryz.zeroValue78 rfl rfl rfl (vs := []) rfl (lit_all rfl) <| fun b1 w2 z3 z4 e5 k6 => L_op (.plain rfl) rfl (ltb rfl) (X_assign (v := (.slice (some ⟨b1, 0, none⟩) 0 0)) rfl) <| L_nil <| thn_n <| W_seq <| W_seq <| W_reg <| L_op (.plain rfl) rfl (ltb rfl) (X_assign (v := (.int .i64 0)) rfl) <| L_nil <| thn_n ?_
  obtain ⟨z10, L11, C12⟩ := bind_some H
  clear H
  refine  W_cutQ (fun s0 sQ wQ => ∃ (x3_13 : List Rec) (v14 : Value), Kp [(3, 5), (6, 18)] s0 sQ ∧ sQ 3 = v14 ∧ Ow 78 5 encRec w2.heap.size wQ v14 x3_13 ∧ Ext w2 wQ ∧ z10 = .inr x3_13) ?_ ?_
  · refine W_block <| W_loopI (fun s0 kk sQ wQ => ∃ (x3_7 : List Rec) (v8 : Value) (x4_9 : Int), Kp [(3, 5), (6, 18)] s0 sQ ∧ sQ 3 = v8 ∧ Ow 78 5 encRec w2.heap.size wQ v8 x3_7 ∧ sQ 4 = .int .i64 x4_9 ∧ Ext w2 wQ ∧ loopF (spec_l06All.b1 a0) kk (x3_7, x4_9) = some z10) k ⟨([] : List Rec), (.slice (some ⟨b1, 0, none⟩) 0 0), 0, (Kp.refl _ _), rfl, (Ow.zero), rfl, (Ext.refl w2), L11⟩ ?_
    rintro k19 s20 w21 ⟨x3_7, v8, x4_9, K22, h25, h26, h27, e23, L24⟩
    cases k19 with
    | zero => exact absurd L24 (by simp [loopF])
    | succ k19 =>
      obtain ⟨t28, H, S29⟩ := loopF_succ L24
      clear L24
      unfold spec_l06All.b1 at H
      refine W_seq <| W_seq <| W_reg <| L_op (.plain rfl) rfl (ltb rfl) (X_move (v := (.int .i64 x4_9)) h27) <| L_op (.plain rfl) rfl (ltb rfl) (X_move (v := v_a0) (K22 0 rfl)) <| L_op (.plain rfl) rfl (ltb rfl) (X_lenR2 Tryz.underlying39 rfl (Rd2.ext f_a0 (Ext.trans e5 e23))) <| L_op (.plain rfl) rfl (ltb rfl) (X_lss rfl rfl) <| L_nil <| thn_n ?_
      rcases bif_two H with ⟨q30, H⟩ | ⟨q30, H⟩
      · refine W_true (congrArg Value.bool q30) <| W_skip <| thn_n <| W_seq <| W_block <| W_reg <| L_op (.plain rfl) rfl (ltb rfl) (X_move (v := v8) h25) <| L_op (.plain rfl) rfl (ltb rfl) (X_move (v := v_a0) (K22 0 rfl)) <| L_op (.plain rfl) rfl (ltb rfl) (X_move (v := (.int .i64 x4_9)) h27) ?_
        obtain ⟨c31, H⟩ := bif_some H
        refine L_idx2 (.plain rfl) rfl (ltb rfl) rfl Tryz.underlying39 Tryz.sizeOf28 rfl (Rd2.ext f_a0 (Ext.trans e5 e23)) rfl c31 <| fun p32 v34 h33 h35 => L_op (.plain rfl) rfl (ltb rfl) (X_loadAt Tryz.isAgg28 rfl h33 rfl) ?_
        obtain ⟨c36, H⟩ := bif_some H
        obtain ⟨c37, H⟩ := bif_some H
        obtain ⟨c38, H⟩ := bif_some H
        obtain ⟨c39, H⟩ := bif_some H
        refine L_callO (.plain rfl) rfl (ltb rfl) rfl Tryz.call86 (spec_l06Two.calls (w := w21) (a0 := x3_7) (a1 := gt a0 x4_9) (Ow.rd h26) h35 (of_decide_eq_true c36) (of_decide_eq_true c37) (of_decide_eq_true c38) (of_decide_eq_true c39)) rfl <| fun v42 w40 e41 o43 => L_op (.plain rfl) rfl (ltb rfl) (X_assign (v := v42) rfl) <| L_nil <| blk_n <| thn_n <| W_reg <| L_op (.plain rfl) rfl (ltb rfl) (X_move (v := (.int .i64 x4_9)) h27) <| L_op (.plain rfl) rfl (ltb rfl) (X_add rfl rfl) <| L_op (.plain rfl) rfl (ltb rfl) (X_assign (v := (.int .i64 (IntKind.wrap .i64 (x4_9 + 1)))) rfl) <| L_nil <| thn_n ?_
        obtain rfl := Option.some.inj H
        exact ⟨_, Nat.lt_succ_self _, (squashL x3_7 (gt a0 x4_9)), v42, IntKind.wrap .i64 (x4_9 + 1), (Kp.upd (Kp.upd (Kp.upd (Kp.upd (Kp.upd (Kp.upd (Kp.upd (Kp.upd (Kp.upd (Kp.upd (Kp.upd (Kp.upd (Kp.upd (Kp.upd K22 rfl) rfl) rfl) rfl) rfl) rfl) rfl) rfl) rfl) rfl) rfl) rfl) rfl) rfl), rfl, (Ow.base o43 e23.size), rfl, (Ext.trans e23 e41), S29⟩
      · refine W_false (congrArg Value.bool q30) <| W_exit <| thn_x <| thn_x <| blk_x <| thn_n ?_
        obtain rfl := Option.some.inj H
        obtain rfl := Option.some.inj S29
        exact ⟨x3_7, v8, (Kp.upd (Kp.upd (Kp.upd (Kp.upd K22 rfl) rfl) rfl) rfl), h25, h26, e23, rfl⟩
  · rintro s16 w15 ⟨x3_13, v14, K17, h44, h45, e18, y46⟩
    rw [y46] at C12
    have H := C12
    replace H : _ = some _ := H
    refine thn_n <| W_seq <| W_reg <| L_op (.plain rfl) rfl (ltb rfl) (X_move (v := v14) h44) <| L_op (.plain rfl) rfl (ltb rfl) (X_assign (v := v14) rfl) <| L_nil <| thn_n <| W_ret <| fin_r ?_
    obtain rfl := Option.some.inj H
    exact fin1o rfl (Ext.trans e5 e18) h45 (e5).size
theorem spec_l06All.calls {w : World} {a0 : List (List Rec)} {v_a0 : Value} (f_a0 : Rd2 5 encRec w v_a0 a0) (h0 : stackOK a0 = true) :
    Calls Tryz.prog 94 #[v_a0] w (Rt (RO 78 5 encRec w (squashAllL a0))) := by
  obtain ⟨k, h⟩ := spec_l06All.eq a0 h0
  exact spec_l06All.walk f_a0 h
/-! spec.SquashAll -/
theorem spec_SquashAll.walk {w : World} {a0 : List (List Rec)} {v_a0 : Value} (f_a0 : Rd2 5 encRec w v_a0 a0) {r : List Rec × Int} (H : spec_SquashAll.sh a0 = some r) :
    Calls Tryz.prog 46 #[v_a0] w (Rt (RT 78 5 encRec w r.1 (.int .i64 r.2))) := by
  unfold spec_SquashAll.sh at H
  refine calls_of_W Tryz.func46 rfl (Nat.le_of_ble_eq_true rfl) Tryz.ntmps46 rfl ?_
  refine W_seq <| W_reg <| L_op (.plain rfl) rfl (ltb rfl) (X_assign (v := (.slice none 0 0)) rfl) <| L_op (.plain rfl) rfl (ltb rfl) (X_assign (v := (.int .i64 0)) rfl) <| L_nil <| thn_n <| W_seq <| W_seq <| W_reg <| L_op (.plain rfl) rfl (ltb rfl) (X_move (v := v_a0) rfl) <| L_op (.plain rfl) rfl (ltb rfl) (X_lenR2 Tryz.underlying39 rfl f_a0) <| L_op (.plain rfl) rfl (ltb rfl) (X_gtr rfl rfl) <| L_nil <| thn_n ?_
  rcases bif_two H with ⟨q1, H⟩ | ⟨q1, H⟩
  · refine W_true (congrArg Value.bool q1) <| W_seq <| W_reg <| L_lit (.plain rfl) rfl (ltb rfl) rfl Tryz.underlying28 Tryz.sizeOf78 Tryz.zeroValue78 rfl rfl rfl (vs := []) rfl (lit_all rfl) <| fun b2 w3 z4 z5 e6 k7 => L_op (.plain rfl) rfl (ltb rfl) (X_assign (v := (.slice (some ⟨b2, 0, none⟩) 0 0)) rfl) <| L_op (.plain rfl) rfl (ltb rfl) (X_assign (v := (.int .i64 2)) rfl) <| L_nil <| thn_n <| W_ret <| thn_r <| fin_r ?_
    obtain rfl := Option.some.inj H
    exact fin2o rfl rfl e6 (Ow.zero (base := w.heap.size)) (Nat.le_refl _)
  · refine W_false (congrArg Value.bool q1) <| W_skip <| thn_n <| W_seq <| W_seq <| W_reg <| L_op (.plain rfl) rfl (ltb rfl) (X_move (v := v_a0) rfl) ?_
    obtain ⟨c8, H⟩ := bif_some H
    obtain ⟨c9, H⟩ := bif_some H
    obtain ⟨c10, H⟩ := bif_some H
    refine L_callP (.plain rfl) rfl (ltb rfl) rfl Tryz.call77 (spec_l05Stack.calls (w := w) (a0 := a0) f_a0 (of_decide_eq_true c8) (of_decide_eq_true c9) (of_decide_eq_true c10)) rfl <| fun w11 e12 => L_op (.plain rfl) rfl (ltb rfl) (X_not rfl) <| L_nil <| thn_n ?_
    rcases bif_two H with ⟨q13, H⟩ | ⟨q13, H⟩
    · refine W_true (congrArg Value.bool q13) <| W_seq <| W_reg <| L_lit (.plain rfl) rfl (ltb rfl) rfl Tryz.underlying28 Tryz.sizeOf78 Tryz.zeroValue78 rfl rfl rfl (vs := []) rfl (lit_all rfl) <| fun b14 w15 z16 z17 e18 k19 => L_op (.plain rfl) rfl (ltb rfl) (X_assign (v := (.slice (some ⟨b14, 0, none⟩) 0 0)) rfl) <| L_op (.plain rfl) rfl (ltb rfl) (X_assign (v := (.int .i64 1)) rfl) <| L_nil <| thn_n <| W_ret <| thn_r <| fin_r ?_
      obtain rfl := Option.some.inj H
      exact fin2o rfl rfl (Ext.trans e12 e18) (Ow.zero (base := w.heap.size)) (Nat.le_refl _)
    · refine W_false (congrArg Value.bool q13) <| W_skip <| thn_n <| W_seq <| W_reg <| L_op (.plain rfl) rfl (ltb rfl) (X_move (v := v_a0) rfl) ?_
      obtain ⟨c20, H⟩ := bif_some H
      refine L_callO (.plain rfl) rfl (ltb rfl) rfl Tryz.call94 (spec_l06All.calls (w := w11) (a0 := a0) (Rd2.ext f_a0 e12) (of_decide_eq_true c20)) rfl <| fun v23 w21 e22 o24 => L_op (.plain rfl) rfl (ltb rfl) (X_assign (v := v23) rfl) <| L_nil <| thn_n <| W_seq <| W_seq <| W_reg <| L_op (.plain rfl) rfl (ltb rfl) (X_move (v := v23) rfl) <| L_op (.plain rfl) rfl (ltb rfl) (X_lenR Tryz.underlying28 rfl (Ow.rd o24)) <| L_op (.plain rfl) rfl (ltb rfl) (X_gtr rfl rfl) <| L_nil <| thn_n ?_
      rcases bif_two H with ⟨q25, H⟩ | ⟨q25, H⟩
      · refine W_true (congrArg Value.bool q25) <| W_seq <| W_reg <| L_lit (.plain rfl) rfl (ltb rfl) rfl Tryz.underlying28 Tryz.sizeOf78 Tryz.zeroValue78 rfl rfl rfl (vs := []) rfl (lit_all rfl) <| fun b26 w27 z28 z29 e30 k31 => L_op (.plain rfl) rfl (ltb rfl) (X_assign (v := (.slice (some ⟨b26, 0, none⟩) 0 0)) rfl) <| L_op (.plain rfl) rfl (ltb rfl) (X_assign (v := (.int .i64 7)) rfl) <| L_nil <| thn_n <| W_ret <| thn_r <| fin_r ?_
        obtain rfl := Option.some.inj H
        exact fin2o rfl rfl (Ext.trans (Ext.trans e12 e22) e30) (Ow.zero (base := w.heap.size)) (Nat.le_refl _)
      · refine W_false (congrArg Value.bool q25) <| W_skip <| thn_n <| W_seq <| W_reg <| L_op (.plain rfl) rfl (ltb rfl) (X_move (v := v23) rfl) <| L_op (.plain rfl) rfl (ltb rfl) (X_assign (v := v23) rfl) <| L_op (.plain rfl) rfl (ltb rfl) (X_assign (v := (.int .i64 0)) rfl) <| L_nil <| thn_n <| W_ret <| fin_r ?_
        obtain rfl := Option.some.inj H
        exact fin2o rfl rfl (Ext.trans e12 e22) o24 (e12).size
theorem spec_SquashAll.calls {w : World} {a0 : List (List Rec)} {v_a0 : Value} (f_a0 : Rd2 5 encRec w v_a0 a0) (h0 : a0.length ≤ 1048576) (h1 : ∀ l ∈ a0, l.length ≤ 1048576) (h2 : ∀ l ∈ a0, ∀ x ∈ l, x.path.length ≤ 1048576) :
    Calls Tryz.prog 46 #[v_a0] w (Rt (RT 78 5 encRec w ((squashAllOf a0).1) (.int .i64 ((squashAllOf a0).2)))) := spec_SquashAll.walk f_a0 (spec_SquashAll.eq a0 h0 h1 h2)
/-! impl.squashAll -/
theorem impl_squashAll.walk {k : Nat} {w : World} {a0 : List (List Rec)} (gv : GV 0 w) {v_a0 : Value} (f_a0 : Rd2 5 encRec w v_a0 a0) {r : List Rec} (H : impl_squashAll.sh k a0 = some r) :
    Calls Tryz.prog 95 #[v_a0] w (Rt (RO 78 5 encRec w r)) := by
  unfold impl_squashAll.sh at H
  refine calls_of_W Tryz.func95 rfl (Nat.le_of_ble_eq_true rfl) Tryz.ntmps95 rfl ?_
  refine W_seq <| W_reg <| L_op (.plain rfl) rfl (ltb rfl) (X_assign (v := (.slice none 0 0)) rfl) <| L_nil <| thn_n <| W_seq <| W_reg <| L_lit (.plain rfl) rfl (ltb rfl) rfl Tryz.underlying28 Tryz.sizeOf78 Tryz.zeroValue78 rfl rfl rfl (vs := []) rfl (lit_all rfl) <| fun b1 w2 z3 z4 e5 k6 => L_op (.plain rfl) rfl (ltb rfl) (X_assign (v := (.slice (some ⟨b1, 0, none⟩) 0 0)) rfl) <| L_nil <| thn_n <| W_seq <| W_seq <| W_reg <| L_op (.plain rfl) rfl (ltb rfl) (X_move (v := v_a0) rfl) <| L_op (.plain rfl) rfl (ltb rfl) (X_lenR2 Tryz.underlying39 rfl (Rd2.ext f_a0 e5)) <| L_op (.plain rfl) rfl (ltb rfl) (X_move (v := (.int .i64 0)) rfl) <| L_nil <| thn_n ?_
  obtain ⟨z10, L11, C12⟩ := bind_some H
  clear H
  refine  W_cutQ (fun s0 sQ wQ => ∃ (x3_13 : List Rec) (v14 : Value), Kp [(3, 4), (5, 6), (9, 17)] s0 sQ ∧ sQ 3 = v14 ∧ Ow 78 5 encRec w2.heap.size wQ v14 x3_13 ∧ Ext w2 wQ ∧ z10 = .inr x3_13) ?_ ?_
  · refine W_block <| W_loopI (fun s0 kk sQ wQ => ∃ (x3_7 : List Rec) (v8 : Value) (x9_9 : Int), Kp [(3, 4), (5, 6), (9, 17)] s0 sQ ∧ sQ 3 = v8 ∧ Ow 78 5 encRec w2.heap.size wQ v8 x3_7 ∧ sQ 9 = .int .i64 x9_9 ∧ Ext w2 wQ ∧ loopF (impl_squashAll.b1 a0) kk (x3_7, x9_9) = some z10) k ⟨([] : List Rec), (.slice (some ⟨b1, 0, none⟩) 0 0), 0, (Kp.refl _ _), rfl, (Ow.zero), rfl, (Ext.refl w2), L11⟩ ?_
    rintro k19 s20 w21 ⟨x3_7, v8, x9_9, K22, h25, h26, h27, e23, L24⟩
    cases k19 with
    | zero => exact absurd L24 (by simp [loopF])
    | succ k19 =>
      obtain ⟨t28, H, S29⟩ := loopF_succ L24
      clear L24
      unfold impl_squashAll.b1 at H
      refine W_seq <| W_reg <| L_op (.plain rfl) rfl (ltb rfl) (X_lss h27 (K22 8 rfl)) <| L_nil <| thn_n <| W_seq ?_
      rcases bif_two H with ⟨q30, H⟩ | ⟨q30, H⟩
      · refine W_true (congrArg Value.bool q30) <| W_skip <| thn_n <| W_seq <| W_block <| W_seq <| W_reg ?_
        obtain ⟨c31, H⟩ := bif_some H
        refine L_idx2 (.plain rfl) rfl (ltb rfl) rfl Tryz.underlying39 Tryz.sizeOf28 (K22 7 rfl) (Rd2.ext f_a0 (Ext.trans e5 e23)) h27 c31 <| fun p32 v34 h33 h35 => L_op (.plain rfl) rfl (ltb rfl) (X_loadAt Tryz.isAgg28 rfl h33 rfl) <| L_op (.plain rfl) rfl (ltb rfl) (X_assign (v := v34) rfl) <| L_nil <| thn_n <| W_reg <| L_op (.plain rfl) rfl (ltb rfl) (X_move (v := v8) h25) <| L_op (.plain rfl) rfl (ltb rfl) (X_move (v := v34) rfl) ?_
        obtain ⟨c36, H⟩ := bif_some H
        obtain ⟨c37, H⟩ := bif_some H
        obtain ⟨c38, H⟩ := bif_some H
        obtain ⟨c39, H⟩ := bif_some H
        refine L_callO (.plain rfl) rfl (ltb rfl) rfl Tryz.call89 (impl_squash.calls (w := w21) (a0 := x3_7) (a1 := gt a0 x9_9) (GV.ext gv (Ext.trans e5 e23)) (Ow.rd h26) h35 (of_decide_eq_true c36) (of_decide_eq_true c37) (of_decide_eq_true c38) (of_decide_eq_true c39)) rfl <| fun v42 w40 e41 o43 => L_op (.plain rfl) rfl (ltb rfl) (X_assign (v := v42) rfl) <| L_nil <| blk_n <| thn_n <| W_reg <| L_op (.plain rfl) rfl (ltb rfl) (X_add h27 rfl) <| L_op (.plain rfl) rfl (ltb rfl) (X_move (v := (.int .i64 (IntKind.wrap .i64 (x9_9 + 1)))) rfl) <| L_nil <| thn_n ?_
        obtain rfl := Option.some.inj H
        exact ⟨_, Nat.lt_succ_self _, (squashL x3_7 (gt a0 x9_9)), v42, IntKind.wrap .i64 (x9_9 + 1), (Kp.upd (Kp.upd (Kp.upd (Kp.upd (Kp.upd (Kp.upd (Kp.upd (Kp.upd (Kp.upd (Kp.upd K22 rfl) rfl) rfl) rfl) rfl) rfl) rfl) rfl) rfl) rfl), rfl, (Ow.base o43 e23.size), rfl, (Ext.trans e23 e41), S29⟩
      · refine W_false (congrArg Value.bool q30) <| W_exit <| thn_x <| thn_x <| blk_x <| thn_n ?_
        obtain rfl := Option.some.inj H
        obtain rfl := Option.some.inj S29
        exact ⟨x3_7, v8, (Kp.upd K22 rfl), h25, h26, e23, rfl⟩
  · rintro s16 w15 ⟨x3_13, v14, K17, h44, h45, e18, y46⟩
    rw [y46] at C12
    have H := C12
    replace H : _ = some _ := H
    refine thn_n <| W_seq <| W_reg <| L_op (.plain rfl) rfl (ltb rfl) (X_move (v := v14) h44) <| L_op (.plain rfl) rfl (ltb rfl) (X_assign (v := v14) rfl) <| L_nil <| thn_n <| W_ret <| fin_r ?_
    obtain rfl := Option.some.inj H
    exact fin1o rfl (Ext.trans e5 e18) h45 (e5).size
theorem impl_squashAll.calls {w : World} {a0 : List (List Rec)} (gv : GV 0 w) {v_a0 : Value} (f_a0 : Rd2 5 encRec w v_a0 a0) (h0 : stackOK a0 = true) :
    Calls Tryz.prog 95 #[v_a0] w (Rt (RO 78 5 encRec w (squashAllL a0))) := by
  obtain ⟨k, h⟩ := impl_squashAll.eq a0 h0
  exact impl_squashAll.walk gv f_a0 h
/-! impl.SquashAll -/
theorem impl_SquashAll.walk {w : World} {a0 : List (List Rec)} (gv : GV 0 w) {v_a0 : Value} (f_a0 : Rd2 5 encRec w v_a0 a0) {r : List Rec × Int} (H : impl_SquashAll.sh a0 = some r) :
    Calls Tryz.prog 47 #[v_a0] w (Rt (RT 78 5 encRec w r.1 (.int .i64 r.2))) := by
  unfold impl_SquashAll.sh at H
  refine calls_of_W Tryz.func47 rfl (Nat.le_of_ble_eq_true rfl) Tryz.ntmps47 rfl ?_
  refine W_seq <| W_reg <| L_op (.plain rfl) rfl (ltb rfl) (X_assign (v := (.slice none 0 0)) rfl) <| L_op (.plain rfl) rfl (ltb rfl) (X_assign (v := (.int .i64 0)) rfl) <| L_nil <| thn_n <| W_seq <| W_seq <| W_reg <| L_op (.plain rfl) rfl (ltb rfl) (X_move (v := v_a0) rfl) ?_
  obtain ⟨c1, H⟩ := bif_some H
  obtain ⟨c2, H⟩ := bif_some H
  obtain ⟨c3, H⟩ := bif_some H
  refine L_callP (.plain rfl) rfl (ltb rfl) rfl Tryz.call79 (impl_stackCode.calls (w := w) (a0 := a0) gv f_a0 (of_decide_eq_true c1) (of_decide_eq_true c2) (of_decide_eq_true c3)) rfl <| fun w4 e5 => L_op (.plain rfl) rfl (ltb rfl) (X_assign (v := (.int .i64 (stackCode a0))) rfl) <| L_nil <| thn_n <| W_seq <| W_reg <| L_op (.plain rfl) rfl (ltb rfl) (X_move (v := (.int .i64 (stackCode a0))) rfl) <| L_op (.plain rfl) rfl (ltb rfl) (X_neq rfl rfl) <| L_nil <| thn_n ?_
  rcases bif_two H with ⟨q6, H⟩ | ⟨q6, H⟩
  · refine W_true (congrArg Value.bool q6) <| W_seq <| W_reg <| L_op (.plain rfl) rfl (ltb rfl) (X_move (v := (.int .i64 (stackCode a0))) rfl) <| L_op (.plain rfl) rfl (ltb rfl) (X_assign (v := (.slice none 0 0)) rfl) <| L_op (.plain rfl) rfl (ltb rfl) (X_assign (v := (.int .i64 (stackCode a0))) rfl) <| L_nil <| thn_n <| W_ret <| thn_r <| fin_r ?_
    obtain rfl := Option.some.inj H
    exact fin2o rfl rfl e5 (Ow.zero (base := w.heap.size)) (Nat.le_refl _)
  · refine W_false (congrArg Value.bool q6) <| W_skip <| thn_n <| W_seq <| W_reg <| L_op (.plain rfl) rfl (ltb rfl) (X_move (v := v_a0) rfl) ?_
    obtain ⟨c7, H⟩ := bif_some H
    refine L_callO (.plain rfl) rfl (ltb rfl) rfl Tryz.call95 (impl_squashAll.calls (w := w4) (a0 := a0) (GV.ext gv e5) (Rd2.ext f_a0 e5) (of_decide_eq_true c7)) rfl <| fun v10 w8 e9 o11 => L_callA (.plain rfl) rfl (ltb rfl) rfl Tryz.call88 (impl_fitting.calls (w := w8) (Ow.rd o11)) rfl <| fun _ w12 hA9 => ?_
    obtain ⟨rfl, e13⟩ := hA9
    refine L_op (.plain rfl) rfl (ltb rfl) (X_extract (v := (fitV v10 (squashAllL a0))) rfl rfl) <| L_op (.plain rfl) rfl (ltb rfl) (X_extract (v := (.int .i64 (fitC (squashAllL a0)))) rfl rfl) <| L_op (.plain rfl) rfl (ltb rfl) (X_assign (v := (fitV v10 (squashAllL a0))) rfl) <| L_op (.plain rfl) rfl (ltb rfl) (X_assign (v := (.int .i64 (fitC (squashAllL a0)))) rfl) <| L_nil <| thn_n <| W_ret <| fin_r ?_
    obtain rfl := Option.some.inj H
    exact fin2o rfl rfl (Ext.trans (Ext.trans e5 e9) e13) (Ow.fit (Ow.ext o11 e13)) (e5).size
theorem impl_SquashAll.calls {w : World} {a0 : List (List Rec)} (gv : GV 0 w) {v_a0 : Value} (f_a0 : Rd2 5 encRec w v_a0 a0) (h0 : a0.length ≤ 1048576) (h1 : ∀ l ∈ a0, l.length ≤ 1048576) (h2 : ∀ l ∈ a0, ∀ x ∈ l, x.path.length ≤ 1048576) :
    Calls Tryz.prog 47 #[v_a0] w (Rt (RT 78 5 encRec w ((squashAllOf a0).1) (.int .i64 ((squashAllOf a0).2)))) := impl_SquashAll.walk gv f_a0 (impl_SquashAll.eq a0 h0 h1 h2)
/-! laws.FnExactSquashAll -/
abbrev law_SquashAll.e1 (a0 : List (List Rec)) := (!(decide (((squashAllOf a0).1) = ((squashAllOf a0).1))))
theorem law_SquashAll.walk {w : World} {a0 : List (List Rec)} (gv : GV 0 w) {v_a0 : Value} (f_a0 : Rd2 5 encRec w v_a0 a0) {r : Bool} (H : law_SquashAll.sh a0 = some r) :
    Calls Tryz.prog 10 #[v_a0] w (Rt (RP w (.bool r))) := by
  unfold law_SquashAll.sh at H
  refine calls_of_W Tryz.func10 rfl (Nat.le_of_ble_eq_true rfl) Tryz.ntmps10 rfl ?_
  refine W_seq <| W_reg <| L_op (.plain rfl) rfl (ltb rfl) (X_assign (v := (.bool false)) rfl) <| L_nil <| thn_n <| W_seq <| W_reg <| L_op (.plain rfl) rfl (ltb rfl) (X_assign (v := (.int .i64 1048576)) rfl) <| L_nil <| thn_n <| W_seq <| W_reg <| L_op (.plain rfl) rfl (ltb rfl) (X_move (v := v_a0) rfl) <| L_op (.plain rfl) rfl (ltb rfl) (X_move (v := (.int .i64 1048576)) rfl) ?_
  obtain ⟨c1, H⟩ := bif_some H
  obtain ⟨c2, H⟩ := bif_some H
  obtain ⟨c3, H⟩ := bif_some H
  obtain ⟨c4, H⟩ := bif_some H
  obtain ⟨c5, H⟩ := bif_some H
  refine L_callP (.plain rfl) rfl (ltb rfl) rfl Tryz.call23 (laws_szRecordSS.calls (w := w) (a0 := a0) (a1 := 1048576) f_a0 (of_decide_eq_true c1) (of_decide_eq_true c2) (of_decide_eq_true c3) (of_decide_eq_true c4) (of_decide_eq_true c5)) rfl <| fun w6 e7 => L_op (.plain rfl) rfl (ltb rfl) (X_assign (v := (.int .i64 (szRecSS a0 1048576))) rfl) <| L_nil <| thn_n <| W_seq <| W_seq <| W_reg <| L_op (.plain rfl) rfl (ltb rfl) (X_move (v := (.int .i64 (szRecSS a0 1048576))) rfl) <| L_op (.plain rfl) rfl (ltb rfl) (X_lss rfl rfl) <| L_nil <| thn_n ?_
  rcases bif_two H with ⟨q8, H⟩ | ⟨q8, H⟩
  · refine W_true (congrArg Value.bool q8) <| W_seq <| W_reg <| L_op (.plain rfl) rfl (ltb rfl) (X_assign (v := (.bool true)) rfl) <| L_nil <| thn_n <| W_ret <| thn_r <| fin_r ?_
    obtain rfl := Option.some.inj H
    exact fin1 rfl e7
  · refine W_false (congrArg Value.bool q8) <| W_skip <| thn_n <| W_seq <| W_reg <| L_op (.plain rfl) rfl (ltb rfl) (X_move (v := v_a0) rfl) ?_
    obtain ⟨c9, H⟩ := bif_some H
    obtain ⟨c10, H⟩ := bif_some H
    refine L_callOS (.plain rfl) rfl (ltb rfl) rfl Tryz.call25 (laws_toRecordSS.calls (w := w6) (a0 := a0) (Rd2.ext f_a0 e7) (of_decide_eq_true c9) (of_decide_eq_true c10)) rfl <| fun v13 w11 e12 o14 => ?_
    obtain ⟨c15, H⟩ := bif_some H
    obtain ⟨c16, H⟩ := bif_some H
    obtain ⟨c17, H⟩ := bif_some H
    refine L_callT (.plain rfl) rfl (ltb rfl) rfl Tryz.call46 (spec_SquashAll.calls (w := w11) (a0 := a0) (Own2.rd o14) (of_decide_eq_true c15) (of_decide_eq_true c16) (of_decide_eq_true c17)) rfl <| fun v20 w18 e19 o21 => L_op (.plain rfl) rfl (ltb rfl) (X_move (v := (.tuple #[v20, (.int .i64 ((squashAllOf a0).2))])) rfl) <| L_op (.plain rfl) rfl (ltb rfl) (X_extract (v := v20) rfl rfl) <| L_op (.plain rfl) rfl (ltb rfl) (X_extract (v := (.int .i64 ((squashAllOf a0).2))) rfl rfl) <| L_op (.plain rfl) rfl (ltb rfl) (X_assign (v := v20) rfl) <| L_op (.plain rfl) rfl (ltb rfl) (X_assign (v := (.int .i64 ((squashAllOf a0).2))) rfl) <| L_nil <| thn_n <| W_seq <| W_reg <| L_op (.plain rfl) rfl (ltb rfl) (X_move (v := v_a0) rfl) ?_
    obtain ⟨c22, H⟩ := bif_some H
    obtain ⟨c23, H⟩ := bif_some H
    refine L_callOS (.plain rfl) rfl (ltb rfl) rfl Tryz.call25 (laws_toRecordSS.calls (w := w18) (a0 := a0) (Rd2.ext f_a0 (Ext.trans (Ext.trans e7 e12) e19)) (of_decide_eq_true c22) (of_decide_eq_true c23)) rfl <| fun v26 w24 e25 o27 => L_op (.plain rfl) rfl (ltb rfl) (X_assign (v := v26) rfl) <| L_nil <| thn_n <| W_seq <| W_reg <| L_op (.plain rfl) rfl (ltb rfl) (X_move (v := v26) rfl) ?_
    obtain ⟨c28, H⟩ := bif_some H
    obtain ⟨c29, H⟩ := bif_some H
    obtain ⟨c30, H⟩ := bif_some H
    refine L_callT (.plain rfl) rfl (ltb rfl) rfl Tryz.call47 (impl_SquashAll.calls (w := w24) (a0 := a0) (GV.ext gv (Ext.trans (Ext.trans (Ext.trans e7 e12) e19) e25)) (Own2.rd o27) (of_decide_eq_true c28) (of_decide_eq_true c29) (of_decide_eq_true c30)) rfl <| fun v33 w31 e32 o34 => L_op (.plain rfl) rfl (ltb rfl) (X_move (v := (.tuple #[v33, (.int .i64 ((squashAllOf a0).2))])) rfl) <| L_op (.plain rfl) rfl (ltb rfl) (X_extract (v := v33) rfl rfl) <| L_op (.plain rfl) rfl (ltb rfl) (X_extract (v := (.int .i64 ((squashAllOf a0).2))) rfl rfl) <| L_op (.plain rfl) rfl (ltb rfl) (X_assign (v := v33) rfl) <| L_op (.plain rfl) rfl (ltb rfl) (X_assign (v := (.int .i64 ((squashAllOf a0).2))) rfl) <| L_nil <| thn_n <| W_seq <| W_seq <| W_reg <| L_op (.plain rfl) rfl (ltb rfl) (X_move (v := v33) rfl) <| L_op (.plain rfl) rfl (ltb rfl) (X_move (v := v20) rfl) ?_
    obtain ⟨c35, H⟩ := bif_some H
    refine L_callP (.plain rfl) rfl (ltb rfl) rfl Tryz.call21 (laws_eqRecordS.calls (w := w31) (a0 := (squashAllOf a0).1) (a1 := (squashAllOf a0).1) (Ow.rd o34) (Ow.rd (Ow.ext o21 (Ext.trans e25 e32))) (of_decide_eq_true c35)) rfl <| fun w36 e37 => L_op (.plain rfl) rfl (ltb rfl) (X_not rfl) <| L_op (.plain rfl) rfl (ltb rfl) (X_move (v := (.bool (law_SquashAll.e1 a0))) rfl) <| L_grp 4 [(37, 41)] 40 (.bool ((law_SquashAll.e1 a0) || (!decide (((squashAllOf a0).2) = ((squashAllOf a0).2))))) ?_ ?_
    · rcases bool_two (law_SquashAll.e1 a0) with b37_ | b37_
      · exact L_skip rfl rfl (ltb rfl) (congrArg Value.bool b37_) rfl rfl (ltb rfl) <| L_skip rfl rfl (ltb rfl) (congrArg Value.bool b37_) rfl rfl (ltb rfl) <| L_skip rfl rfl (ltb rfl) (congrArg Value.bool b37_) rfl rfl (ltb rfl) <| L_op (.plain rfl) rfl (ltb rfl) (X_pick (b := true) (v := (.bool true)) (congrArg Value.bool b37_) rfl) <| L_nil <| thn_n ⟨(Kp.upd (Kp.upd (Kp.upd (Kp.upd (Kp.refl _ _) rfl) rfl) rfl) rfl), (or_t b37_), (Ext.refl w36)⟩
      · exact L_op (.guard 4 false 36 rfl rfl (ltb rfl) (congrArg Value.bool b37_)) rfl (ltb rfl) (X_move (v := (.int .i64 ((squashAllOf a0).2))) rfl) <| L_op (.guard 4 false 36 rfl rfl (ltb rfl) (congrArg Value.bool b37_)) rfl (ltb rfl) (X_move (v := (.int .i64 ((squashAllOf a0).2))) rfl) <| L_op (.guard 4 false 36 rfl rfl (ltb rfl) (congrArg Value.bool b37_)) rfl (ltb rfl) (X_neq rfl rfl) <| L_op (.plain rfl) rfl (ltb rfl) (X_pick (b := false) (v := (.bool (!decide (((squashAllOf a0).2) = ((squashAllOf a0).2))))) (congrArg Value.bool b37_) rfl) <| L_nil <| thn_n ⟨(Kp.upd (Kp.upd (Kp.upd (Kp.upd (Kp.refl _ _) rfl) rfl) rfl) rfl), (or_f b37_), (Ext.refl w36)⟩
    intro s43 w39 K40 h41 e42
    refine L_nil <| thn_n ?_
    rcases bif_two H with ⟨q44, H⟩ | ⟨q44, H⟩
    · refine W_true (h41.trans (congrArg Value.bool q44)) <| W_seq <| W_reg <| L_op (.plain rfl) rfl (ltb rfl) (X_assign (v := (.bool false)) rfl) <| L_nil <| thn_n <| W_ret <| thn_r <| fin_r ?_
      obtain rfl := Option.some.inj H
      exact fin1 rfl (Ext.trans (Ext.trans (Ext.trans (Ext.trans (Ext.trans (Ext.trans e7 e12) e19) e25) e32) e37) e42)
    · refine W_false (h41.trans (congrArg Value.bool q44)) <| W_skip <| thn_n <| W_seq <| W_seq <| W_reg <| L_op (.plain rfl) rfl (ltb rfl) (X_move (v := v26) (K40 6 rfl)) <| L_op (.plain rfl) rfl (ltb rfl) (X_move (v := v_a0) (K40 0 rfl)) ?_
      obtain ⟨c45, H⟩ := bif_some H
      obtain ⟨c46, H⟩ := bif_some H
      refine L_callOS (.plain rfl) rfl (ltb rfl) rfl Tryz.call25 (laws_toRecordSS.calls (w := w39) (a0 := a0) (Rd2.ext f_a0 (Ext.trans (Ext.trans (Ext.trans (Ext.trans (Ext.trans (Ext.trans e7 e12) e19) e25) e32) e37) e42)) (of_decide_eq_true c45) (of_decide_eq_true c46)) rfl <| fun v49 w47 e48 o50 => ?_
      obtain ⟨c51, H⟩ := bif_some H
      obtain ⟨c52, H⟩ := bif_some H
      refine L_callP (.plain rfl) rfl (ltb rfl) rfl Tryz.call27 (laws_eqRecordSS.calls (w := w47) (a0 := a0) (a1 := a0) (Own2.rd (Own2.ext o27 (Ext.trans (Ext.trans (Ext.trans e32 e37) e42) e48))) (Own2.rd o50) (of_decide_eq_true c51) (of_decide_eq_true c52)) rfl <| fun w53 e54 => L_op (.plain rfl) rfl (ltb rfl) (X_not rfl) <| L_nil <| thn_n ?_
      rcases bif_two H with ⟨q55, H⟩ | ⟨q55, H⟩
      · refine W_true (congrArg Value.bool q55) <| W_seq <| W_reg <| L_op (.plain rfl) rfl (ltb rfl) (X_assign (v := (.bool false)) rfl) <| L_nil <| thn_n <| W_ret <| thn_r <| fin_r ?_
        obtain rfl := Option.some.inj H
        exact fin1 rfl (Ext.trans (Ext.trans (Ext.trans (Ext.trans (Ext.trans (Ext.trans (Ext.trans (Ext.trans e7 e12) e19) e25) e32) e37) e42) e48) e54)
      · refine W_false (congrArg Value.bool q55) <| W_skip <| thn_n <| W_seq <| W_reg <| L_op (.plain rfl) rfl (ltb rfl) (X_assign (v := (.int .i64 1)) rfl) <| L_nil <| thn_n <| W_seq <| W_reg <| L_op (.plain rfl) rfl (ltb rfl) (X_move (v := v26) (K40 6 rfl)) <| L_op (.plain rfl) rfl (ltb rfl) (X_move (v := (.int .i64 1)) rfl) ?_
        obtain ⟨c56, H⟩ := bif_some H
        obtain ⟨c57, H⟩ := bif_some H
        obtain ⟨c58, H⟩ := bif_some H
        obtain ⟨c59, H⟩ := bif_some H
        refine L_callM2 (.plain rfl) rfl (ltb rfl) rfl Tryz.call28 (laws_markRecordSS.calls (w := w53) (a0 := a0) (a1 := 1) (Own2.ext o27 (Ext.trans (Ext.trans (Ext.trans (Ext.trans e32 e37) e42) e48) e54)) (Own2.hbx o27 (Ext.trans (Ext.trans (Ext.trans (Ext.trans e32 e37) e42) e48) e54)) (of_decide_eq_true c56) (of_decide_eq_true c57) (of_decide_eq_true c58) (of_decide_eq_true c59)) rfl <| fun w60 e61 o62 => L_op (.plain rfl) rfl (ltb rfl) (X_assign (v := (.int .i64 (1 + 5 * (totL a0 : Int)))) rfl) <| L_nil <| thn_n <| W_seq <| W_seq <| W_reg <| L_op (.plain rfl) rfl (ltb rfl) (X_move (v := (.int .i64 (1 + 5 * (totL a0 : Int)))) rfl) <| L_op (.plain rfl) rfl (ltb rfl) (X_lss rfl rfl) <| L_op (.plain rfl) rfl (ltb rfl) (X_move (v := (.bool (decide ((1 + 5 * (totL a0 : Int)) < 0)))) rfl) ?_
        obtain ⟨z64, x65, H⟩ := bind_some H
        refine L_grpE 5 [(52, 57)] 56 (fun q => q = z64) ?_ ?_
        · rcases bif_two x65 with ⟨b62_, H⟩ | ⟨b62_, H⟩
          · refine L_skip rfl rfl (ltb rfl) (congrArg Value.bool b62_) rfl rfl (ltb rfl) <| L_skip rfl rfl (ltb rfl) (congrArg Value.bool b62_) rfl rfl (ltb rfl) <| L_skip rfl rfl (ltb rfl) (congrArg Value.bool b62_) rfl rfl (ltb rfl) <| L_skip rfl rfl (ltb rfl) (congrArg Value.bool b62_) rfl rfl (ltb rfl) <| L_op (.plain rfl) rfl (ltb rfl) (X_pick (b := true) (v := (.bool true)) (congrArg Value.bool b62_) rfl) ?_
            obtain rfl := Option.some.inj H
            exact L_nil <| thn_n ⟨(Kp.upd (Kp.upd (Kp.upd (Kp.upd (Kp.upd (Kp.refl _ _) rfl) rfl) rfl) rfl) rfl), ⟨_, rfl, rfl⟩, (Ext.refl w60)⟩
          · refine L_op (.guard 2 false 51 rfl rfl (ltb rfl) (congrArg Value.bool b62_)) rfl (ltb rfl) (X_move (v := v33) (K40 7 rfl)) <| L_op (.guard 2 false 51 rfl rfl (ltb rfl) (congrArg Value.bool b62_)) rfl (ltb rfl) (X_move (v := v20) (K40 4 rfl)) ?_
            obtain ⟨c64, H⟩ := bif_some H
            refine L_callP (.guard 2 false 51 rfl rfl (ltb rfl) (congrArg Value.bool b62_)) rfl (ltb rfl) rfl Tryz.call21 (laws_eqRecordS.calls (w := w60) (a0 := (squashAllOf a0).1) (a1 := (squashAllOf a0).1) (Ow.rd (Ow.later (Ow.ext o34 (Ext.trans (Ext.trans (Ext.trans e37 e42) e48) e54)) e61 (Ext.refl w24).size)) (Ow.rd (Ow.ext o21 (Ext.gr (Ext.trans (Ext.trans (Ext.trans (Ext.trans (Ext.trans e25 e32) e37) e42) e48) e54) e61 (Ext.refl w18).size))) (of_decide_eq_true c64)) rfl <| fun w65 e66 => L_op (.guard 2 false 51 rfl rfl (ltb rfl) (congrArg Value.bool b62_)) rfl (ltb rfl) (X_not rfl) <| L_op (.plain rfl) rfl (ltb rfl) (X_pick (b := false) (v := (.bool (law_SquashAll.e1 a0))) (congrArg Value.bool b62_) rfl) ?_
            obtain rfl := Option.some.inj H
            exact L_nil <| thn_n ⟨(Kp.upd (Kp.upd (Kp.upd (Kp.upd (Kp.upd (Kp.refl _ _) rfl) rfl) rfl) rfl) rfl), ⟨_, rfl, rfl⟩, e66⟩
        intro s70 w66 z71 K67 hq h68 e69
        rw [hq] at h68; clear hq
        refine L_op (.plain rfl) rfl (ltb rfl) (X_move (v := (.bool z64)) h68) <| L_grp 4 [(58, 62)] 61 (.bool (z64 || (!decide (((squashAllOf a0).2) = ((squashAllOf a0).2))))) ?_ ?_
        · rcases bool_two z64 with b71_ | b71_
          · exact L_skip rfl rfl (ltb rfl) (congrArg Value.bool b71_) rfl rfl (ltb rfl) <| L_skip rfl rfl (ltb rfl) (congrArg Value.bool b71_) rfl rfl (ltb rfl) <| L_skip rfl rfl (ltb rfl) (congrArg Value.bool b71_) rfl rfl (ltb rfl) <| L_op (.plain rfl) rfl (ltb rfl) (X_pick (b := true) (v := (.bool true)) (congrArg Value.bool b71_) rfl) <| L_nil <| thn_n ⟨(Kp.upd (Kp.upd (Kp.upd (Kp.upd (Kp.refl _ _) rfl) rfl) rfl) rfl), (or_t b71_), (Ext.refl w66)⟩
          · exact L_op (.guard 8 false 57 rfl rfl (ltb rfl) (congrArg Value.bool b71_)) rfl (ltb rfl) (X_move (v := (.int .i64 ((squashAllOf a0).2))) ((K67 8 rfl).trans (K40 8 rfl))) <| L_op (.guard 8 false 57 rfl rfl (ltb rfl) (congrArg Value.bool b71_)) rfl (ltb rfl) (X_move (v := (.int .i64 ((squashAllOf a0).2))) ((K67 5 rfl).trans (K40 5 rfl))) <| L_op (.guard 8 false 57 rfl rfl (ltb rfl) (congrArg Value.bool b71_)) rfl (ltb rfl) (X_neq rfl rfl) <| L_op (.plain rfl) rfl (ltb rfl) (X_pick (b := false) (v := (.bool (!decide (((squashAllOf a0).2) = ((squashAllOf a0).2))))) (congrArg Value.bool b71_) rfl) <| L_nil <| thn_n ⟨(Kp.upd (Kp.upd (Kp.upd (Kp.upd (Kp.refl _ _) rfl) rfl) rfl) rfl), (or_f b71_), (Ext.refl w66)⟩
        intro s77 w73 K74 h75 e76
        refine L_nil <| thn_n ?_
        rcases bif_two H with ⟨q78, H⟩ | ⟨q78, H⟩
        · refine W_true (h75.trans (congrArg Value.bool q78)) <| W_seq <| W_reg <| L_op (.plain rfl) rfl (ltb rfl) (X_assign (v := (.bool false)) rfl) <| L_nil <| thn_n <| W_ret <| thn_r <| fin_r ?_
          obtain rfl := Option.some.inj H
          exact fin1 rfl (Ext.trans (Ext.trans (Ext.trans (Ext.trans (Ext.trans e7 e12) e19) (Ext.gr (Ext.trans (Ext.trans (Ext.trans (Ext.trans (Ext.trans e25 e32) e37) e42) e48) e54) e61 (Ext.refl w18).size)) e69) e76)
        · refine W_false (h75.trans (congrArg Value.bool q78)) <| W_skip <| thn_n <| W_seq <| W_reg <| L_op (.plain rfl) rfl (ltb rfl) (X_assign (v := (.int .i64 1)) rfl) <| L_nil <| thn_n <| W_seq <| W_reg <| L_op (.plain rfl) rfl (ltb rfl) (X_move (v := v33) ((K74 7 rfl).trans ((K67 7 rfl).trans (K40 7 rfl)))) <| L_op (.plain rfl) rfl (ltb rfl) (X_move (v := (.int .i64 1)) rfl) ?_
          obtain ⟨c79, H⟩ := bif_some H
          obtain ⟨c80, H⟩ := bif_some H
          obtain ⟨c81, H⟩ := bif_some H
          refine L_callM (.plain rfl) rfl (ltb rfl) rfl Tryz.call33 (laws_markRecordS.calls (w := w73) (a0 := (squashAllOf a0).1) (a1 := 1) (Ow.ext (Ow.later (Ow.ext o34 (Ext.trans (Ext.trans (Ext.trans e37 e42) e48) e54)) e61 (Ext.refl w24).size) (Ext.trans e69 e76)) (Ow.hb o34) (of_decide_eq_true c79) (of_decide_eq_true c80) (of_decide_eq_true c81)) rfl <| fun w82 e83 o84 => L_op (.plain rfl) rfl (ltb rfl) (X_assign (v := (.int .i64 (1 + 5 * (((squashAllOf a0).1).length : Int)))) rfl) <| L_nil <| thn_n <| W_seq <| W_reg <| L_op (.plain rfl) rfl (ltb rfl) (X_assign (v := (.int .i64 1)) rfl) <| L_nil <| thn_n <| W_seq <| W_reg <| L_op (.plain rfl) rfl (ltb rfl) (X_move (v := v33) ((K74 7 rfl).trans ((K67 7 rfl).trans (K40 7 rfl)))) <| L_op (.plain rfl) rfl (ltb rfl) (X_move (v := (.int .i64 1)) rfl) ?_
          obtain ⟨c85, H⟩ := bif_some H
          obtain ⟨c86, H⟩ := bif_some H
          obtain ⟨c87, H⟩ := bif_some H
          refine L_callP (.plain rfl) rfl (ltb rfl) rfl Tryz.call43 (laws_heldRecordS.calls (w := w82) (a0 := (marksR ((squashAllOf a0).1).length 1)) (a1 := 1) (Ow.rd o84) (of_decide_eq_true c85) (of_decide_eq_true c86) (of_decide_eq_true c87)) rfl <| fun w88 e89 => L_op (.plain rfl) rfl (ltb rfl) (X_assign (v := (.int .i64 (heldR (marksR ((squashAllOf a0).1).length 1) 1))) rfl) <| L_nil <| thn_n <| W_seq <| W_seq <| W_reg <| L_op (.plain rfl) rfl (ltb rfl) (X_move (v := (.int .i64 (heldR (marksR ((squashAllOf a0).1).length 1) 1))) rfl) <| L_op (.plain rfl) rfl (ltb rfl) (X_lss rfl rfl) <| L_nil <| thn_n ?_
          rcases bif_two H with ⟨q90, H⟩ | ⟨q90, H⟩
          · refine W_true (congrArg Value.bool q90) <| W_seq <| W_reg <| L_op (.plain rfl) rfl (ltb rfl) (X_assign (v := (.bool false)) rfl) <| L_nil <| thn_n <| W_ret <| thn_r <| fin_r ?_
            obtain rfl := Option.some.inj H
            exact fin1 rfl (Ext.trans (Ext.trans (Ext.trans (Ext.trans e7 e12) e19) (Ext.gr (Ext.trans (Ext.trans (Ext.gr (Ext.trans (Ext.trans (Ext.trans (Ext.trans (Ext.trans e25 e32) e37) e42) e48) e54) e61 (Ext.refl w18).size) e69) e76) e83 e25.size)) e89)
          · refine W_false (congrArg Value.bool q90) <| W_skip <| thn_n <| W_seq <| W_seq <| W_reg <| L_op (.plain rfl) rfl (ltb rfl) (X_move (v := (.int .i64 (heldR (marksR ((squashAllOf a0).1).length 1) 1))) rfl) <| L_op (.plain rfl) rfl (ltb rfl) (X_move (v := (.int .i64 (1 + 5 * (((squashAllOf a0).1).length : Int)))) rfl) <| L_op (.plain rfl) rfl (ltb rfl) (X_neq rfl rfl) <| L_nil <| thn_n ?_
            rcases bif_two H with ⟨q91, H⟩ | ⟨q91, H⟩
            · refine W_true (congrArg Value.bool q91) <| W_seq <| W_reg <| L_op (.plain rfl) rfl (ltb rfl) (X_assign (v := (.bool false)) rfl) <| L_nil <| thn_n <| W_ret <| thn_r <| fin_r ?_
              obtain rfl := Option.some.inj H
              exact fin1 rfl (Ext.trans (Ext.trans (Ext.trans (Ext.trans e7 e12) e19) (Ext.gr (Ext.trans (Ext.trans (Ext.gr (Ext.trans (Ext.trans (Ext.trans (Ext.trans (Ext.trans e25 e32) e37) e42) e48) e54) e61 (Ext.refl w18).size) e69) e76) e83 e25.size)) e89)
            · refine W_false (congrArg Value.bool q91) <| W_skip <| thn_n <| W_seq <| W_reg <| L_op (.plain rfl) rfl (ltb rfl) (X_move (v := v_a0) ((K74 0 rfl).trans ((K67 0 rfl).trans (K40 0 rfl)))) ?_
              obtain ⟨c92, H⟩ := bif_some H
              obtain ⟨c93, H⟩ := bif_some H
              refine L_callOS (.plain rfl) rfl (ltb rfl) rfl Tryz.call25 (laws_toRecordSS.calls (w := w88) (a0 := a0) (Rd2.ext f_a0 (Ext.trans (Ext.trans (Ext.trans (Ext.trans e7 e12) e19) (Ext.gr (Ext.trans (Ext.trans (Ext.gr (Ext.trans (Ext.trans (Ext.trans (Ext.trans (Ext.trans e25 e32) e37) e42) e48) e54) e61 (Ext.refl w18).size) e69) e76) e83 e25.size)) e89)) (of_decide_eq_true c92) (of_decide_eq_true c93)) rfl <| fun v96 w94 e95 o97 => ?_
              obtain ⟨c98, H⟩ := bif_some H
              obtain ⟨c99, H⟩ := bif_some H
              obtain ⟨c100, H⟩ := bif_some H
              refine L_callT (.plain rfl) rfl (ltb rfl) rfl Tryz.call47 (impl_SquashAll.calls (w := w94) (a0 := a0) (GV.ext gv (Ext.trans (Ext.trans (Ext.trans (Ext.trans (Ext.trans e7 e12) e19) (Ext.gr (Ext.trans (Ext.trans (Ext.gr (Ext.trans (Ext.trans (Ext.trans (Ext.trans (Ext.trans e25 e32) e37) e42) e48) e54) e61 (Ext.refl w18).size) e69) e76) e83 e25.size)) e89) e95)) (Own2.rd o97) (of_decide_eq_true c98) (of_decide_eq_true c99) (of_decide_eq_true c100)) rfl <| fun v103 w101 e102 o104 => L_op (.plain rfl) rfl (ltb rfl) (X_move (v := (.tuple #[v103, (.int .i64 ((squashAllOf a0).2))])) rfl) <| L_op (.plain rfl) rfl (ltb rfl) (X_extract (v := v103) rfl rfl) <| L_op (.plain rfl) rfl (ltb rfl) (X_extract (v := (.int .i64 ((squashAllOf a0).2))) rfl rfl) <| L_op (.plain rfl) rfl (ltb rfl) (X_assign (v := v103) rfl) <| L_op (.plain rfl) rfl (ltb rfl) (X_assign (v := (.int .i64 ((squashAllOf a0).2))) rfl) <| L_nil <| thn_n <| W_seq <| W_seq <| W_reg <| L_op (.plain rfl) rfl (ltb rfl) (X_move (v := v103) rfl) <| L_op (.plain rfl) rfl (ltb rfl) (X_move (v := v20) ((K74 4 rfl).trans ((K67 4 rfl).trans (K40 4 rfl)))) ?_
              obtain ⟨c105, H⟩ := bif_some H
              refine L_callP (.plain rfl) rfl (ltb rfl) rfl Tryz.call21 (laws_eqRecordS.calls (w := w101) (a0 := (squashAllOf a0).1) (a1 := (squashAllOf a0).1) (Ow.rd o104) (Ow.rd (Ow.ext o21 (Ext.trans (Ext.trans (Ext.trans (Ext.gr (Ext.trans (Ext.trans (Ext.gr (Ext.trans (Ext.trans (Ext.trans (Ext.trans (Ext.trans e25 e32) e37) e42) e48) e54) e61 (Ext.refl w18).size) e69) e76) e83 e25.size) e89) e95) e102))) (of_decide_eq_true c105)) rfl <| fun w106 e107 => L_op (.plain rfl) rfl (ltb rfl) (X_not rfl) <| L_op (.plain rfl) rfl (ltb rfl) (X_move (v := (.bool (law_SquashAll.e1 a0))) rfl) <| L_grp 4 [(84, 88)] 87 (.bool ((law_SquashAll.e1 a0) || (!decide (((squashAllOf a0).2) = ((squashAllOf a0).2))))) ?_ ?_
              · rcases bool_two (law_SquashAll.e1 a0) with b107_ | b107_
                · exact L_skip rfl rfl (ltb rfl) (congrArg Value.bool b107_) rfl rfl (ltb rfl) <| L_skip rfl rfl (ltb rfl) (congrArg Value.bool b107_) rfl rfl (ltb rfl) <| L_skip rfl rfl (ltb rfl) (congrArg Value.bool b107_) rfl rfl (ltb rfl) <| L_op (.plain rfl) rfl (ltb rfl) (X_pick (b := true) (v := (.bool true)) (congrArg Value.bool b107_) rfl) <| L_nil <| thn_n ⟨(Kp.upd (Kp.upd (Kp.upd (Kp.upd (Kp.refl _ _) rfl) rfl) rfl) rfl), (or_t b107_), (Ext.refl w106)⟩
                · exact L_op (.guard 4 false 83 rfl rfl (ltb rfl) (congrArg Value.bool b107_)) rfl (ltb rfl) (X_move (v := (.int .i64 ((squashAllOf a0).2))) rfl) <| L_op (.guard 4 false 83 rfl rfl (ltb rfl) (congrArg Value.bool b107_)) rfl (ltb rfl) (X_move (v := (.int .i64 ((squashAllOf a0).2))) ((K74 5 rfl).trans ((K67 5 rfl).trans (K40 5 rfl)))) <| L_op (.guard 4 false 83 rfl rfl (ltb rfl) (congrArg Value.bool b107_)) rfl (ltb rfl) (X_neq rfl rfl) <| L_op (.plain rfl) rfl (ltb rfl) (X_pick (b := false) (v := (.bool (!decide (((squashAllOf a0).2) = ((squashAllOf a0).2))))) (congrArg Value.bool b107_) rfl) <| L_nil <| thn_n ⟨(Kp.upd (Kp.upd (Kp.upd (Kp.upd (Kp.refl _ _) rfl) rfl) rfl) rfl), (or_f b107_), (Ext.refl w106)⟩
              intro s113 w109 K110 h111 e112
              refine L_nil <| thn_n ?_
              rcases bif_two H with ⟨q114, H⟩ | ⟨q114, H⟩
              · refine W_true (h111.trans (congrArg Value.bool q114)) <| W_seq <| W_reg <| L_op (.plain rfl) rfl (ltb rfl) (X_assign (v := (.bool false)) rfl) <| L_nil <| thn_n <| W_ret <| thn_r <| fin_r ?_
                obtain rfl := Option.some.inj H
                exact fin1 rfl (Ext.trans (Ext.trans (Ext.trans (Ext.trans (Ext.trans (Ext.trans (Ext.trans (Ext.trans e7 e12) e19) (Ext.gr (Ext.trans (Ext.trans (Ext.gr (Ext.trans (Ext.trans (Ext.trans (Ext.trans (Ext.trans e25 e32) e37) e42) e48) e54) e61 (Ext.refl w18).size) e69) e76) e83 e25.size)) e89) e95) e102) e107) e112)
              · refine W_false (h111.trans (congrArg Value.bool q114)) <| W_skip <| thn_n <| W_seq <| W_reg <| L_op (.plain rfl) rfl (ltb rfl) (X_assign (v := (.int .i64 1)) rfl) <| L_nil <| thn_n <| W_seq <| W_reg <| L_op (.plain rfl) rfl (ltb rfl) (X_move (v := v33) ((K110 7 rfl).trans ((K74 7 rfl).trans ((K67 7 rfl).trans (K40 7 rfl))))) <| L_op (.plain rfl) rfl (ltb rfl) (X_move (v := (.int .i64 1)) rfl) ?_
                obtain ⟨c115, H⟩ := bif_some H
                obtain ⟨c116, H⟩ := bif_some H
                obtain ⟨c117, H⟩ := bif_some H
                refine L_callP (.plain rfl) rfl (ltb rfl) rfl Tryz.call43 (laws_heldRecordS.calls (w := w109) (a0 := (marksR ((squashAllOf a0).1).length 1)) (a1 := 1) (Ow.rd (Ow.ext o84 (Ext.trans (Ext.trans (Ext.trans (Ext.trans e89 e95) e102) e107) e112))) (of_decide_eq_true c115) (of_decide_eq_true c116) (of_decide_eq_true c117)) rfl <| fun w118 e119 => L_op (.plain rfl) rfl (ltb rfl) (X_assign (v := (.int .i64 (heldR (marksR ((squashAllOf a0).1).length 1) 1))) rfl) <| L_nil <| thn_n <| W_seq <| W_seq <| W_reg <| L_op (.plain rfl) rfl (ltb rfl) (X_move (v := (.int .i64 (heldR (marksR ((squashAllOf a0).1).length 1) 1))) rfl) <| L_op (.plain rfl) rfl (ltb rfl) (X_lss rfl rfl) <| L_nil <| thn_n ?_
                rcases bif_two H with ⟨q120, H⟩ | ⟨q120, H⟩
                · refine W_true (congrArg Value.bool q120) <| W_seq <| W_reg <| L_op (.plain rfl) rfl (ltb rfl) (X_assign (v := (.bool false)) rfl) <| L_nil <| thn_n <| W_ret <| thn_r <| fin_r ?_
                  obtain rfl := Option.some.inj H
                  exact fin1 rfl (Ext.trans (Ext.trans (Ext.trans (Ext.trans (Ext.trans (Ext.trans (Ext.trans (Ext.trans (Ext.trans e7 e12) e19) (Ext.gr (Ext.trans (Ext.trans (Ext.gr (Ext.trans (Ext.trans (Ext.trans (Ext.trans (Ext.trans e25 e32) e37) e42) e48) e54) e61 (Ext.refl w18).size) e69) e76) e83 e25.size)) e89) e95) e102) e107) e112) e119)
                · refine W_false (congrArg Value.bool q120) <| W_skip <| thn_n <| W_seq <| W_seq <| W_reg <| L_op (.plain rfl) rfl (ltb rfl) (X_move (v := (.int .i64 (heldR (marksR ((squashAllOf a0).1).length 1) 1))) rfl) <| L_op (.plain rfl) rfl (ltb rfl) (X_move (v := (.int .i64 (1 + 5 * (((squashAllOf a0).1).length : Int)))) (K110 10 rfl)) <| L_op (.plain rfl) rfl (ltb rfl) (X_neq rfl rfl) <| L_nil <| thn_n ?_
                  rcases bif_two H with ⟨q121, H⟩ | ⟨q121, H⟩
                  · refine W_true (congrArg Value.bool q121) <| W_seq <| W_reg <| L_op (.plain rfl) rfl (ltb rfl) (X_assign (v := (.bool false)) rfl) <| L_nil <| thn_n <| W_ret <| thn_r <| fin_r ?_
                    obtain rfl := Option.some.inj H
                    exact fin1 rfl (Ext.trans (Ext.trans (Ext.trans (Ext.trans (Ext.trans (Ext.trans (Ext.trans (Ext.trans (Ext.trans e7 e12) e19) (Ext.gr (Ext.trans (Ext.trans (Ext.gr (Ext.trans (Ext.trans (Ext.trans (Ext.trans (Ext.trans e25 e32) e37) e42) e48) e54) e61 (Ext.refl w18).size) e69) e76) e83 e25.size)) e89) e95) e102) e107) e112) e119)
                  · refine W_false (congrArg Value.bool q121) <| W_skip <| thn_n <| W_seq <| W_reg <| L_op (.plain rfl) rfl (ltb rfl) (X_assign (v := (.bool true)) rfl) <| L_nil <| thn_n <| W_ret <| fin_r ?_
                    obtain rfl := Option.some.inj H
                    exact fin1 rfl (Ext.trans (Ext.trans (Ext.trans (Ext.trans (Ext.trans (Ext.trans (Ext.trans (Ext.trans (Ext.trans e7 e12) e19) (Ext.gr (Ext.trans (Ext.trans (Ext.gr (Ext.trans (Ext.trans (Ext.trans (Ext.trans (Ext.trans e25 e32) e37) e42) e48) e54) e61 (Ext.refl w18).size) e69) e76) e83 e25.size)) e89) e95) e102) e107) e112) e119)
theorem law_SquashAll.calls {w : World} {a0 : List (List Rec)} (gv : GV 0 w) {v_a0 : Value} (f_a0 : Rd2 5 encRec w v_a0 a0) (h0 : ∀ l ∈ a0, ∀ x ∈ l, okRec x) (h1 : a0.length ≤ 9223372036854775807) (h2 : ∀ l ∈ a0, l.length ≤ 9223372036854775807) :
    Calls Tryz.prog 10 #[v_a0] w (Rt (RP w (.bool true))) := law_SquashAll.walk gv f_a0 (law_SquashAll.eq a0 h0 h1 h2)
end Go.Proofs.YthpjkenkbfkdhaaGreatDoor
