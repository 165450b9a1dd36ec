/- The walks, by program (wip/tools). -/
import Derived.Test.YthpjkenkbfkdhaaGreatDoorProg
import Derived.Test.YthpjkenkbfkdhaaGreatDoorKI
import Derived.Test.YthpjkenkbfkdhaaGreatDoorJWB
set_option linter.unusedVariables false
set_option maxRecDepth 10000
namespace Go.Proofs.YthpjkenkbfkdhaaGreatDoor
open Go.UL Go.RowKit
/-! impl.winner -/
abbrev impl_winner.e1 (a0 : List (List Rec)) (a1 : List UInt8) (x10_23 : Int) := (gt (gt a0 (IntKind.wrap .i64 (x10_23 - 1))) (findR (gt a0 (IntKind.wrap .i64 (x10_23 - 1))) a1))
theorem impl_winner.walk {k : Nat} {w : World} {a0 : List (List Rec)} {a1 : List UInt8} {v_a0 : Value} (f_a0 : Rd2 5 encRec w v_a0 a0) {r : Rec × Int × Bool} (H : impl_winner.sh k a0 a1 = some r) :
    Calls Tryz.prog 97 #[v_a0, S a1] w (Rt (RP w (.tuple #[.agg (encRec r.1).toArray, .int .i64 r.2.1, .bool r.2.2]))) := by
  unfold impl_winner.sh at H
  refine calls_of_WG Tryz.func97 rfl (Nat.le_of_ble_eq_true rfl) Tryz.ntmps97 ?_
  refine W_seq <| W_reg <| L_alloc (.plain rfl) rfl (ltb rfl) rfl Tryz.zeroValue78 <| fun b1 w2 z3 z4 e5 k6 => L_op (.plain rfl) rfl (ltb rfl) (X_assign (v := (.int .i64 0)) rfl) <| L_op (.plain rfl) rfl (ltb rfl) (X_assign (v := (.bool false)) rfl) <| L_nil <| thn_n <| W_seq <| W_reg <| L_op (.plain rfl) rfl (ltb rfl) (X_build1 (vs := []) (pl := #[(0, 1), (1, 1), (2, 1), (3, 1), (4, 1)]) Tryz.underlying78 Tryz.zeroValue78 rfl (fun _ => by kernel_rfl) rfl rfl rfl) <| L_alloc (.plain rfl) rfl (ltb rfl) rfl Tryz.zeroValue78 <| fun b7 w8 z9 z10 e11 k12 => L_storeA (.plain rfl) rfl rfl Tryz.sizeOf78 rfl rfl rfl rfl rfl k12 <| fun w13 h14 k15 => L_op (.plain rfl) rfl (ltb rfl) (X_assign (v := (.int .i64 0)) rfl) <| L_op (.plain rfl) rfl (ltb rfl) (X_assign (v := (.bool false)) rfl) <| L_nil <| thn_n <| W_seq <| W_seq <| W_reg <| L_op (.plain rfl) rfl (ltb rfl) (X_move (v := v_a0) rfl) <| L_op (.plain rfl) rfl (ltb rfl) (X_move (v := (S a1)) rfl) ?_
  obtain ⟨c16, H⟩ := bif_some H
  obtain ⟨c17, H⟩ := bif_some H
  obtain ⟨c18, H⟩ := bif_some H
  refine L_callP (.plain rfl) rfl (ltb rfl) rfl Tryz.call147 (impl_cutDepth.calls (w := w13) (a0 := a0) (a1 := a1) (Rd2.ext f_a0 (Ext.trans e5 (Below.trans e11 (Wr.below h14 (Nat.le_of_eq z9))))) (of_decide_eq_true c16) (of_decide_eq_true c17) (of_decide_eq_true c18)) rfl <| fun w19 e20 => L_op (.plain rfl) rfl (ltb rfl) (X_max rfl rfl) <| L_op (.plain rfl) rfl (ltb rfl) (X_assign (v := (.int .i64 (if ((cutD a0 a1) < 1 : Prop) then 1 else (cutD a0 a1)))) rfl) <| L_nil <| thn_n ?_
  obtain ⟨z25, L26, C27⟩ := bind_some H
  clear H
  refine  W_cutQ (fun s0 sQ wQ => ∃ (x8_28 : Int) (x9_29 : Bool) (y30 : Rec), Kp [(8, 12), (17, 46)] s0 sQ ∧ sQ 8 = .int .i64 x8_28 ∧ sQ 9 = .bool x9_29 ∧ Blk wQ b7 (encRec y30).toArray 78 ∧ Ext w2 wQ ∧ z25 = .inr (x8_28, x9_29, y30)) ?_ ?_
  · refine W_block <| W_loopI (fun s0 kk sQ wQ => ∃ (x8_21 : Int) (x9_22 : Bool) (x10_23 : Int) (y24 : Rec), Kp [(8, 12), (17, 46)] s0 sQ ∧ sQ 8 = .int .i64 x8_21 ∧ sQ 9 = .bool x9_22 ∧ sQ 10 = .int .i64 x10_23 ∧ Blk wQ b7 (encRec y24).toArray 78 ∧ Ext w2 wQ ∧ loopF (impl_winner.b1 a0 a1) kk (x8_21, x9_22, x10_23, y24) = some z25) k ⟨0, false, (if ((cutD a0 a1) < 1 : Prop) then 1 else (cutD a0 a1)), (⟨0, ([] : List UInt8), ([] : List UInt8), 0, false⟩ : Rec), (Kp.refl _ _), rfl, rfl, rfl, (Blk.ext k15 e20), (Ext.trans (Below.trans e11 (Wr.below h14 (Nat.le_of_eq z9))) e20), L26⟩ ?_
    rintro k35 s36 w37 ⟨x8_21, x9_22, x10_23, y24, K38, h41, h42, h43, h44, e39, L40⟩
    cases k35 with
    | zero => exact absurd L40 (by simp [loopF])
    | succ k35 =>
      obtain ⟨t45, H, S46⟩ := loopF_succ L40
      clear L40
      unfold impl_winner.b1 at H
      refine W_seq <| W_seq <| W_reg <| L_op (.plain rfl) rfl (ltb rfl) (X_move (v := (.int .i64 x10_23)) h43) <| L_op (.plain rfl) rfl (ltb rfl) (X_move (v := v_a0) (K38 0 rfl)) <| L_op (.plain rfl) rfl (ltb rfl) (X_lenR2 Tryz.underlying39 rfl (Rd2.ext f_a0 (Ext.trans e5 e39))) <| L_op (.plain rfl) rfl (ltb rfl) (X_leq rfl rfl) <| L_nil <| thn_n ?_
      rcases bif_two H with ⟨q47, H⟩ | ⟨q47, H⟩
      · refine W_true (congrArg Value.bool q47) <| W_skip <| thn_n <| W_seq <| W_block <| W_seq <| W_reg <| L_op (.plain rfl) rfl (ltb rfl) (X_move (v := v_a0) (K38 0 rfl)) <| L_op (.plain rfl) rfl (ltb rfl) (X_move (v := (.int .i64 x10_23)) h43) <| L_op (.plain rfl) rfl (ltb rfl) (X_sub rfl rfl) ?_
        obtain ⟨c48, H⟩ := bif_some H
        refine L_idx2 (.plain rfl) rfl (ltb rfl) rfl Tryz.underlying39 Tryz.sizeOf28 rfl (Rd2.ext f_a0 (Ext.trans e5 e39)) rfl c48 <| fun p49 v51 h50 h52 => L_op (.plain rfl) rfl (ltb rfl) (X_loadAt Tryz.isAgg28 rfl h50 rfl) <| L_op (.plain rfl) rfl (ltb rfl) (X_move (v := (S a1)) (K38 1 rfl)) ?_
        obtain ⟨c53, H⟩ := bif_some H
        refine L_callP (.plain rfl) rfl (ltb rfl) rfl Tryz.call105 (impl_find.calls (w := w37) (a0 := gt a0 (IntKind.wrap .i64 (x10_23 - 1))) (a1 := a1) h52 (of_decide_eq_true c53)) rfl <| fun w54 e55 => L_op (.plain rfl) rfl (ltb rfl) (X_assign (v := (.int .i64 (findR (gt a0 (IntKind.wrap .i64 (x10_23 - 1))) a1))) rfl) <| L_nil <| thn_n <| W_seq <| W_reg <| L_op (.plain rfl) rfl (ltb rfl) (X_move (v := (.int .i64 (findR (gt a0 (IntKind.wrap .i64 (x10_23 - 1))) a1))) rfl) <| L_op (.plain rfl) rfl (ltb rfl) (X_geq rfl rfl) <| L_nil <| thn_n ?_
        rcases bif_two H with ⟨q56, H⟩ | ⟨q56, H⟩
        · refine W_true (congrArg Value.bool q56) <| W_seq <| W_reg <| L_op (.plain rfl) rfl (ltb rfl) (X_move (v := v_a0) (K38 0 rfl)) <| L_op (.plain rfl) rfl (ltb rfl) (X_move (v := (.int .i64 x10_23)) h43) <| L_op (.plain rfl) rfl (ltb rfl) (X_sub rfl rfl) ?_
          obtain ⟨c57, H⟩ := bif_some H
          refine L_idx2 (.plain rfl) rfl (ltb rfl) rfl Tryz.underlying39 Tryz.sizeOf28 rfl (Rd2.ext f_a0 (Ext.trans (Ext.trans e5 e39) e55)) rfl c57 <| fun p58 v60 h59 h61 => L_op (.plain rfl) rfl (ltb rfl) (X_loadAt Tryz.isAgg28 rfl h59 rfl) <| L_op (.plain rfl) rfl (ltb rfl) (X_move (v := (.int .i64 (findR (gt a0 (IntKind.wrap .i64 (x10_23 - 1))) a1))) rfl) ?_
          obtain ⟨c62, H⟩ := bif_some H
          refine L_idx (.plain rfl) rfl (ltb rfl) rfl Tryz.underlying28 Tryz.sizeOf78 rfl h61 rfl c62 <| fun p63 h64 => L_op (.plain rfl) rfl (ltb rfl) (X_loadS Tryz.isAgg78 Tryz.sizeOf78 rfl rfl h64) <| L_op (.plain rfl) rfl (ltb rfl) (X_move (v := (.int .i64 x10_23)) h43) <| L_storeA (.plain rfl) rfl rfl Tryz.sizeOf78 (K38 7 rfl) rfl rfl rfl rfl (Blk.ext h44 e55) <| fun w65 h66 k67 => L_op (.plain rfl) rfl (ltb rfl) (X_assign (v := (.int .i64 x10_23)) rfl) <| L_nil <| thn_n <| W_reg <| L_op (.plain rfl) rfl (ltb rfl) (X_move (v := (.bool x9_22)) h42) <| L_op (.plain rfl) rfl (ltb rfl) (X_move (v := (.bool x9_22)) rfl) <| L_grp 3 [(43, 46)] 45 (.bool (x9_22 || (stopsR (impl_winner.e1 a0 a1 x10_23)))) ?_ ?_
          · rcases bool_two x9_22 with b67_ | b67_
            · exact L_skip rfl rfl (ltb rfl) (congrArg Value.bool b67_) rfl rfl (ltb rfl) <| L_skip rfl rfl (ltb rfl) (congrArg Value.bool b67_) rfl rfl (ltb rfl) <| L_op (.plain rfl) rfl (ltb rfl) (X_pick (b := true) (v := (.bool true)) (congrArg Value.bool b67_) rfl) <| L_nil <| thn_n ⟨(Kp.upd (Kp.upd (Kp.upd (Kp.refl _ _) rfl) rfl) rfl), (or_t b67_), (Ext.refl w65)⟩
            · exact L_op (.guard 1 false 42 rfl rfl (ltb rfl) (congrArg Value.bool b67_)) rfl (ltb rfl) (X_loadS Tryz.isAgg78 Tryz.sizeOf78 rfl (K38 7 rfl) (Blk.at0 k67)) <| L_callP (.guard 1 false 42 rfl rfl (ltb rfl) (congrArg Value.bool b67_)) rfl (ltb rfl) rfl Tryz.call133 (impl_stops.calls (w := w65) (a0 := (impl_winner.e1 a0 a1 x10_23))) rfl <| fun w69 e70 => L_op (.plain rfl) rfl (ltb rfl) (X_pick (b := false) (v := (.bool (stopsR (impl_winner.e1 a0 a1 x10_23)))) (congrArg Value.bool b67_) rfl) <| L_nil <| thn_n ⟨(Kp.upd (Kp.upd (Kp.upd (Kp.refl _ _) rfl) rfl) rfl), (or_f b67_), e70⟩
          intro s73 w69 K70 h71 e72
          refine L_op (.plain rfl) rfl (ltb rfl) (X_assign h71) <| L_nil <| blk_n <| thn_n <| W_reg <| L_op (.plain rfl) rfl (ltb rfl) (X_move (v := (.int .i64 x10_23)) ((K70 10 rfl).trans h43)) <| L_op (.plain rfl) rfl (ltb rfl) (X_add rfl rfl) <| L_op (.plain rfl) rfl (ltb rfl) (X_assign (v := (.int .i64 (IntKind.wrap .i64 (x10_23 + 1)))) rfl) <| L_nil <| thn_n ?_
          obtain rfl := Option.some.inj H
          exact ⟨_, Nat.lt_succ_self _, x10_23, (x9_22 || (stopsR (impl_winner.e1 a0 a1 x10_23))), IntKind.wrap .i64 (x10_23 + 1), (impl_winner.e1 a0 a1 x10_23), (Kp.upd (Kp.upd (Kp.upd (Kp.upd (Kp.cut (Kp.upd (Kp.upd (Kp.upd (Kp.upd (Kp.upd (Kp.upd (Kp.upd (Kp.upd (Kp.upd (Kp.upd (Kp.upd (Kp.upd (Kp.upd (Kp.upd (Kp.upd (Kp.upd (Kp.upd (Kp.upd (Kp.upd (Kp.upd (Kp.upd (Kp.upd (Kp.upd (Kp.upd (Kp.upd (Kp.upd K38 rfl) rfl) rfl) rfl) rfl) rfl) rfl) rfl) rfl) rfl) rfl) rfl) rfl) rfl) rfl) rfl) rfl) rfl) rfl) rfl) rfl) rfl) rfl) rfl) rfl) rfl) K70 rfl) rfl) rfl) rfl) rfl), (K70 8 rfl), rfl, rfl, (Blk.ext k67 e72), (Ext.trans (Below.trans (Ext.trans e39 e55) (Wr.below h66 (Nat.le_of_eq z9))) e72), S46⟩
        · refine W_false (congrArg Value.bool q56) <| W_skip <| blk_n <| thn_n <| W_reg <| L_op (.plain rfl) rfl (ltb rfl) (X_move (v := (.int .i64 x10_23)) h43) <| L_op (.plain rfl) rfl (ltb rfl) (X_add rfl rfl) <| L_op (.plain rfl) rfl (ltb rfl) (X_assign (v := (.int .i64 (IntKind.wrap .i64 (x10_23 + 1)))) rfl) <| L_nil <| thn_n ?_
          obtain rfl := Option.some.inj H
          exact ⟨_, Nat.lt_succ_self _, x8_21, x9_22, IntKind.wrap .i64 (x10_23 + 1), y24, (Kp.upd (Kp.upd (Kp.upd (Kp.upd (Kp.upd (Kp.upd (Kp.upd (Kp.upd (Kp.upd (Kp.upd (Kp.upd (Kp.upd (Kp.upd (Kp.upd (Kp.upd (Kp.upd (Kp.upd K38 rfl) rfl) rfl) rfl) rfl) rfl) rfl) rfl) rfl) rfl) rfl) rfl) rfl) rfl) rfl) rfl) rfl), h41, h42, rfl, (Blk.ext h44 e55), (Ext.trans e39 e55), S46⟩
      · refine W_false (congrArg Value.bool q47) <| W_exit <| thn_x <| thn_x <| blk_x <| thn_n ?_
        obtain rfl := Option.some.inj H
        obtain rfl := Option.some.inj S46
        exact ⟨x8_21, x9_22, y24, (Kp.upd (Kp.upd (Kp.upd (Kp.upd K38 rfl) rfl) rfl) rfl), h41, h42, h44, e39, rfl⟩
  · rintro s32 w31 ⟨x8_28, x9_29, y30, K33, h74, h75, h76, e34, y77⟩
    rw [y77] at C27
    have H := C27
    replace H : _ = some _ := H
    refine thn_n <| W_seq <| W_seq <| W_reg <| L_op (.plain rfl) rfl (ltb rfl) (X_fieldAddr Tryz.underlying78 rfl Tryz.sizeOf3 rfl (K33 7 rfl)) <| L_op (.plain rfl) rfl (ltb rfl) (X_loadB Tryz.isAgg3 h76 rfl rfl) <| L_op (.plain rfl) rfl (ltb rfl) (X_eql rfl rfl) <| L_nil <| thn_n ?_
    rcases bif_two H with ⟨q78, H⟩ | ⟨q78, H⟩
    · refine W_true (congrArg Value.bool q78) <| W_reg <| L_op (.plain rfl) rfl (ltb rfl) (X_move (v := (.bool x9_29)) h75) <| L_op (.plain rfl) rfl (ltb rfl) (X_fieldAddr Tryz.underlying78 rfl Tryz.sizeOf4 rfl (K33 7 rfl)) <| L_store1 (.plain rfl) rfl rfl Tryz.sizeOf4 rfl rfl rfl h76 (ltb rfl) <| fun w79 h80 k81 => L_nil <| thn_n <| W_seq <| W_reg <| L_op (.plain rfl) rfl (ltb rfl) (X_loadS Tryz.isAgg78 Tryz.sizeOf78 rfl (K33 7 rfl) (Blk.at0 k81)) <| L_op (.plain rfl) rfl (ltb rfl) (X_move (v := (.int .i64 x8_28)) h74) <| L_op (.plain rfl) rfl (ltb rfl) (X_move (v := (.int .i64 x8_28)) h74) <| L_op (.plain rfl) rfl (ltb rfl) (X_gtr rfl rfl) <| L_storeA (.plain rfl) rfl rfl Tryz.sizeOf78 (K33 4 rfl) rfl rfl rfl rfl (Blk.ext k6 (Below.trans e34 (Wr.below h80 (Nat.le_of_eq z9)))) <| fun w82 h83 k84 => L_op (.plain rfl) rfl (ltb rfl) (X_assign (v := (.int .i64 x8_28)) rfl) <| L_op (.plain rfl) rfl (ltb rfl) (X_assign (v := (.bool (decide (0 < x8_28)))) rfl) <| L_nil <| thn_n <| W_ret <| finG_r ?_
      obtain rfl := Option.some.inj H
      exact finC3 rfl (K33 4 rfl) k84 Tryz.isAgg78 Tryz.sizeOf78 rfl rfl rfl (Below.trans (Ext.trans e5 (Below.trans e34 (Wr.below h80 (Nat.le_of_eq z9)))) (Wr.below h83 (Nat.le_of_eq z3)))
    · refine W_false (congrArg Value.bool q78) <| W_skip <| thn_n <| W_seq <| W_reg <| L_op (.plain rfl) rfl (ltb rfl) (X_loadS Tryz.isAgg78 Tryz.sizeOf78 rfl (K33 7 rfl) (Blk.at0 h76)) <| L_op (.plain rfl) rfl (ltb rfl) (X_move (v := (.int .i64 x8_28)) h74) <| L_op (.plain rfl) rfl (ltb rfl) (X_move (v := (.int .i64 x8_28)) h74) <| L_op (.plain rfl) rfl (ltb rfl) (X_gtr rfl rfl) <| L_storeA (.plain rfl) rfl rfl Tryz.sizeOf78 (K33 4 rfl) rfl rfl rfl rfl (Blk.ext k6 e34) <| fun w85 h86 k87 => L_op (.plain rfl) rfl (ltb rfl) (X_assign (v := (.int .i64 x8_28)) rfl) <| L_op (.plain rfl) rfl (ltb rfl) (X_assign (v := (.bool (decide (0 < x8_28)))) rfl) <| L_nil <| thn_n <| W_ret <| finG_r ?_
      obtain rfl := Option.some.inj H
      exact finC3 rfl (K33 4 rfl) k87 Tryz.isAgg78 Tryz.sizeOf78 rfl rfl rfl (Below.trans (Ext.trans e5 e34) (Wr.below h86 (Nat.le_of_eq z3)))
theorem impl_winner.calls {w : World} {a0 : List (List Rec)} {a1 : List UInt8} {v_a0 : Value} (f_a0 : Rd2 5 encRec w v_a0 a0) (h0 : stackOK a0 = true) (h1 : a0.length ≤ 1048576) (h2 : a1.length ≤ 1048576) (h3 : ∀ l ∈ a0, l.length ≤ 1048576) :
    Calls Tryz.prog 97 #[v_a0, S a1] w (Rt (RP w (.tuple #[.agg (encRec ((winner a0 a1).1)).toArray, .int .i64 ((winner a0 a1).2), .bool (decide ((0 : Int) < (winner a0 a1).2))]))) := by
  obtain ⟨k, h⟩ := impl_winner.eq a0 a1 h0 h1 h2 h3
  exact impl_winner.walk f_a0 h
/-! impl.paths -/
theorem impl_paths.walk {k : Nat} {w : World} {a0 : List (List Rec)} (gv : GV 0 w) {v_a0 : Value} (f_a0 : Rd2 5 encRec w v_a0 a0) {r : List (List UInt8)} (H : impl_paths.sh k a0 = some r) :
    Calls Tryz.prog 85 #[v_a0] w (Rt (RO 9 1 encS w r)) := by
  unfold impl_paths.sh at H
  refine calls_of_W Tryz.func85 rfl (Nat.le_of_ble_eq_true rfl) Tryz.ntmps85 rfl ?_
  refine W_seq <| W_reg <| L_op (.plain rfl) rfl (ltb rfl) (X_assign (v := (.slice none 0 0)) rfl) <| L_nil <| thn_n <| W_seq <| W_reg <| L_lit (.plain rfl) rfl (ltb rfl) rfl Tryz.underlying49 Tryz.sizeOf9 Tryz.zeroValue9 rfl rfl rfl (vs := []) rfl (lit_all rfl) <| fun b1 w2 z3 z4 e5 k6 => L_op (.plain rfl) rfl (ltb rfl) (X_assign (v := (.slice (some ⟨b1, 0, none⟩) 0 0)) rfl) <| L_nil <| thn_n <| W_seq <| W_seq <| W_reg <| L_op (.plain rfl) rfl (ltb rfl) (X_move (v := v_a0) rfl) <| L_op (.plain rfl) rfl (ltb rfl) (X_lenR2 Tryz.underlying39 rfl (Rd2.ext f_a0 e5)) <| L_op (.plain rfl) rfl (ltb rfl) (X_move (v := (.int .i64 0)) rfl) <| L_nil <| thn_n ?_
  obtain ⟨z10, L11, C12⟩ := bind_some H
  clear H
  refine  W_cutQ (fun s0 sQ wQ => ∃ (x3_13 : List (List UInt8)) (v14 : Value), Kp [(3, 4), (5, 6), (7, 8), (11, 28)] s0 sQ ∧ sQ 3 = v14 ∧ Ow 9 1 encS w2.heap.size wQ v14 x3_13 ∧ Ext w2 wQ ∧ z10 = .inr x3_13) ?_ ?_
  · refine W_block <| W_loopI (fun s0 kk sQ wQ => ∃ (x3_7 : List (List UInt8)) (v8 : Value) (x11_9 : Int), Kp [(3, 4), (5, 6), (7, 8), (11, 28)] s0 sQ ∧ sQ 3 = v8 ∧ Ow 9 1 encS w2.heap.size wQ v8 x3_7 ∧ sQ 11 = .int .i64 x11_9 ∧ Ext w2 wQ ∧ loopF (impl_paths.b1 k a0) kk (x3_7, x11_9) = some z10) k ⟨([] : List (List UInt8)), (.slice (some ⟨b1, 0, none⟩) 0 0), 0, (Kp.refl _ _), rfl, (Ow.zero), rfl, (Ext.refl w2), L11⟩ ?_
    rintro k19 s20 w21 ⟨x3_7, v8, x11_9, K22, h25, h26, h27, e23, L24⟩
    cases k19 with
    | zero => exact absurd L24 (by simp [loopF])
    | succ k19 =>
      obtain ⟨t28, H, S29⟩ := loopF_succ L24
      clear L24
      unfold impl_paths.b1 at H
      refine W_seq <| W_reg <| L_op (.plain rfl) rfl (ltb rfl) (X_lss h27 (K22 10 rfl)) <| L_nil <| thn_n <| W_seq ?_
      rcases bif_two H with ⟨q30, H⟩ | ⟨q30, H⟩
      · refine W_true (congrArg Value.bool q30) <| W_skip <| thn_n <| W_seq <| W_block <| W_seq <| W_reg ?_
        obtain ⟨c31, H⟩ := bif_some H
        refine L_idx2o (.plain rfl) rfl (ltb rfl) rfl Tryz.underlying39 Tryz.sizeOf28 (K22 9 rfl) f_a0 (Ext.trans e5 e23) h27 c31 <| fun p32 v34 h33 h35 => L_op (.plain rfl) rfl (ltb rfl) (X_loadAt Tryz.isAgg28 rfl h33 rfl) <| L_op (.plain rfl) rfl (ltb rfl) (X_assign (v := v34) rfl) <| L_nil <| thn_n <| W_seq <| W_reg <| L_op (.plain rfl) rfl (ltb rfl) (X_move (v := v34) rfl) <| L_op (.plain rfl) rfl (ltb rfl) (X_lenR Tryz.underlying28 rfl (Rd.ext h35 (Ext.trans e5 e23))) <| L_op (.plain rfl) rfl (ltb rfl) (X_move (v := (.int .i64 0)) rfl) <| L_nil <| thn_n ?_
        obtain ⟨z39, L40, C41⟩ := bind_some H
        clear H
        refine  W_cutQ (fun s0 sQ wQ => ∃ (x3_42 : List (List UInt8)) (v43 : Value), Kp [(3, 4), (7, 8), (17, 27)] s0 sQ ∧ sQ 3 = v43 ∧ Ow 9 1 encS w2.heap.size wQ v43 x3_42 ∧ Ext w2 wQ ∧ z39 = .inr x3_42) ?_ ?_
        · refine W_block <| W_loopI (fun s0 kk sQ wQ => ∃ (x3_36 : List (List UInt8)) (v37 : Value) (x17_38 : Int), Kp [(3, 4), (7, 8), (17, 27)] s0 sQ ∧ sQ 3 = v37 ∧ Ow 9 1 encS w2.heap.size wQ v37 x3_36 ∧ sQ 17 = .int .i64 x17_38 ∧ Ext w2 wQ ∧ loopF (impl_paths.b2 a0 x11_9) kk (x3_36, x17_38) = some z39) k ⟨x3_7, v8, 0, (Kp.refl _ _), h25, h26, rfl, e23, L40⟩ ?_
          rintro k48 s49 w50 ⟨x3_36, v37, x17_38, K51, h54, h55, h56, e52, L53⟩
          cases k48 with
          | zero => exact absurd L53 (by simp [loopF])
          | succ k48 =>
            obtain ⟨t57, H, S58⟩ := loopF_succ L53
            clear L53
            unfold impl_paths.b2 at H
            refine W_seq <| W_reg <| L_op (.plain rfl) rfl (ltb rfl) (X_lss h56 (K51 16 rfl)) <| L_nil <| thn_n <| W_seq ?_
            rcases bif_two H with ⟨q59, H⟩ | ⟨q59, H⟩
            · refine W_true (congrArg Value.bool q59) <| W_skip <| thn_n <| W_seq <| W_block <| W_seq <| W_reg ?_
              obtain ⟨c60, H⟩ := bif_some H
              refine L_idx (.plain rfl) rfl (ltb rfl) rfl Tryz.underlying28 Tryz.sizeOf78 (K51 15 rfl) (Rd.ext h35 (Ext.trans e5 e52)) h56 c60 <| fun p61 h62 => L_op (.plain rfl) rfl (ltb rfl) (X_loadS Tryz.isAgg78 Tryz.sizeOf78 rfl rfl h62) <| L_alloc (.plain rfl) rfl (ltb rfl) rfl Tryz.zeroValue78 <| fun b63 w64 z65 z66 e67 k68 => L_storeA (.plain rfl) rfl rfl Tryz.sizeOf78 rfl rfl rfl rfl rfl k68 <| fun w69 h70 k71 => L_nil <| thn_n <| W_reg <| L_op (.plain rfl) rfl (ltb rfl) (X_move (v := v37) h54) <| L_op (.plain rfl) rfl (ltb rfl) (X_fieldAddr Tryz.underlying78 rfl Tryz.sizeOf9 rfl rfl) <| L_op (.plain rfl) rfl (ltb rfl) (X_loadB Tryz.isAgg9 k71 rfl rfl) <| L_lit (.plain rfl) rfl (ltb rfl) rfl Tryz.underlying49 Tryz.sizeOf9 Tryz.zeroValue9 rfl rfl rfl (vs := [(S ((gt (gt a0 x11_9) x17_38).path))]) rfl (lit_all rfl) <| fun b72 w73 z74 z75 e76 k77 => ?_
              obtain ⟨c78, H⟩ := bif_some H
              refine L_append (enc := encS) (.plain rfl) rfl (ltb rfl) rfl El.t49 rfl rfl (Ow.ext h55 (Ext.trans (Below.trans e67 (Wr.below h70 (Nat.le_of_eq z65))) e76)) (Ow.rd (Ow.new (xs := [(gt (gt a0 x11_9) x17_38).path]) (sz := 1) (enc := encS) (base := w69.heap.size) k77 (Nat.le_of_eq z74) rfl (fun _ _ => by rfl) (Nat.le_of_ble_eq_true rfl))) (ones_S _) (of_decide_eq_true c78) ((Ext.trans (Ext.trans e52 (Below.trans e67 (Wr.below h70 (Nat.le_of_eq z65)))) e76)).size <| fun v79 w80 o81 z82 g83 => L_op (.plain rfl) rfl (ltb rfl) (X_assign (v := v79) rfl) <| L_nil <| blk_n <| thn_n <| W_reg <| L_op (.plain rfl) rfl (ltb rfl) (X_add h56 rfl) <| L_op (.plain rfl) rfl (ltb rfl) (X_move (v := (.int .i64 (IntKind.wrap .i64 (x17_38 + 1)))) rfl) <| L_nil <| thn_n ?_
              obtain rfl := Option.some.inj H
              exact ⟨_, Nat.lt_succ_self _, x3_36 ++ ([(gt (gt a0 x11_9) x17_38).path] : List (List UInt8)), v79, IntKind.wrap .i64 (x17_38 + 1), (Kp.upd (Kp.upd (Kp.upd (Kp.upd (Kp.upd (Kp.upd (Kp.upd (Kp.upd (Kp.upd (Kp.upd (Kp.upd (Kp.upd K51 rfl) rfl) rfl) rfl) rfl) rfl) rfl) rfl) rfl) rfl) rfl) rfl), rfl, o81, rfl, (g83 _ (Ext.trans (Ext.trans e52 (Below.trans e67 (Wr.below h70 (Nat.le_of_eq z65)))) e76)), S58⟩
            · refine W_false (congrArg Value.bool q59) <| W_exit <| thn_x <| thn_x <| blk_x <| thn_n ?_
              obtain rfl := Option.some.inj H
              obtain rfl := Option.some.inj S58
              exact ⟨x3_36, v37, (Kp.upd K51 rfl), h54, h55, e52, rfl⟩
        · rintro s45 w44 ⟨x3_42, v43, K46, h84, h85, e47, y86⟩
          rw [y86] at C41
          have H := C41
          replace H : _ = some _ := H
          refine blk_n <| thn_n <| W_reg <| L_op (.plain rfl) rfl (ltb rfl) (X_add ((K46 11 rfl).trans h27) rfl) <| L_op (.plain rfl) rfl (ltb rfl) (X_move (v := (.int .i64 (IntKind.wrap .i64 (x11_9 + 1)))) rfl) <| L_nil <| thn_n ?_
          obtain rfl := Option.some.inj H
          exact ⟨_, Nat.lt_succ_self _, x3_42, v43, IntKind.wrap .i64 (x11_9 + 1), (Kp.upd (Kp.upd (Kp.cut (Kp.upd (Kp.upd (Kp.upd (Kp.upd (Kp.upd (Kp.upd (Kp.upd K22 rfl) rfl) rfl) rfl) rfl) rfl) rfl) K46 rfl) rfl) rfl), h84, h85, rfl, e47, S29⟩
      · refine W_false (congrArg Value.bool q30) <| W_exit <| thn_x <| thn_x <| blk_x <| thn_n ?_
        obtain rfl := Option.some.inj H
        obtain rfl := Option.some.inj S29
        exact ⟨x3_7, v8, (Kp.upd K22 rfl), h25, h26, e23, rfl⟩
  · rintro s16 w15 ⟨x3_13, v14, K17, h87, h88, e18, y89⟩
    rw [y89] at C12
    have H := C12
    replace H : _ = some _ := H
    refine thn_n <| W_seq <| W_reg <| L_op (.plain rfl) rfl (ltb rfl) (X_move (v := v14) h87) ?_
    obtain ⟨c90, H⟩ := bif_some H
    obtain ⟨c91, H⟩ := bif_some H
    refine L_callA (.plain rfl) rfl (ltb rfl) rfl Tryz.call127 (slices_SortFuncS.calls (w := w15) h88 (GV.ext gv (Ext.trans e5 e18)) (GV.pos (GV.ext gv e5)) (of_decide_eq_true c90) (of_decide_eq_true c91)) rfl <| fun _ w92 A93 => ?_
    obtain ⟨rfl, B94, ys95, p96, q97, o98⟩ := A93
    refine L_nil <| thn_n <| W_seq <| W_reg <| L_op (.plain rfl) rfl (ltb rfl) (X_move (v := v14) h87) <| L_callA (.plain rfl) rfl (ltb rfl) rfl Tryz.call129 (slices_CompactS.calls (w := w92) o98 p96 q97) rfl <| fun v103 w99 A100 => ?_
    obtain ⟨B101, o102⟩ := A100
    refine L_op (.plain rfl) rfl (ltb rfl) (X_assign (v := v103) rfl) <| L_nil <| thn_n <| W_ret <| fin_r ?_
    obtain rfl := Option.some.inj H
    exact fin1o rfl (Ext.trans e5 (B101 _ (B94 _ e18))) o102 (e5).size
theorem impl_paths.calls {w : World} {a0 : List (List Rec)} (gv : GV 0 w) {v_a0 : Value} (f_a0 : Rd2 5 encRec w v_a0 a0) (h0 : a0.length ≤ 5) (h1 : ∀ l ∈ a0, l.length ≤ 1048576) (h2 : ∀ l ∈ a0, ∀ x ∈ l, x.path.length ≤ 1048576) :
    Calls Tryz.prog 85 #[v_a0] w (Rt (RO 9 1 encS w (pathsL a0))) := by
  obtain ⟨k, h⟩ := impl_paths.eq a0 h0 h1 h2
  exact impl_paths.walk gv f_a0 h
/-! laws.markRecordSS, by text -/
theorem laws_markRecordSS.calls {w : World} {a0 : List (List Rec)} {a1 : Int} {v_a0 : Value} {B T : Nat} (o_a0 : Own2 28 78 5 encRec B w v_a0 a0) (l_a0 : HB2 w v_a0 T) (h0 : a0.length ≤ 1048576) (h1 : ∀ l ∈ a0, l.length ≤ 1048576) (h2 : (0 : Int) ≤ a1) (h3 : (a1 : Int) ≤ 4611686018427387904 - 5 * (totL a0 : Int)) :
    Calls Tryz.prog 28 #[v_a0, .int .i64 a1] w (Rt (RM2 28 78 5 encRec B T w (.int .i64 (a1 + 5 * (totL a0 : Int))) v_a0 (marksSS a0 a1))) := by
  refine calls_of_W Tryz.func28 rfl (Nat.le_of_ble_eq_true rfl) Tryz.ntmps28 rfl ?_
  refine W_seq <| W_reg <| L_op (.plain rfl) rfl (ltb rfl) (X_assign (v := (.int .i64 0)) rfl) <| L_nil <| thn_n <| W_seq <| W_seq <| W_reg <| L_op (.plain rfl) rfl (ltb rfl) (X_assign (v := (.int .i64 0)) rfl) <| L_nil <| thn_n ?_
  refine W_cutQ (fun s0 σ W => σ 1 = .int .i64 (a1 + 5 * (totL a0 : Int)) ∧ Gr B T w W ∧ Own2 28 78 5 encRec B W v_a0 (marksSS a0 a1)) ?_ ?_
  · refine W_block <| W_loopI (fun s0 m σ W => ∃ (D R : List (List Rec)) (k : Int), m = R.length ∧ σ 0 = v_a0 ∧ σ 5 = .int .i64 (D.length : Int) ∧ σ 1 = .int .i64 k ∧ D.length + R.length = a0.length ∧ Gr B T w W ∧ Own2 28 78 5 encRec B W v_a0 (D ++ R) ∧ HB2 W v_a0 T ∧ (∀ l ∈ R, l.length ≤ 1048576) ∧ 0 ≤ k ∧ k + 5 * (totL R : Int) = a1 + 5 * (totL a0 : Int) ∧ D ++ marksSS R k = marksSS a0 a1) a0.length
      ⟨[], a0, a1, rfl, rfl, rfl, rfl, by simp, Gr.refl _ _ _, o_a0, l_a0, h1, h2, rfl, rfl⟩ ?_
    rintro m s1 W1 ⟨D, R, k, rfl, q0, q5, q1, hl, hg, hO, hH, hR, hk0, hk, hf⟩
    refine W_seq <| W_seq <| W_reg <| L_op (.plain rfl) rfl (ltb rfl) (X_move q5) <| L_op (.plain rfl) rfl (ltb rfl) (X_move q0) <| L_op (.plain rfl) rfl (ltb rfl) (X_lenR2 Tryz.underlying39 rfl hO.rd) <| L_op (.plain rfl) rfl (ltb rfl) (X_lss rfl rfl) <| L_nil <| thn_n ?_
    cases R with
    | nil =>
      refine W_false (congrArg Value.bool (decide_eq_false (by simp))) <| W_exit <| thn_x <| thn_x <| blk_x <| thn_n ?_
      have hkk : k = a1 + 5 * (totL a0 : Int) := by simpa [totL] using hk
      refine ⟨by rw [← hkk]; exact q1, hg, ?_⟩
      rw [← hf]
      exact hO
    | cons l R =>
      obtain ⟨vs, u, lo, hi, hv, hvl, hu, ho, hh, hsub, hback⟩ := hO.inner hH
      have hlt : D.length < vs.length := by rw [hvl]; simp
      haveI : Inhabited Value := ⟨undef⟩
      have hgu : gt vs (D.length : Int) = u := by
        rw [getD_gt, getD_el hlt]
        rw [List.getElem?_eq_getElem hlt] at hu
        exact Option.some.inj hu
      have htot : totL (l :: R) = l.length + totL R := by simp [totL]
      rw [htot] at hk
      have hll := hR l (by simp)
      refine W_true (congrArg Value.bool (decide_eq_true (by simp; omega))) <| W_skip <| thn_n <| W_seq <| W_block <| W_reg <| L_op (.plain rfl) rfl (ltb rfl) (X_move q0) <| L_op (.plain rfl) rfl (ltb rfl) (X_move q5) <|
        L_idx (xs := vs) (.plain rfl) rfl (ltb rfl) rfl Tryz.underlying39 Tryz.sizeOf28 rfl hv rfl (inR_nat hlt) <| fun p hA => ?_
      rw [hgu] at hA
      refine L_op (.plain rfl) rfl (ltb rfl) (X_loadAt (v := u) Tryz.isAgg28 rfl hA rfl) <| L_op (.plain rfl) rfl (ltb rfl) (X_move q1) <|
        L_callM (.plain rfl) rfl (ltb rfl) rfl Tryz.call33 (laws_markRecordS.calls (w := W1) (a0 := l) (a1 := k) ho hh (by omega) hk0 (by omega)) rfl <| fun W2 g2 o2 => L_op (.plain rfl) rfl (ltb rfl) (X_assign (v := .int .i64 (k + 5 * (l.length : Int))) rfl) <| L_nil <| blk_n <| thn_n ?_
      obtain ⟨hO2, hH2⟩ := hback W2 (marksR l.length k) g2 o2
      have hw : IntKind.wrap .i64 ((D.length : Int) + 1) = (((D ++ [marksR l.length k]).length : Nat) : Int) := by simp only [List.length_append, List.length_cons, List.length_nil]; rw [Int.natCast_add]; exact Go.UL.wrap_small (by omega) (by simp at hl; omega)
      refine W_reg <| L_op (.plain rfl) rfl (ltb rfl) (X_move q5) <| L_op (.plain rfl) rfl (ltb rfl) (X_add rfl rfl) <| L_op (.plain rfl) rfl (ltb rfl) (X_assign (v := .int .i64 (((D ++ [marksR l.length k]).length : Nat) : Int)) (congrArg (Value.int .i64) hw)) <| L_nil <| thn_n ?_
      exact ⟨R.length, by simp, D ++ [marksR l.length k], R, k + 5 * (l.length : Int), rfl, q0, rfl, rfl, by simp at hl ⊢; omega, hg.trans (hsub W2 g2), by rw [List.append_assoc]; exact hO2, hH2, fun y hy => hR y (by simp [hy]), by omega, by omega, by rw [List.append_assoc]; exact hf⟩
  · rintro s2 W2 ⟨q1, hg, hO⟩
    refine thn_n <| W_seq <| W_reg <| L_op (.plain rfl) rfl (ltb rfl) (X_move q1) <| L_op (.plain rfl) rfl (ltb rfl) (X_assign (v := .int .i64 (a1 + 5 * (totL a0 : Int))) rfl) <| L_nil <| thn_n <| W_ret <| fin_r ?_
    exact ⟨_, rfl, rfl, hg, hO⟩

/-! spec.l07Paths -/
abbrev spec_l07Paths.e1 (a0 : List (List Rec)) (x3_31 : List (List UInt8)) (x4_9 : Int) (x5_33 : Int) (x7_72 : Int) := ((([] : List (List UInt8)) ++ (sub x3_31 0 x7_72)) ++ ([(gt (gt a0 x4_9) x5_33).path] : List (List UInt8)))
theorem spec_l07Paths.walk {k : Nat} {w : World} {a0 : List (List Rec)} {v_a0 : Value} (f_a0 : Rd2 5 encRec w v_a0 a0) {r : List (List UInt8)} (H : spec_l07Paths.sh k a0 = some r) :
    Calls Tryz.prog 84 #[v_a0] w (Rt (RO 9 1 encS w r)) := by
  unfold spec_l07Paths.sh at H
  refine calls_of_W Tryz.func84 rfl (Nat.le_of_ble_eq_true rfl) Tryz.ntmps84 rfl ?_
  refine W_seq <| W_reg <| L_op (.plain rfl) rfl (ltb rfl) (X_assign (v := (.slice none 0 0)) rfl) <| L_nil <| thn_n <| W_seq <| W_reg <| L_lit (.plain rfl) rfl (ltb rfl) rfl Tryz.underlying49 Tryz.sizeOf9 Tryz.zeroValue9 rfl rfl rfl (vs := []) rfl (lit_all rfl) <| fun b1 w2 z3 z4 e5 k6 => L_op (.plain rfl) rfl (ltb rfl) (X_assign (v := (.slice (some ⟨b1, 0, none⟩) 0 0)) rfl) <| L_nil <| thn_n <| W_seq <| W_seq <| W_reg <| L_op (.plain rfl) rfl (ltb rfl) (X_assign (v := (.int .i64 0)) rfl) <| L_nil <| thn_n ?_
  obtain ⟨z10, L11, C12⟩ := bind_some H
  clear H
  refine  W_cutQ (fun s0 sQ wQ => ∃ (x3_13 : List (List UInt8)) (v14 : Value), Kp [(3, 8), (9, 70)] s0 sQ ∧ sQ 3 = v14 ∧ Ow 9 1 encS w2.heap.size wQ v14 x3_13 ∧ Ext w2 wQ ∧ z10 = .inr x3_13) ?_ ?_
  · refine W_block <| W_loopI (fun s0 kk sQ wQ => ∃ (x3_7 : List (List UInt8)) (v8 : Value) (x4_9 : Int), Kp [(3, 8), (9, 70)] s0 sQ ∧ sQ 3 = v8 ∧ Ow 9 1 encS w2.heap.size wQ v8 x3_7 ∧ sQ 4 = .int .i64 x4_9 ∧ Ext w2 wQ ∧ loopF (spec_l07Paths.b1 k a0) kk (x3_7, x4_9) = some z10) k ⟨([] : List (List UInt8)), (.slice (some ⟨b1, 0, none⟩) 0 0), 0, (Kp.refl _ _), rfl, (Ow.zero), rfl, (Ext.refl w2), L11⟩ ?_
    rintro k19 s20 w21 ⟨x3_7, v8, x4_9, K22, h25, h26, h27, e23, L24⟩
    cases k19 with
    | zero => exact absurd L24 (by simp [loopF])
    | succ k19 =>
      obtain ⟨t28, H, S29⟩ := loopF_succ L24
      clear L24
      unfold spec_l07Paths.b1 at H
      refine W_seq <| W_seq <| W_reg <| L_op (.plain rfl) rfl (ltb rfl) (X_move (v := (.int .i64 x4_9)) h27) <| L_op (.plain rfl) rfl (ltb rfl) (X_move (v := v_a0) (K22 0 rfl)) <| L_op (.plain rfl) rfl (ltb rfl) (X_lenR2 Tryz.underlying39 rfl (Rd2.ext f_a0 (Ext.trans e5 e23))) <| L_op (.plain rfl) rfl (ltb rfl) (X_lss rfl rfl) <| L_nil <| thn_n ?_
      rcases bif_two H with ⟨q30, H⟩ | ⟨q30, H⟩
      · refine W_true (congrArg Value.bool q30) <| W_skip <| thn_n <| W_seq <| W_block <| W_seq <| W_reg <| L_op (.plain rfl) rfl (ltb rfl) (X_assign (v := (.int .i64 0)) rfl) <| L_nil <| thn_n ?_
        obtain ⟨z34, L35, C36⟩ := bind_some H
        clear H
        refine  W_cutQ (fun s0 sQ wQ => ∃ (x3_37 : List (List UInt8)) (v38 : Value), Kp [(3, 4), (5, 8), (15, 70)] s0 sQ ∧ sQ 3 = v38 ∧ Ow 9 1 encS w2.heap.size wQ v38 x3_37 ∧ Ext w21 wQ ∧ z34 = .inr x3_37) ?_ ?_
        · refine W_block <| W_loopI (fun s0 kk sQ wQ => ∃ (x3_31 : List (List UInt8)) (v32 : Value) (x5_33 : Int), Kp [(3, 4), (5, 8), (15, 70)] s0 sQ ∧ sQ 3 = v32 ∧ Ow 9 1 encS w2.heap.size wQ v32 x3_31 ∧ sQ 5 = .int .i64 x5_33 ∧ Ext w21 wQ ∧ loopF (spec_l07Paths.b2 k a0 x4_9) kk (x3_31, x5_33) = some z34) k ⟨x3_7, v8, 0, (Kp.refl _ _), h25, h26, rfl, (Ext.refl w21), L35⟩ ?_
          rintro k43 s44 w45 ⟨x3_31, v32, x5_33, K46, h49, h50, h51, e47, L48⟩
          cases k43 with
          | zero => exact absurd L48 (by simp [loopF])
          | succ k43 =>
            obtain ⟨t52, H, S53⟩ := loopF_succ L48
            clear L48
            unfold spec_l07Paths.b2 at H
            refine W_seq <| W_seq <| W_reg <| L_op (.plain rfl) rfl (ltb rfl) (X_move (v := (.int .i64 x5_33)) h51) <| L_op (.plain rfl) rfl (ltb rfl) (X_move (v := v_a0) ((K46 0 rfl).trans (K22 0 rfl))) <| L_op (.plain rfl) rfl (ltb rfl) (X_move (v := (.int .i64 x4_9)) ((K46 4 rfl).trans h27)) ?_
            obtain ⟨c54, H⟩ := bif_some H
            refine L_idx2 (.plain rfl) rfl (ltb rfl) rfl Tryz.underlying39 Tryz.sizeOf28 rfl (Rd2.ext f_a0 (Ext.trans (Ext.trans e5 e23) e47)) rfl c54 <| fun p55 v57 h56 h58 => L_op (.plain rfl) rfl (ltb rfl) (X_loadAt Tryz.isAgg28 rfl h56 rfl) <| L_op (.plain rfl) rfl (ltb rfl) (X_lenR Tryz.underlying28 rfl h58) <| L_op (.plain rfl) rfl (ltb rfl) (X_lss rfl rfl) <| L_nil <| thn_n ?_
            rcases bif_two H with ⟨q59, H⟩ | ⟨q59, H⟩
            · refine W_true (congrArg Value.bool q59) <| W_skip <| thn_n <| W_seq <| W_block <| W_seq <| W_reg <| L_op (.plain rfl) rfl (ltb rfl) (X_move (v := v_a0) ((K46 0 rfl).trans (K22 0 rfl))) <| L_op (.plain rfl) rfl (ltb rfl) (X_move (v := (.int .i64 x4_9)) ((K46 4 rfl).trans h27)) ?_
              obtain ⟨c60, H⟩ := bif_some H
              refine L_idx2 (.plain rfl) rfl (ltb rfl) rfl Tryz.underlying39 Tryz.sizeOf28 rfl (Rd2.ext f_a0 (Ext.trans (Ext.trans e5 e23) e47)) rfl c60 <| fun p61 v63 h62 h64 => L_op (.plain rfl) rfl (ltb rfl) (X_loadAt Tryz.isAgg28 rfl h62 rfl) <| L_op (.plain rfl) rfl (ltb rfl) (X_move (v := (.int .i64 x5_33)) h51) ?_
              obtain ⟨c65, H⟩ := bif_some H
              refine L_idx (.plain rfl) rfl (ltb rfl) rfl Tryz.underlying28 Tryz.sizeOf78 rfl h64 rfl c65 <| fun p66 h67 => L_op (.plain rfl) rfl (ltb rfl) (X_fieldAddr Tryz.underlying78 rfl Tryz.sizeOf9 rfl rfl) <| L_op (.plain rfl) rfl (ltb rfl) (X_loadF Tryz.isAgg9 (j := 1) h67 rfl rfl) <| L_op (.plain rfl) rfl (ltb rfl) (X_assign (v := (S ((gt (gt a0 x4_9) x5_33).path))) rfl) <| L_nil <| thn_n <| W_seq <| W_reg <| L_op (.plain rfl) rfl (ltb rfl) (X_move (v := v32) h49) <| L_op (.plain rfl) rfl (ltb rfl) (X_lenR Tryz.underlying49 rfl (Ow.rd h50)) <| L_op (.plain rfl) rfl (ltb rfl) (X_assign (v := (.int .i64 (x3_31.length : Int))) rfl) <| L_nil <| thn_n <| W_seq ?_
              obtain ⟨z69, L70, C71⟩ := bind_some H
              clear H
              refine  W_cutQ (fun s0 sQ wQ => ∃ (x7_72 : Int), Kp [(7, 8), (34, 47)] s0 sQ ∧ sQ 7 = .int .i64 x7_72 ∧ Ext w45 wQ ∧ z69 = .inr x7_72) ?_ ?_
              · refine W_block <| W_loopI (fun s0 kk sQ wQ => ∃ (x7_68 : Int), Kp [(7, 8), (34, 47)] s0 sQ ∧ sQ 7 = .int .i64 x7_68 ∧ Ext w45 wQ ∧ loopF (spec_l07Paths.b3 a0 x4_9 x3_31 x5_33) kk x7_68 = some z69) k ⟨(x3_31.length : Int), (Kp.refl _ _), rfl, (Ext.refl w45), L70⟩ ?_
                rintro k77 s78 w79 ⟨x7_68, K80, h83, e81, L82⟩
                cases k77 with
                | zero => exact absurd L82 (by simp [loopF])
                | succ k77 =>
                  obtain ⟨t84, H, S85⟩ := loopF_succ L82
                  clear L82
                  unfold spec_l07Paths.b3 at H
                  refine W_seq <| W_seq <| W_reg <| L_op (.plain rfl) rfl (ltb rfl) (X_move (v := (.int .i64 x7_68)) h83) <| L_op (.plain rfl) rfl (ltb rfl) (X_gtr rfl rfl) <| L_op (.plain rfl) rfl (ltb rfl) (X_move (v := (.bool (decide (0 < x7_68)))) rfl) ?_
                  obtain ⟨z87, x88, H⟩ := bind_some H
                  refine L_grpE 8 [(37, 45)] 44 (fun q => q = z87) ?_ ?_
                  · rcases bif_two x88 with ⟨b85_, H⟩ | ⟨b85_, H⟩
                    · refine L_op (.guard 2 true 36 rfl rfl (ltb rfl) (congrArg Value.bool b85_)) rfl (ltb rfl) (X_move (v := (S ((gt (gt a0 x4_9) x5_33).path))) (K80 6 rfl)) <| L_op (.guard 2 true 36 rfl rfl (ltb rfl) (congrArg Value.bool b85_)) rfl (ltb rfl) (X_move (v := v32) ((K80 3 rfl).trans h49)) <| L_op (.guard 2 true 36 rfl rfl (ltb rfl) (congrArg Value.bool b85_)) rfl (ltb rfl) (X_move (v := (.int .i64 x7_68)) h83) <| L_op (.guard 2 true 36 rfl rfl (ltb rfl) (congrArg Value.bool b85_)) rfl (ltb rfl) (X_sub rfl rfl) ?_
                      obtain ⟨c87, H⟩ := bif_some H
                      refine L_idx (.guard 2 true 36 rfl rfl (ltb rfl) (congrArg Value.bool b85_)) rfl (ltb rfl) rfl Tryz.underlying49 Tryz.sizeOf9 rfl (Ow.rd (Ow.ext h50 e81)) rfl c87 <| fun p88 h89 => L_op (.guard 2 true 36 rfl rfl (ltb rfl) (congrArg Value.bool b85_)) rfl (ltb rfl) (X_loadAt Tryz.isAgg9 rfl h89 rfl) ?_
                      obtain ⟨c90, H⟩ := bif_some H
                      obtain ⟨c91, H⟩ := bif_some H
                      refine L_callP (.guard 2 true 36 rfl rfl (ltb rfl) (congrArg Value.bool b85_)) rfl (ltb rfl) rfl Tryz.call112 (spec_l01Less.calls (w := w79) (a0 := (gt (gt a0 x4_9) x5_33).path) (a1 := gt x3_31 (IntKind.wrap .i64 (x7_68 - 1))) (of_decide_eq_true c90) (of_decide_eq_true c91)) rfl <| fun w92 e93 => L_op (.plain rfl) rfl (ltb rfl) (X_pick (b := true) (v := (.bool (lessL (cut 47 ((gt (gt a0 x4_9) x5_33).path)) (cut 47 (gt x3_31 (IntKind.wrap .i64 (x7_68 - 1))))))) (congrArg Value.bool b85_) rfl) ?_
                      obtain rfl := Option.some.inj H
                      exact L_nil <| thn_n ⟨(Kp.upd (Kp.upd (Kp.upd (Kp.upd (Kp.upd (Kp.upd (Kp.upd (Kp.upd (Kp.refl _ _) rfl) rfl) rfl) rfl) rfl) rfl) rfl) rfl), ⟨_, rfl, rfl⟩, e93⟩
                    · refine L_skip rfl rfl (ltb rfl) (congrArg Value.bool b85_) rfl rfl (ltb rfl) <| L_skip rfl rfl (ltb rfl) (congrArg Value.bool b85_) rfl rfl (ltb rfl) <| L_skip rfl rfl (ltb rfl) (congrArg Value.bool b85_) rfl rfl (ltb rfl) <| L_skip rfl rfl (ltb rfl) (congrArg Value.bool b85_) rfl rfl (ltb rfl) <| L_skip rfl rfl (ltb rfl) (congrArg Value.bool b85_) rfl rfl (ltb rfl) <| L_skip rfl rfl (ltb rfl) (congrArg Value.bool b85_) rfl rfl (ltb rfl) <| L_skip rfl rfl (ltb rfl) (congrArg Value.bool b85_) rfl rfl (ltb rfl) <| L_op (.plain rfl) rfl (ltb rfl) (X_pick (b := false) (v := (.bool false)) (congrArg Value.bool b85_) rfl) ?_
                      obtain rfl := Option.some.inj H
                      exact L_nil <| thn_n ⟨(Kp.upd (Kp.upd (Kp.upd (Kp.upd (Kp.upd (Kp.upd (Kp.upd (Kp.upd (Kp.refl _ _) rfl) rfl) rfl) rfl) rfl) rfl) rfl) rfl), ⟨_, rfl, rfl⟩, (Ext.refl w79)⟩
                  intro s94 w89 z95 K90 hq h91 e92
                  rw [hq] at h91; clear hq
                  refine L_nil <| thn_n ?_
                  rcases bif_two H with ⟨q96, H⟩ | ⟨q96, H⟩
                  · refine W_true (h91.trans (congrArg Value.bool q96)) <| W_skip <| thn_n <| W_block <| W_reg <| L_op (.plain rfl) rfl (ltb rfl) (X_move (v := (.int .i64 x7_68)) ((K90 7 rfl).trans h83)) <| L_op (.plain rfl) rfl (ltb rfl) (X_sub rfl rfl) <| L_op (.plain rfl) rfl (ltb rfl) (X_assign (v := (.int .i64 (IntKind.wrap .i64 (x7_68 - 1)))) rfl) <| L_nil <| blk_n <| thn_n ?_
                    obtain rfl := Option.some.inj H
                    exact ⟨_, Nat.lt_succ_self _, IntKind.wrap .i64 (x7_68 - 1), (Kp.upd (Kp.upd (Kp.upd (Kp.cut (Kp.upd (Kp.upd (Kp.upd K80 rfl) rfl) rfl) K90 rfl) rfl) rfl) rfl), rfl, (Ext.trans e81 e92), S85⟩
                  · refine W_false (h91.trans (congrArg Value.bool q96)) <| W_exit <| thn_x <| thn_x <| blk_x <| thn_n ?_
                    obtain rfl := Option.some.inj H
                    obtain rfl := Option.some.inj S85
                    exact ⟨x7_68, (Kp.cut (Kp.upd (Kp.upd (Kp.upd K80 rfl) rfl) rfl) K90 rfl), ((K90 7 rfl).trans h83), (Ext.trans e81 e92), rfl⟩
              · rintro s74 w73 ⟨x7_72, K75, h97, e76, y98⟩
                rw [y98] at C71
                have H := C71
                replace H : _ = some _ := H
                refine thn_n <| W_seq <| W_reg <| L_op (.plain rfl) rfl (ltb rfl) (X_move (v := (.int .i64 x7_72)) h97) <| L_op (.plain rfl) rfl (ltb rfl) (X_eql rfl rfl) <| L_op (.plain rfl) rfl (ltb rfl) (X_move (v := (.bool (decide (x7_72 = 0)))) rfl) ?_
                obtain ⟨z100, x101, H⟩ := bind_some H
                refine L_grpE 8 [(50, 58)] 57 (fun q => q = z100) ?_ ?_
                · rcases bif_two x101 with ⟨b98_, H⟩ | ⟨b98_, H⟩
                  · refine L_skip rfl rfl (ltb rfl) (congrArg Value.bool b98_) rfl rfl (ltb rfl) <| L_skip rfl rfl (ltb rfl) (congrArg Value.bool b98_) rfl rfl (ltb rfl) <| L_skip rfl rfl (ltb rfl) (congrArg Value.bool b98_) rfl rfl (ltb rfl) <| L_skip rfl rfl (ltb rfl) (congrArg Value.bool b98_) rfl rfl (ltb rfl) <| L_skip rfl rfl (ltb rfl) (congrArg Value.bool b98_) rfl rfl (ltb rfl) <| L_skip rfl rfl (ltb rfl) (congrArg Value.bool b98_) rfl rfl (ltb rfl) <| L_skip rfl rfl (ltb rfl) (congrArg Value.bool b98_) rfl rfl (ltb rfl) <| L_op (.plain rfl) rfl (ltb rfl) (X_pick (b := true) (v := (.bool true)) (congrArg Value.bool b98_) rfl) ?_
                    obtain rfl := Option.some.inj H
                    exact L_nil <| thn_n ⟨(Kp.upd (Kp.upd (Kp.upd (Kp.upd (Kp.upd (Kp.upd (Kp.upd (Kp.upd (Kp.refl _ _) rfl) rfl) rfl) rfl) rfl) rfl) rfl) rfl), ⟨_, rfl, rfl⟩, (Ext.refl w73)⟩
                  · refine L_op (.guard 2 false 49 rfl rfl (ltb rfl) (congrArg Value.bool b98_)) rfl (ltb rfl) (X_move (v := v32) ((K75 3 rfl).trans h49)) <| L_op (.guard 2 false 49 rfl rfl (ltb rfl) (congrArg Value.bool b98_)) rfl (ltb rfl) (X_move (v := (.int .i64 x7_72)) h97) <| L_op (.guard 2 false 49 rfl rfl (ltb rfl) (congrArg Value.bool b98_)) rfl (ltb rfl) (X_sub rfl rfl) ?_
                    obtain ⟨c100, H⟩ := bif_some H
                    refine L_idx (.guard 2 false 49 rfl rfl (ltb rfl) (congrArg Value.bool b98_)) rfl (ltb rfl) rfl Tryz.underlying49 Tryz.sizeOf9 rfl (Ow.rd (Ow.ext h50 e76)) rfl c100 <| fun p101 h102 => L_op (.guard 2 false 49 rfl rfl (ltb rfl) (congrArg Value.bool b98_)) rfl (ltb rfl) (X_loadAt Tryz.isAgg9 rfl h102 rfl) <| L_op (.guard 2 false 49 rfl rfl (ltb rfl) (congrArg Value.bool b98_)) rfl (ltb rfl) (X_move (v := (S ((gt (gt a0 x4_9) x5_33).path))) (K75 6 rfl)) <| L_op (.guard 2 false 49 rfl rfl (ltb rfl) (congrArg Value.bool b98_)) rfl (ltb rfl) (X_sne rfl rfl) <| L_op (.plain rfl) rfl (ltb rfl) (X_pick (b := false) (v := (.bool (!decide ((gt x3_31 (IntKind.wrap .i64 (x7_72 - 1))) = ((gt (gt a0 x4_9) x5_33).path))))) (congrArg Value.bool b98_) rfl) ?_
                    obtain rfl := Option.some.inj H
                    exact L_nil <| thn_n ⟨(Kp.upd (Kp.upd (Kp.upd (Kp.upd (Kp.upd (Kp.upd (Kp.upd (Kp.upd (Kp.refl _ _) rfl) rfl) rfl) rfl) rfl) rfl) rfl) rfl), ⟨_, rfl, rfl⟩, (Ext.refl w73)⟩
                intro s106 w102 z107 K103 hq h104 e105
                rw [hq] at h104; clear hq
                refine L_nil <| thn_n ?_
                rcases bif_two H with ⟨q108, H⟩ | ⟨q108, H⟩
                · refine W_true (h104.trans (congrArg Value.bool q108)) ?_
                  obtain ⟨c115, H⟩ := bif_some H
                  obtain ⟨c118, H⟩ := bif_some H
                  obtain ⟨c130, H⟩ := bif_some H
                  obtain ⟨c136, H⟩ := bif_some H
                  obtain ⟨c139, H⟩ := bif_some H
                  refine W_drawR (B := w102.heap.size) [LEmp, LEq v32, LEq (.int .i64 x7_72), LRdW w102 1 encS (sub x3_31 0 x7_72), LOw 9 1 encS w102.heap.size (([] : List (List UInt8)) ++ (sub x3_31 0 x7_72)), LEq (S ((gt (gt a0 x4_9) x5_33).path)), LRd 1 encS ([(gt (gt a0 x4_9) x5_33).path] : List (List UInt8)), LOw 9 1 encS w102.heap.size (spec_l07Paths.e1 a0 x3_31 x4_9 x5_33 x7_72), LEq v32, LEq (.int .i64 x7_72), LRdW w102 1 encS (sub x3_31 x7_72 (x3_31.length : Int)), LOw 9 1 encS w102.heap.size ((spec_l07Paths.e1 a0 x3_31 x4_9 x5_33 x7_72) ++ (sub x3_31 x7_72 (x3_31.length : Int))), LOw 9 1 encS w102.heap.size ((spec_l07Paths.e1 a0 x3_31 x4_9 x5_33 x7_72) ++ (sub x3_31 x7_72 (x3_31.length : Int)))] [⟨true, true, true, false, []⟩, ⟨true, true, true, false, []⟩, ⟨true, true, true, false, []⟩, ⟨true, true, true, false, [1, 2]⟩, ⟨true, false, true, false, [0, 3]⟩, ⟨true, true, true, false, []⟩, ⟨true, false, true, false, [5]⟩, ⟨false, false, true, false, [4, 6]⟩, ⟨true, true, false, false, []⟩, ⟨true, true, false, false, []⟩, ⟨true, true, false, false, [8, 9]⟩, ⟨false, false, false, false, [7, 10]⟩, ⟨true, false, false, true, [11]⟩] [(7, 0, [4]), (11, 0, [7, 4]), (7, 1, [4, 3]), (11, 1, [7, 4, 3]), (7, 2, [4, 3]), (11, 2, [7, 4, 3]), (7, 3, [4]), (11, 3, [7, 4]), (7, 4, []), (11, 4, [7]), (7, 5, [6]), (11, 5, [7, 6]), (7, 6, []), (11, 6, [7]), (11, 7, []), (12, 7, []), (12, 11, [])] (by kernel_rfl) (by kernel_rfl) (Nat.le_refl _) ⟨⟨LEmp.rig.mono, fun _ => LEmp.rig⟩, ⟨LEq.rig.mono, fun _ => LEq.rig⟩, ⟨LEq.rig.mono, fun _ => LEq.rig⟩, ⟨LRdW.rig.mono, fun _ => LRdW.rig⟩, ⟨LOw.mono, noR⟩, ⟨LEq.rig.mono, fun _ => LEq.rig⟩, ⟨LRd.mono, noR⟩, ⟨LOw.mono, noR⟩, ⟨LEq.rig.mono, fun _ => LEq.rig⟩, ⟨LEq.rig.mono, fun _ => LEq.rig⟩, ⟨LRdW.rig.mono, fun _ => LRdW.rig⟩, ⟨LOw.mono, noR⟩, ⟨LOw.mono, noR⟩, trivial⟩ ⟨?_, ?_, ?_, ?_, ?_, ?_, ?_, ?_, ?_, ?_, ?_, ?_, ?_, trivial⟩ ?_
                  · intro s145 w146 hb147 hx148 hf149 hd150 hu151
                    have e152 : Ext w102 w146 := hx148 rfl
                    exact L_lit (.plain rfl) rfl (ltb rfl) rfl Tryz.underlying49 Tryz.sizeOf9 Tryz.zeroValue9 rfl rfl rfl (vs := []) rfl (lit_all rfl) <| fun b153 w154 z155 z156 e157 k158 => L_nil <| stepS rfl rfl rfl e157 ⟨_, rfl⟩
                  · intro s159 w160 hb161 hx162 hf163 hd164 hu165
                    have e166 : Ext w102 w160 := hx162 rfl
                    exact L_op (.plain rfl) rfl (ltb rfl) (X_move (v := v32) ((hu165 12 rfl).trans ((K103 3 rfl).trans ((K75 3 rfl).trans h49)))) <| L_nil <| stepS rfl rfl rfl (Ext.refl w160) rfl
                  · intro s167 w168 hb169 hx170 hf171 hd172 hu173
                    have e174 : Ext w102 w168 := hx170 rfl
                    exact L_op (.plain rfl) rfl (ltb rfl) (X_move (v := (.int .i64 x7_72)) ((hf171 7 rfl).trans ((K103 7 rfl).trans h97))) <| L_nil <| stepS rfl rfl rfl (Ext.refl w168) rfl
                  · intro s175 w176 hb177 hx178 hf179 hd180 hu181
                    have e182 : Ext w102 w176 := hx178 rfl
                    have d183 : s175 59 = v32 := (hd180 1 rfl)
                    have d184 : s175 60 = (.int .i64 x7_72) := (hd180 2 rfl)
                    have c185 := c115
                    exact L_sub (.plain rfl) rfl (ltb rfl) rfl Tryz.underlying49 Tryz.sizeOf9 d183 (Ow.rd (Ow.ext h50 (Ext.trans e76 e105))) (l := 0) (h := x7_72) rfl ⟨_, d184⟩ c185 <| fun v186 h187 => L_nil <| stepS rfl rfl rfl (Ext.refl w176) h187
                  · intro s188 w189 hb190 hx191 hf192 hd193 hu194
                    have e195 : Ext w102 w189 := hx191 rfl
                    obtain ⟨b196, h197⟩ := (hd193 0 rfl)
                    have d198 : Rd 1 encS w102 (s188 61) (sub x3_31 0 x7_72) := (hd193 3 rfl)
                    have c199 := c118
                    exact L_append (enc := encS) (.plain rfl) rfl (ltb rfl) rfl El.t49 h197 rfl (Ow.zero (base := w189.heap.size) (w := w189)) (Rd.ext d198 e195) (ones_S _) (of_decide_eq_true c199) (Nat.le_refl _) <| fun v200 w201 o202 z203 g204 => L_nil <| stepS rfl rfl rfl (g204 _ (Ext.refl w189)) (Ow.base o202 e195.size)
                  · intro s205 w206 hb207 hx208 hf209 hd210 hu211
                    have e212 : Ext w102 w206 := hx208 rfl
                    exact L_op (.plain rfl) rfl (ltb rfl) (X_move (v := (S ((gt (gt a0 x4_9) x5_33).path))) ((hf209 6 rfl).trans ((K103 6 rfl).trans (K75 6 rfl)))) <| L_nil <| stepS rfl rfl rfl (Ext.refl w206) rfl
                  · intro s213 w214 hb215 hx216 hf217 hd218 hu219
                    have e220 : Ext w102 w214 := hx216 rfl
                    have d221 : s213 63 = (S ((gt (gt a0 x4_9) x5_33).path)) := (hd218 5 rfl)
                    exact L_lit (.plain rfl) rfl (ltb rfl) rfl Tryz.underlying49 Tryz.sizeOf9 Tryz.zeroValue9 rfl rfl rfl (vs := [(S ((gt (gt a0 x4_9) x5_33).path))]) (cons2 d221 rfl) (lit_all rfl) <| fun b222 w223 z224 z225 e226 k227 => L_nil <| stepS rfl rfl rfl e226 (Ow.rd (Ow.new (xs := [(gt (gt a0 x4_9) x5_33).path]) (sz := 1) (enc := encS) (base := w214.heap.size) k227 (Nat.le_of_eq z224) rfl (fun _ _ => by rfl) (Nat.le_of_ble_eq_true rfl)))
                  · intro s228 w229 hb230 hx231 hf232 hd233 hu234
                    have e235 : Ext w102 w229 := hx231 rfl
                    have d236 : Ow 9 1 encS w102.heap.size w229 (s228 62) (([] : List (List UInt8)) ++ (sub x3_31 0 x7_72)) := (hd233 4 rfl)
                    have d237 : Rd 1 encS w229 (s228 64) ([(gt (gt a0 x4_9) x5_33).path] : List (List UInt8)) := (hd233 6 rfl)
                    have c238 := c130
                    exact L_append (enc := encS) (.plain rfl) rfl (ltb rfl) rfl El.t49 rfl rfl d236 d237 (ones_S _) (of_decide_eq_true c238) (e235).size <| fun v239 w240 o241 z242 g243 => L_nil <| stepH rfl rfl rfl (g243 _ (Below.refl _ _)) o241
                  · intro s244 w245 hb246 hx247 hf248 hd249 hu250
                    have e251 : Ext w102 w245 := Below.trans (Ext.refl w102) hb246
                    exact L_op (.plain rfl) rfl (ltb rfl) (X_move (v := v32) ((hu250 12 rfl).trans ((K103 3 rfl).trans ((K75 3 rfl).trans h49)))) <| L_nil <| stepS rfl rfl rfl (Ext.refl w245) rfl
                  · intro s252 w253 hb254 hx255 hf256 hd257 hu258
                    have e259 : Ext w102 w253 := Below.trans (Ext.refl w102) hb254
                    exact L_op (.plain rfl) rfl (ltb rfl) (X_move (v := (.int .i64 x7_72)) ((hf256 7 rfl).trans ((K103 7 rfl).trans h97))) <| L_nil <| stepS rfl rfl rfl (Ext.refl w253) rfl
                  · intro s260 w261 hb262 hx263 hf264 hd265 hu266
                    have e267 : Ext w102 w261 := Below.trans (Ext.refl w102) hb262
                    have d268 : s260 66 = v32 := (hd265 8 rfl)
                    have d269 : s260 67 = (.int .i64 x7_72) := (hd265 9 rfl)
                    have c270 := c136
                    exact L_sub (.plain rfl) rfl (ltb rfl) rfl Tryz.underlying49 Tryz.sizeOf9 d268 (Ow.rd (Ow.ext h50 (Ext.trans e76 e105))) (l := x7_72) (h := (x3_31.length : Int)) ⟨_, d269⟩ rfl c270 <| fun v271 h272 => L_nil <| stepS rfl rfl rfl (Ext.refl w261) h272
                  · intro s273 w274 hb275 hx276 hf277 hd278 hu279
                    have e280 : Ext w102 w274 := Below.trans (Ext.refl w102) hb275
                    have d281 : Ow 9 1 encS w102.heap.size w274 (s273 65) (spec_l07Paths.e1 a0 x3_31 x4_9 x5_33 x7_72) := (hd278 7 rfl)
                    have d282 : Rd 1 encS w102 (s273 68) (sub x3_31 x7_72 (x3_31.length : Int)) := (hd278 10 rfl)
                    have c283 := c139
                    exact L_append (enc := encS) (.plain rfl) rfl (ltb rfl) rfl El.t49 rfl rfl d281 (Rd.ext d282 e280) (ones_S _) (of_decide_eq_true c283) (e280).size <| fun v284 w285 o286 z287 g288 => L_nil <| stepH rfl rfl rfl (g288 _ (Below.refl _ _)) o286
                  · intro s289 w290 hb291 hx292 hf293 hd294 hu295
                    have e296 : Ext w102 w290 := Below.trans (Ext.refl w102) hb291
                    have d297 : Ow 9 1 encS w102.heap.size w290 (s289 69) ((spec_l07Paths.e1 a0 x3_31 x4_9 x5_33 x7_72) ++ (sub x3_31 x7_72 (x3_31.length : Int))) := (hd294 11 rfl)
                    exact L_op (.plain rfl) rfl (ltb rfl) (X_assign (v := (s289 69)) rfl) <| L_nil <| stepS rfl rfl rfl (Ext.refl w290) d297
                  intro s298 w299 hb300 hf302 ha303
                  have K304 := Kp.ofD (kp := [(3, 4), (58, 70)]) rfl hf302
                  have e301 : Ext w102 w299 := hb300
                  have d305 : Ow 9 1 encS w102.heap.size w299 (s298 3) ((spec_l07Paths.e1 a0 x3_31 x4_9 x5_33 x7_72) ++ (sub x3_31 x7_72 (x3_31.length : Int))) := ha303 12 rfl rfl
                  clear ha303 hf302
                  refine blk_n <| thn_n <| W_reg <| L_op (.plain rfl) rfl (ltb rfl) (X_move (v := (.int .i64 x5_33)) ((K304 5 rfl).trans ((K103 5 rfl).trans ((K75 5 rfl).trans h51)))) <| L_op (.plain rfl) rfl (ltb rfl) (X_add rfl rfl) <| L_op (.plain rfl) rfl (ltb rfl) (X_assign (v := (.int .i64 (IntKind.wrap .i64 (x5_33 + 1)))) rfl) <| L_nil <| thn_n ?_
                  obtain rfl := Option.some.inj H
                  exact ⟨_, Nat.lt_succ_self _, (spec_l07Paths.e1 a0 x3_31 x4_9 x5_33 x7_72) ++ (sub x3_31 x7_72 (x3_31.length : Int)), (s298 3), IntKind.wrap .i64 (x5_33 + 1), (Kp.upd (Kp.upd (Kp.upd (Kp.cut (Kp.cut (Kp.upd (Kp.upd (Kp.upd (Kp.cut (Kp.upd (Kp.upd (Kp.upd (Kp.upd (Kp.upd (Kp.upd (Kp.upd (Kp.upd (Kp.upd (Kp.upd (Kp.upd (Kp.upd (Kp.upd (Kp.upd (Kp.upd (Kp.upd (Kp.upd (Kp.upd (Kp.upd K46 rfl) rfl) rfl) rfl) rfl) rfl) rfl) rfl) rfl) rfl) rfl) rfl) rfl) rfl) rfl) rfl) rfl) rfl) rfl) K75 rfl) rfl) rfl) rfl) K103 rfl) K304 rfl) rfl) rfl) rfl), rfl, (Ow.base d305 (Ext.trans (Ext.trans (Ext.trans e23 e47) e76) e105).size), rfl, (Ext.trans (Ext.trans (Ext.trans e47 e76) e105) e301), S53⟩
                · refine W_false (h104.trans (congrArg Value.bool q108)) <| W_skip <| blk_n <| thn_n <| W_reg <| L_op (.plain rfl) rfl (ltb rfl) (X_move (v := (.int .i64 x5_33)) ((K103 5 rfl).trans ((K75 5 rfl).trans h51))) <| L_op (.plain rfl) rfl (ltb rfl) (X_add rfl rfl) <| L_op (.plain rfl) rfl (ltb rfl) (X_assign (v := (.int .i64 (IntKind.wrap .i64 (x5_33 + 1)))) rfl) <| L_nil <| thn_n ?_
                  obtain rfl := Option.some.inj H
                  exact ⟨_, Nat.lt_succ_self _, x3_31, v32, IntKind.wrap .i64 (x5_33 + 1), (Kp.upd (Kp.upd (Kp.upd (Kp.cut (Kp.upd (Kp.upd (Kp.upd (Kp.cut (Kp.upd (Kp.upd (Kp.upd (Kp.upd (Kp.upd (Kp.upd (Kp.upd (Kp.upd (Kp.upd (Kp.upd (Kp.upd (Kp.upd (Kp.upd (Kp.upd (Kp.upd (Kp.upd (Kp.upd (Kp.upd (Kp.upd K46 rfl) rfl) rfl) rfl) rfl) rfl) rfl) rfl) rfl) rfl) rfl) rfl) rfl) rfl) rfl) rfl) rfl) rfl) rfl) K75 rfl) rfl) rfl) rfl) K103 rfl) rfl) rfl) rfl), ((K103 3 rfl).trans ((K75 3 rfl).trans h49)), (Ow.ext h50 (Ext.trans e76 e105)), rfl, (Ext.trans (Ext.trans e47 e76) e105), S53⟩
            · refine W_false (congrArg Value.bool q59) <| W_exit <| thn_x <| thn_x <| blk_x <| thn_n ?_
              obtain rfl := Option.some.inj H
              obtain rfl := Option.some.inj S53
              exact ⟨x3_31, v32, (Kp.upd (Kp.upd (Kp.upd (Kp.upd (Kp.upd (Kp.upd (Kp.upd K46 rfl) rfl) rfl) rfl) rfl) rfl) rfl), h49, h50, e47, rfl⟩
        · rintro s40 w39 ⟨x3_37, v38, K41, h306, h307, e42, y308⟩
          rw [y308] at C36
          have H := C36
          replace H : _ = some _ := H
          refine blk_n <| thn_n <| W_reg <| L_op (.plain rfl) rfl (ltb rfl) (X_move (v := (.int .i64 x4_9)) ((K41 4 rfl).trans h27)) <| L_op (.plain rfl) rfl (ltb rfl) (X_add rfl rfl) <| L_op (.plain rfl) rfl (ltb rfl) (X_assign (v := (.int .i64 (IntKind.wrap .i64 (x4_9 + 1)))) rfl) <| L_nil <| thn_n ?_
          obtain rfl := Option.some.inj H
          exact ⟨_, Nat.lt_succ_self _, x3_37, v38, IntKind.wrap .i64 (x4_9 + 1), (Kp.upd (Kp.upd (Kp.upd (Kp.cut (Kp.upd (Kp.upd (Kp.upd (Kp.upd (Kp.upd K22 rfl) rfl) rfl) rfl) rfl) K41 rfl) rfl) rfl) rfl), h306, h307, rfl, (Ext.trans e23 e42), S29⟩
      · refine W_false (congrArg Value.bool q30) <| W_exit <| thn_x <| thn_x <| blk_x <| thn_n ?_
        obtain rfl := Option.some.inj H
        obtain rfl := Option.some.inj S29
        exact ⟨x3_7, v8, (Kp.upd (Kp.upd (Kp.upd (Kp.upd K22 rfl) rfl) rfl) rfl), h25, h26, e23, rfl⟩
  · rintro s16 w15 ⟨x3_13, v14, K17, h309, h310, e18, y311⟩
    rw [y311] at C12
    have H := C12
    replace H : _ = some _ := H
    refine thn_n <| W_seq <| W_reg <| L_op (.plain rfl) rfl (ltb rfl) (X_move (v := v14) h309) <| L_op (.plain rfl) rfl (ltb rfl) (X_assign (v := v14) rfl) <| L_nil <| thn_n <| W_ret <| fin_r ?_
    obtain rfl := Option.some.inj H
    exact fin1o rfl (Ext.trans e5 e18) h310 (e5).size
theorem spec_l07Paths.calls {w : World} {a0 : List (List Rec)} {v_a0 : Value} (f_a0 : Rd2 5 encRec w v_a0 a0) (h0 : stackOK a0 = true) :
    Calls Tryz.prog 84 #[v_a0] w (Rt (RO 9 1 encS w (pathsL a0))) := by
  obtain ⟨k, h⟩ := spec_l07Paths.eq a0 h0
  exact spec_l07Paths.walk f_a0 h
/-! spec.l07Merge, by text -/
theorem spec_l07Merge.calls {w : World} {a0 : List (List Rec)} {v_a0 : Value} (f_a0 : Rd2 5 encRec w v_a0 a0) (h0 : stackOK a0 = true) :
    Calls Tryz.prog 96 #[v_a0] w (Rt (RTT 78 5 encRec 101 2 encPick w (mergeL a0) (picksL a0))) := by
  obtain ⟨h5, hL⟩ := stackOK_of h0
  have hn := paths_len h0
  have hlen1 : a0.length ≤ 1048576 := by omega
  have hls : ∀ l ∈ a0, l.length ≤ 1048576 := fun l hl => by have := layerOK_len (hL l hl); omega
  have hws := wins_sheet h0
  have hwl := wins_len h0
  refine calls_of_W Tryz.func96 rfl (Nat.le_of_ble_eq_true rfl) Tryz.ntmps96 rfl ?_
  refine W_seq <| W_reg <| L_op (.plain rfl) rfl (ltb rfl) (X_assign (v := (.slice none 0 0)) rfl) <| L_op (.plain rfl) rfl (ltb rfl) (X_assign (v := (.slice none 0 0)) rfl) <| L_nil <| thn_n <| W_seq <| W_reg <| L_op (.plain rfl) rfl (ltb rfl) (X_move (v := v_a0) rfl) <|
    L_callO (.plain rfl) rfl (ltb rfl) rfl Tryz.call84 (spec_l07Paths.calls (w := w) (a0 := a0) f_a0 h0) rfl <| fun vp w1 e1 o1 => L_op (.plain rfl) rfl (ltb rfl) (X_assign (v := vp) rfl) <| L_nil <| thn_n <|
    W_seq <| W_reg <| L_lit (.plain rfl) rfl (ltb rfl) rfl Tryz.underlying28 Tryz.sizeOf78 Tryz.zeroValue78 rfl rfl rfl (vs := []) rfl (lit_all rfl) <| fun b2 w2 z1 z2 e2 k2 => L_op (.plain rfl) rfl (ltb rfl) (X_assign (v := (.slice (some ⟨b2, 0, none⟩) 0 0)) rfl) <| L_nil <| thn_n <|
    W_seq <| W_reg <| L_lit (.plain rfl) rfl (ltb rfl) rfl Tryz.underlying60 Tryz.sizeOf101 Tryz.zeroValue101 rfl rfl rfl (vs := []) rfl (lit_all rfl) <| fun b3 w3 z3 z4 e3 k3 => L_op (.plain rfl) rfl (ltb rfl) (X_assign (v := (.slice (some ⟨b3, 0, none⟩) 0 0)) rfl) <| L_nil <| thn_n <|
    W_seq <| W_seq <| W_reg <| L_op (.plain rfl) rfl (ltb rfl) (X_assign (v := (.int .i64 0)) rfl) <| L_nil <| thn_n ?_
  refine W_cutQ (fun s0 σ W => ∃ v5 v6, σ 5 = v5 ∧ σ 6 = v6 ∧ Ow 78 5 encRec w1.heap.size W v5 (winsL a0) ∧ Ow 101 2 encPick w1.heap.size W v6 (picksL a0) ∧ Ext w1 W) ?_ ?_
  · refine W_block <| W_loopI (fun s0 m σ W => ∃ (i : Nat) (v5 v6 : Value), i + m = (pathsL a0).length ∧ σ 0 = v_a0 ∧ σ 4 = vp ∧ σ 7 = .int .i64 (i : Int) ∧ σ 5 = v5 ∧ σ 6 = v6 ∧ Ow 78 5 encRec w1.heap.size W v5 (((pathsL a0).take i).filterMap (winR a0)) ∧ Ow 101 2 encPick w1.heap.size W v6 (((pathsL a0).take i).filterMap (pickK a0)) ∧ Disj v5 v6 ∧ Ext w1 W) (pathsL a0).length
      ⟨0, _, _, by omega, rfl, rfl, rfl, rfl, rfl, Ow.zero, Ow.zero, Disj.zero, Ext.trans e2 e3⟩ ?_
    rintro m s1 W1 ⟨i, v5, v6, him, q0, q4, q7, q5, q6, hO5, hO6, hD, hE⟩
    refine W_seq <| W_seq <| W_reg <| L_op (.plain rfl) rfl (ltb rfl) (X_move q7) <| L_op (.plain rfl) rfl (ltb rfl) (X_move q4) <| L_op (.plain rfl) rfl (ltb rfl) (X_lenR Tryz.underlying49 rfl (o1.rd.ext hE)) <| L_op (.plain rfl) rfl (ltb rfl) (X_lss rfl rfl) <| L_nil <| thn_n ?_
    by_cases hi : i < (pathsL a0).length
    · have hmem : gt (pathsL a0) (i : Int) ∈ pathsL a0 := by rw [getD_gt, getD_el hi]; exact List.getElem_mem hi
      have hps := pathOK_small (paths_ok h0 _ hmem)
      have hf5 := fm_take (f := winR a0) hi
      have hf6 := fm_take (f := pickK a0) hi
      have hl5 : (((pathsL a0).take i).filterMap (winR a0)).length ≤ 80 := by have := List.length_filterMap_le (winR a0) ((pathsL a0).take i); simp at this; omega
      have hl6 : (((pathsL a0).take i).filterMap (pickK a0)).length ≤ 80 := by have := List.length_filterMap_le (pickK a0) ((pathsL a0).take i); simp at this; omega
      have hw : IntKind.wrap .i64 ((i : Int) + 1) = ((i + 1 : Nat) : Int) := by rw [Go.UL.wrap_small (by omega) (by omega)]; omega
      obtain ⟨p, hp⟩ : ∃ p, gt (pathsL a0) (i : Int) = p := ⟨_, rfl⟩
      refine W_true (congrArg Value.bool (decide_eq_true (by omega))) <| W_skip <| thn_n <| W_seq <| W_block <| W_seq <| W_reg <| L_op (.plain rfl) rfl (ltb rfl) (X_move q0) <| L_op (.plain rfl) rfl (ltb rfl) (X_move q4) <| L_op (.plain rfl) rfl (ltb rfl) (X_move q7) <|
        L_idx (.plain rfl) rfl (ltb rfl) rfl Tryz.underlying49 Tryz.sizeOf9 rfl (o1.rd.ext hE) rfl (inR_nat hi) <| fun pa hA => ?_
      rw [hp] at hA hps hf5 hf6
      refine L_op (.plain rfl) rfl (ltb rfl) (X_loadAt (v := S p) Tryz.isAgg9 rfl hA rfl) <|
        L_callP (.plain rfl) rfl (ltb rfl) rfl Tryz.call146 (spec_l07Winner.calls (w := W1) (a0 := a0) (a1 := p) (f_a0.ext (Ext.trans e1 hE)) h0 hlen1 hps hls) rfl <| fun W2 e4 => L_op (.plain rfl) rfl (ltb rfl) (X_move rfl) <|
        L_op (.plain rfl) rfl (ltb rfl) (X_extract (v := (.agg (encRec (winner a0 p).1).toArray)) rfl rfl) <| L_op (.plain rfl) rfl (ltb rfl) (X_extract (v := (.int .i64 (winner a0 p).2)) rfl rfl) <| L_alloc (.plain rfl) rfl (ltb rfl) rfl Tryz.zeroValue78 <| fun b5 W3 z5 z6 e5 k5 =>
        L_storeA (.plain rfl) rfl rfl Tryz.sizeOf78 rfl rfl rfl rfl rfl k5 <| fun W4 hw4 k6 => L_op (.plain rfl) rfl (ltb rfl) (X_assign (v := (.int .i64 (winner a0 p).2)) rfl) <| L_nil <| thn_n <|
        W_seq <| W_reg <| L_op (.plain rfl) rfl (ltb rfl) (X_move (v := (.int .i64 (winner a0 p).2)) rfl) <| L_op (.plain rfl) rfl (ltb rfl) (X_gtr rfl rfl) <| L_nil <| thn_n ?_
      have e6 : Ext W2 W4 := Below.trans e5 (Wr.below hw4 (Nat.le_of_eq z5))
      have e7 : Ext W1 W4 := Ext.trans e4 e6
      have hE4 : Ext w1 W4 := Ext.trans hE e7
      by_cases hc : (0 : Int) < (winner a0 p).2
      · have g5 : winR a0 p = some (winner a0 p).1 := by unfold winR; rw [if_pos hc]
        have g6 : pickK a0 p = some ⟨p, (winner a0 p).2⟩ := by unfold pickK; rw [if_pos hc]
        rw [g5] at hf5
        rw [g6] at hf6
        refine W_true (congrArg Value.bool (decide_eq_true hc)) <| W_seq <| W_reg <| L_op (.plain rfl) rfl (ltb rfl) (X_move (v := v5) q5) <| L_op (.plain rfl) rfl (ltb rfl) (X_loadS (cs := encRec (winner a0 p).1) Tryz.isAgg78 Tryz.sizeOf78 rfl rfl (Blk.at0 k6)) <|
          L_lit (.plain rfl) rfl (ltb rfl) rfl Tryz.underlying28 Tryz.sizeOf78 Tryz.zeroValue78 rfl rfl rfl (vs := [(.agg (encRec (winner a0 p).1).toArray)]) rfl (lit_all rfl) <| fun b7 W5 z7 z8 e8 k8 => ?_
        refine L_append2 (enc := encRec) (.plain rfl) rfl (ltb rfl) rfl El.t28 rfl rfl (Ow.ext hO5 (Ext.trans e7 e8)) (Ow.rd (Ow.new (xs := [(winner a0 p).1]) (sz := 5) (enc := encRec) (base := W4.heap.size) k8 (Nat.le_of_eq z7) rfl (fun _ _ => by rfl) (Nat.le_of_ble_eq_true rfl))) (ones_Rec _) (by simp only [List.length_cons, List.length_nil]; omega) (Ext.trans hE4 e8).size <|
          fun v9 W6 o9 z9 g9 ap9 => L_op (.plain rfl) rfl (ltb rfl) (X_assign (v := v9) rfl) <| L_nil <| thn_n <| W_reg <| L_op (.plain rfl) rfl (ltb rfl) (X_move (v := v6) q6) <| L_op (.plain rfl) rfl (ltb rfl) (X_move (v := vp) q4) <| L_op (.plain rfl) rfl (ltb rfl) (X_move (v := .int .i64 (i : Int)) q7) <| ?_
        have hE6 : Ext w1 W6 := g9 _ (Ext.trans hE4 e8)
        obtain ⟨hO6', hD'⟩ := ap9 (Ow.ext hO6 (Ext.trans e7 e8)) hD
        refine L_idx (.plain rfl) rfl (ltb rfl) rfl Tryz.underlying49 Tryz.sizeOf9 rfl (o1.rd.ext hE6) rfl (inR_nat hi) <| fun pb hB => ?_
        rw [hp] at hB
        refine L_op (.plain rfl) rfl (ltb rfl) (X_loadAt (v := S p) Tryz.isAgg9 rfl hB rfl) <| L_op (.plain rfl) rfl (ltb rfl) (X_move (v := .int .i64 (winner a0 p).2) rfl) <|
          L_op (.plain rfl) rfl (ltb rfl) (X_build1 (vs := [(0, (S p)), (1, (.int .i64 (winner a0 p).2))]) (pl := #[(0, 1), (1, 1)]) Tryz.underlying101 Tryz.zeroValue101 rfl (fun _ => by kernel_rfl) rfl rfl rfl) <|
          L_lit (.plain rfl) rfl (ltb rfl) rfl Tryz.underlying60 Tryz.sizeOf101 Tryz.zeroValue101 rfl rfl rfl (vs := [(.agg #[(S p), (.int .i64 (winner a0 p).2)])]) rfl (lit_all rfl) <| fun b10 W7 z10 z11 e10 k10 => ?_
        refine L_append2 (enc := encPick) (.plain rfl) rfl (ltb rfl) rfl El.t60 rfl rfl (Ow.ext hO6' e10) (Ow.rd (Ow.new (xs := [(⟨p, (winner a0 p).2⟩ : Pick)]) (sz := 2) (enc := encPick) (base := W6.heap.size) k10 (Nat.le_of_eq z10) rfl (fun _ _ => by rfl) (Nat.le_of_ble_eq_true rfl))) (ones_Pick _) (by simp only [List.length_cons, List.length_nil]; omega) (Ext.trans hE6 e10).size <|
          fun v11 W8 o11 z12 g11 ap11 => L_op (.plain rfl) rfl (ltb rfl) (X_assign (v := v11) rfl) <| L_nil <| blk_n <| thn_n <| W_reg <| L_op (.plain rfl) rfl (ltb rfl) (X_move q7) <| L_op (.plain rfl) rfl (ltb rfl) (X_add rfl rfl) <| L_op (.plain rfl) rfl (ltb rfl) (X_assign (v := .int .i64 ((i + 1 : Nat) : Int)) (congrArg (Value.int .i64) hw)) <| L_nil <| thn_n ?_
        obtain ⟨o9', hD''⟩ := ap11 (Ow.ext o9 e10) hD'.symm
        exact ⟨m - 1, by omega, i + 1, v9, v11, by omega, q0, q4, rfl, rfl, rfl, by rw [hf5]; exact o9', by rw [hf6]; exact o11, hD''.symm, g11 _ (Ext.trans hE6 e10)⟩
      · have g5 : winR a0 p = none := by unfold winR; rw [if_neg hc]
        have g6 : pickK a0 p = none := by unfold pickK; rw [if_neg hc]
        rw [g5] at hf5
        rw [g6] at hf6
        refine W_false (congrArg Value.bool (decide_eq_false hc)) <| W_skip <| blk_n <| thn_n <| W_reg <| L_op (.plain rfl) rfl (ltb rfl) (X_move q7) <| L_op (.plain rfl) rfl (ltb rfl) (X_add rfl rfl) <| L_op (.plain rfl) rfl (ltb rfl) (X_assign (v := .int .i64 ((i + 1 : Nat) : Int)) (congrArg (Value.int .i64) hw)) <| L_nil <| thn_n ?_
        exact ⟨m - 1, by omega, i + 1, v5, v6, by omega, q0, q4, rfl, q5, q6, by rw [hf5]; simpa using Ow.ext hO5 e7, by rw [hf6]; simpa using Ow.ext hO6 e7, hD, hE4⟩
    · have hie : i = (pathsL a0).length := by omega
      rw [hie, List.take_length] at hO5 hO6
      refine W_false (congrArg Value.bool (decide_eq_false (by omega))) <| W_exit <| thn_x <| thn_x <| blk_x <| thn_n ?_
      exact ⟨v5, v6, q5, q6, hO5, hO6, hE⟩
  · rintro s2 W2 ⟨v5, v6, q5, q6, hO5, hO6, hE⟩
    refine thn_n <| W_seq <| W_reg <| L_op (.plain rfl) rfl (ltb rfl) (X_move q5) <| L_callO (.plain rfl) rfl (ltb rfl) rfl Tryz.call132 (spec_l03Canon.calls (w := W2) (a0 := winsL a0) hO5.rd (by omega) (sheetB_path hws)) rfl <| fun v7 W3 e4 o7 =>
      L_op (.plain rfl) rfl (ltb rfl) (X_move (v := v6) q6) <| L_op (.plain rfl) rfl (ltb rfl) (X_assign (v := v7) rfl) <| L_op (.plain rfl) rfl (ltb rfl) (X_assign (v := v6) rfl) <| L_nil <| thn_n <| W_ret <| fin_r ?_
    exact fin2oo rfl rfl (Ext.trans e1 (Ext.trans hE e4)) o7 (Ext.trans e1 hE).size (Ow.ext hO6 e4) e1.size

/-! spec.MergeTrace -/
theorem spec_MergeTrace.walk {w : World} {a0 : List (List Rec)} {v_a0 : Value} (f_a0 : Rd2 5 encRec w v_a0 a0) {r : List Pick × Int} (H : spec_MergeTrace.sh a0 = some r) :
    Calls Tryz.prog 48 #[v_a0] w (Rt (RT 101 2 encPick w r.1 (.int .i64 r.2))) := by
  unfold spec_MergeTrace.sh at H
  refine calls_of_W Tryz.func48 rfl (Nat.le_of_ble_eq_true rfl) Tryz.ntmps48 rfl ?_
  refine W_seq <| W_reg <| L_op (.plain rfl) rfl (ltb rfl) (X_assign (v := (.slice none 0 0)) rfl) <| L_op (.plain rfl) rfl (ltb rfl) (X_assign (v := (.int .i64 0)) rfl) <| L_nil <| thn_n <| W_seq <| W_seq <| W_reg <| L_op (.plain rfl) rfl (ltb rfl) (X_move (v := v_a0) rfl) <| L_op (.plain rfl) rfl (ltb rfl) (X_lenR2 Tryz.underlying39 rfl f_a0) <| L_op (.plain rfl) rfl (ltb rfl) (X_gtr rfl rfl) <| L_nil <| thn_n ?_
  rcases bif_two H with ⟨q1, H⟩ | ⟨q1, H⟩
  · refine W_true (congrArg Value.bool q1) <| W_seq <| W_reg <| L_lit (.plain rfl) rfl (ltb rfl) rfl Tryz.underlying60 Tryz.sizeOf101 Tryz.zeroValue101 rfl rfl rfl (vs := []) rfl (lit_all rfl) <| fun b2 w3 z4 z5 e6 k7 => L_op (.plain rfl) rfl (ltb rfl) (X_assign (v := (.slice (some ⟨b2, 0, none⟩) 0 0)) rfl) <| L_op (.plain rfl) rfl (ltb rfl) (X_assign (v := (.int .i64 2)) rfl) <| L_nil <| thn_n <| W_ret <| thn_r <| fin_r ?_
    obtain rfl := Option.some.inj H
    exact fin2o rfl rfl e6 (Ow.zero (base := w.heap.size)) (Nat.le_refl _)
  · refine W_false (congrArg Value.bool q1) <| W_skip <| thn_n <| W_seq <| W_seq <| W_reg <| L_op (.plain rfl) rfl (ltb rfl) (X_move (v := v_a0) rfl) ?_
    obtain ⟨c8, H⟩ := bif_some H
    obtain ⟨c9, H⟩ := bif_some H
    obtain ⟨c10, H⟩ := bif_some H
    refine L_callP (.plain rfl) rfl (ltb rfl) rfl Tryz.call77 (spec_l05Stack.calls (w := w) (a0 := a0) f_a0 (of_decide_eq_true c8) (of_decide_eq_true c9) (of_decide_eq_true c10)) rfl <| fun w11 e12 => L_op (.plain rfl) rfl (ltb rfl) (X_not rfl) <| L_nil <| thn_n ?_
    rcases bif_two H with ⟨q13, H⟩ | ⟨q13, H⟩
    · refine W_true (congrArg Value.bool q13) <| W_seq <| W_reg <| L_lit (.plain rfl) rfl (ltb rfl) rfl Tryz.underlying60 Tryz.sizeOf101 Tryz.zeroValue101 rfl rfl rfl (vs := []) rfl (lit_all rfl) <| fun b14 w15 z16 z17 e18 k19 => L_op (.plain rfl) rfl (ltb rfl) (X_assign (v := (.slice (some ⟨b14, 0, none⟩) 0 0)) rfl) <| L_op (.plain rfl) rfl (ltb rfl) (X_assign (v := (.int .i64 1)) rfl) <| L_nil <| thn_n <| W_ret <| thn_r <| fin_r ?_
      obtain rfl := Option.some.inj H
      exact fin2o rfl rfl (Ext.trans e12 e18) (Ow.zero (base := w.heap.size)) (Nat.le_refl _)
    · refine W_false (congrArg Value.bool q13) <| W_skip <| thn_n <| W_seq <| W_reg <| L_op (.plain rfl) rfl (ltb rfl) (X_move (v := v_a0) rfl) ?_
      obtain ⟨c20, H⟩ := bif_some H
      refine L_callTT (.plain rfl) rfl (ltb rfl) rfl Tryz.call96 (spec_l07Merge.calls (w := w11) (a0 := a0) (Rd2.ext f_a0 e12) (of_decide_eq_true c20)) rfl <| fun v23 v24 w21 e22 o25 o26 => L_op (.plain rfl) rfl (ltb rfl) (X_move (v := (.tuple #[v23, v24])) rfl) <| L_op (.plain rfl) rfl (ltb rfl) (X_extract (v := v23) rfl rfl) <| L_op (.plain rfl) rfl (ltb rfl) (X_extract (v := v24) rfl rfl) <| L_op (.plain rfl) rfl (ltb rfl) (X_assign (v := v23) rfl) <| L_op (.plain rfl) rfl (ltb rfl) (X_assign (v := v24) rfl) <| L_nil <| thn_n <| W_seq <| W_reg <| L_op (.plain rfl) rfl (ltb rfl) (X_move (v := v24) rfl) <| L_op (.plain rfl) rfl (ltb rfl) (X_assign (v := v24) rfl) <| L_op (.plain rfl) rfl (ltb rfl) (X_assign (v := (.int .i64 0)) rfl) <| L_nil <| thn_n <| W_ret <| fin_r ?_
      obtain rfl := Option.some.inj H
      exact fin2o rfl rfl (Ext.trans e12 e22) o26 (e12).size
theorem spec_MergeTrace.calls {w : World} {a0 : List (List Rec)} {v_a0 : Value} (f_a0 : Rd2 5 encRec w v_a0 a0) (h0 : a0.length ≤ 1048576) (h1 : ∀ l ∈ a0, l.length ≤ 1048576) (h2 : ∀ l ∈ a0, ∀ x ∈ l, x.path.length ≤ 1048576) :
    Calls Tryz.prog 48 #[v_a0] w (Rt (RT 101 2 encPick w ((traceOf a0).1) (.int .i64 ((traceOf a0).2)))) := spec_MergeTrace.walk f_a0 (spec_MergeTrace.eq a0 h0 h1 h2)
/-! impl.MergeTrace -/
theorem impl_MergeTrace.walk {k : Nat} {w : World} {a0 : List (List Rec)} (gv : GV 0 w) {v_a0 : Value} (f_a0 : Rd2 5 encRec w v_a0 a0) {r : List Pick × Int} (H : impl_MergeTrace.sh k a0 = some r) :
    Calls Tryz.prog 49 #[v_a0] w (Rt (RT 101 2 encPick w r.1 (.int .i64 r.2))) := by
  unfold impl_MergeTrace.sh at H
  refine calls_of_W Tryz.func49 rfl (Nat.le_of_ble_eq_true rfl) Tryz.ntmps49 rfl ?_
  refine W_seq <| W_reg <| L_op (.plain rfl) rfl (ltb rfl) (X_assign (v := (.slice none 0 0)) rfl) <| L_op (.plain rfl) rfl (ltb rfl) (X_assign (v := (.int .i64 0)) rfl) <| L_nil <| thn_n <| W_seq <| W_seq <| W_reg <| L_op (.plain rfl) rfl (ltb rfl) (X_move (v := v_a0) rfl) ?_
  obtain ⟨c1, H⟩ := bif_some H
  obtain ⟨c2, H⟩ := bif_some H
  obtain ⟨c3, H⟩ := bif_some H
  refine L_callP (.plain rfl) rfl (ltb rfl) rfl Tryz.call79 (impl_stackCode.calls (w := w) (a0 := a0) gv f_a0 (of_decide_eq_true c1) (of_decide_eq_true c2) (of_decide_eq_true c3)) rfl <| fun w4 e5 => L_op (.plain rfl) rfl (ltb rfl) (X_assign (v := (.int .i64 (stackCode a0))) rfl) <| L_nil <| thn_n <| W_seq <| W_reg <| L_op (.plain rfl) rfl (ltb rfl) (X_move (v := (.int .i64 (stackCode a0))) rfl) <| L_op (.plain rfl) rfl (ltb rfl) (X_neq rfl rfl) <| L_nil <| thn_n ?_
  rcases bif_two H with ⟨q6, H⟩ | ⟨q6, H⟩
  · refine W_true (congrArg Value.bool q6) <| W_seq <| W_reg <| L_op (.plain rfl) rfl (ltb rfl) (X_move (v := (.int .i64 (stackCode a0))) rfl) <| L_op (.plain rfl) rfl (ltb rfl) (X_assign (v := (.slice none 0 0)) rfl) <| L_op (.plain rfl) rfl (ltb rfl) (X_assign (v := (.int .i64 (stackCode a0))) rfl) <| L_nil <| thn_n <| W_ret <| thn_r <| fin_r ?_
    obtain rfl := Option.some.inj H
    exact fin2o rfl rfl e5 (Ow.zero (base := w.heap.size)) (Nat.le_refl _)
  · refine W_false (congrArg Value.bool q6) <| W_skip <| thn_n <| W_seq <| W_reg <| L_lit (.plain rfl) rfl (ltb rfl) rfl Tryz.underlying60 Tryz.sizeOf101 Tryz.zeroValue101 rfl rfl rfl (vs := []) rfl (lit_all rfl) <| fun b7 w8 z9 z10 e11 k12 => L_op (.plain rfl) rfl (ltb rfl) (X_assign (v := (.slice (some ⟨b7, 0, none⟩) 0 0)) rfl) <| L_nil <| thn_n <| W_seq <| W_seq <| W_reg <| L_op (.plain rfl) rfl (ltb rfl) (X_move (v := v_a0) rfl) ?_
    obtain ⟨c13, H⟩ := bif_some H
    obtain ⟨c14, H⟩ := bif_some H
    obtain ⟨c15, H⟩ := bif_some H
    refine L_callO (.plain rfl) rfl (ltb rfl) rfl Tryz.call85 (impl_paths.calls (w := w8) (a0 := a0) (GV.ext gv (Ext.trans e5 e11)) (Rd2.ext f_a0 (Ext.trans e5 e11)) (of_decide_eq_true c13) (of_decide_eq_true c14) (of_decide_eq_true c15)) rfl <| fun v18 w16 e17 o19 => L_op (.plain rfl) rfl (ltb rfl) (X_lenR Tryz.underlying49 rfl (Ow.rd o19)) <| L_op (.plain rfl) rfl (ltb rfl) (X_move (v := (.int .i64 0)) rfl) <| L_nil <| thn_n ?_
    obtain ⟨z23, L24, C25⟩ := bind_some H
    clear H
    refine  W_cutQ (fun s0 sQ wQ => ∃ (x5_26 : List Pick) (v27 : Value), Kp [(5, 6), (7, 11), (20, 39)] s0 sQ ∧ sQ 5 = v27 ∧ Ow 101 2 encPick w16.heap.size wQ v27 x5_26 ∧ Ext w16 wQ ∧ z23 = .inr x5_26) ?_ ?_
    · refine W_block <| W_loopI (fun s0 kk sQ wQ => ∃ (x5_20 : List Pick) (v21 : Value) (x20_22 : Int), Kp [(5, 6), (7, 11), (20, 39)] s0 sQ ∧ sQ 5 = v21 ∧ Ow 101 2 encPick w16.heap.size wQ v21 x5_20 ∧ sQ 20 = .int .i64 x20_22 ∧ Ext w16 wQ ∧ loopF (impl_MergeTrace.b1 a0) kk (x5_20, x20_22) = some z23) k ⟨([] : List Pick), (.slice (some ⟨b7, 0, none⟩) 0 0), 0, (Kp.refl _ _), rfl, (Ow.zero), rfl, (Ext.refl w16), L24⟩ ?_
      rintro k32 s33 w34 ⟨x5_20, v21, x20_22, K35, h38, h39, h40, e36, L37⟩
      cases k32 with
      | zero => exact absurd L37 (by simp [loopF])
      | succ k32 =>
        obtain ⟨t41, H, S42⟩ := loopF_succ L37
        clear L37
        unfold impl_MergeTrace.b1 at H
        refine W_seq <| W_reg <| L_op (.plain rfl) rfl (ltb rfl) (X_lss h40 (K35 19 rfl)) <| L_nil <| thn_n <| W_seq ?_
        rcases bif_two H with ⟨q43, H⟩ | ⟨q43, H⟩
        · refine W_true (congrArg Value.bool q43) <| W_skip <| thn_n <| W_seq <| W_block <| W_seq <| W_reg ?_
          obtain ⟨c44, H⟩ := bif_some H
          refine L_idx (.plain rfl) rfl (ltb rfl) rfl Tryz.underlying49 Tryz.sizeOf9 (K35 18 rfl) (Ow.rd (Ow.ext o19 e36)) h40 c44 <| fun p45 h46 => L_op (.plain rfl) rfl (ltb rfl) (X_loadAt Tryz.isAgg9 rfl h46 rfl) <| L_op (.plain rfl) rfl (ltb rfl) (X_assign (v := (S (gt (pathsL a0) x20_22))) rfl) <| L_nil <| thn_n <| W_seq <| W_reg <| L_op (.plain rfl) rfl (ltb rfl) (X_move (v := v_a0) (K35 0 rfl)) <| L_op (.plain rfl) rfl (ltb rfl) (X_move (v := (S (gt (pathsL a0) x20_22))) rfl) ?_
          obtain ⟨c47, H⟩ := bif_some H
          obtain ⟨c48, H⟩ := bif_some H
          obtain ⟨c49, H⟩ := bif_some H
          obtain ⟨c50, H⟩ := bif_some H
          refine L_callP (.plain rfl) rfl (ltb rfl) rfl Tryz.call97 (impl_winner.calls (w := w34) (a0 := a0) (a1 := gt (pathsL a0) x20_22) (Rd2.ext f_a0 (Ext.trans (Ext.trans (Ext.trans e5 e11) e17) e36)) (of_decide_eq_true c47) (of_decide_eq_true c48) (of_decide_eq_true c49) (of_decide_eq_true c50)) rfl <| fun w51 e52 => L_op (.plain rfl) rfl (ltb rfl) (X_move rfl) <| L_op (.plain rfl) rfl (ltb rfl) (X_extract (v := (.agg (encRec ((winner a0 (gt (pathsL a0) x20_22)).1)).toArray)) rfl rfl) <| L_op (.plain rfl) rfl (ltb rfl) (X_extract (v := (.int .i64 ((winner a0 (gt (pathsL a0) x20_22)).2))) rfl rfl) <| L_op (.plain rfl) rfl (ltb rfl) (X_extract (v := (.bool (decide ((0 : Int) < (winner a0 (gt (pathsL a0) x20_22)).2)))) rfl rfl) <| L_alloc (.plain rfl) rfl (ltb rfl) rfl Tryz.zeroValue78 <| fun b53 w54 z55 z56 e57 k58 => L_storeA (.plain rfl) rfl rfl Tryz.sizeOf78 rfl rfl rfl rfl rfl k58 <| fun w59 h60 k61 => L_op (.plain rfl) rfl (ltb rfl) (X_assign (v := (.int .i64 ((winner a0 (gt (pathsL a0) x20_22)).2))) rfl) <| L_op (.plain rfl) rfl (ltb rfl) (X_assign (v := (.bool (decide ((0 : Int) < (winner a0 (gt (pathsL a0) x20_22)).2)))) rfl) <| L_nil <| thn_n <| W_seq <| W_reg <| L_op (.plain rfl) rfl (ltb rfl) (X_move (v := (.bool (decide ((0 : Int) < (winner a0 (gt (pathsL a0) x20_22)).2)))) rfl) <| L_nil <| thn_n ?_
          rcases bif_two H with ⟨q62, H⟩ | ⟨q62, H⟩
          · refine W_true (congrArg Value.bool q62) <| W_reg <| L_op (.plain rfl) rfl (ltb rfl) (X_move (v := v21) h38) <| L_op (.plain rfl) rfl (ltb rfl) (X_move (v := (S (gt (pathsL a0) x20_22))) rfl) <| L_op (.plain rfl) rfl (ltb rfl) (X_move (v := (.int .i64 ((winner a0 (gt (pathsL a0) x20_22)).2))) rfl) <| L_op (.plain rfl) rfl (ltb rfl) (X_build1 (vs := [(0, (S (gt (pathsL a0) x20_22))), (1, (.int .i64 ((winner a0 (gt (pathsL a0) x20_22)).2)))]) (pl := #[(0, 1), (1, 1)]) Tryz.underlying101 Tryz.zeroValue101 rfl (fun _ => by kernel_rfl) rfl rfl rfl) <| L_lit (.plain rfl) rfl (ltb rfl) rfl Tryz.underlying60 Tryz.sizeOf101 Tryz.zeroValue101 rfl rfl rfl (vs := [(.agg #[(S (gt (pathsL a0) x20_22)), (.int .i64 ((winner a0 (gt (pathsL a0) x20_22)).2))])]) rfl (lit_all rfl) <| fun b63 w64 z65 z66 e67 k68 => ?_
            obtain ⟨c69, H⟩ := bif_some H
            refine L_append (enc := encPick) (.plain rfl) rfl (ltb rfl) rfl El.t60 rfl rfl (Ow.ext h39 (Ext.trans (Ext.trans e52 (Below.trans e57 (Wr.below h60 (Nat.le_of_eq z55)))) e67)) (Ow.rd (Ow.new (xs := [(⟨gt (pathsL a0) x20_22, (winner a0 (gt (pathsL a0) x20_22)).2⟩ : Pick)]) (sz := 2) (enc := encPick) (base := w59.heap.size) k68 (Nat.le_of_eq z65) rfl (fun _ _ => by rfl) (Nat.le_of_ble_eq_true rfl))) (ones_Pick _) (of_decide_eq_true c69) ((Ext.trans (Ext.trans (Ext.trans e36 e52) (Below.trans e57 (Wr.below h60 (Nat.le_of_eq z55)))) e67)).size <| fun v70 w71 o72 z73 g74 => L_op (.plain rfl) rfl (ltb rfl) (X_assign (v := v70) rfl) <| L_nil <| blk_n <| thn_n <| W_reg <| L_op (.plain rfl) rfl (ltb rfl) (X_add h40 rfl) <| L_op (.plain rfl) rfl (ltb rfl) (X_move (v := (.int .i64 (IntKind.wrap .i64 (x20_22 + 1)))) rfl) <| L_nil <| thn_n ?_
            obtain rfl := Option.some.inj H
            exact ⟨_, Nat.lt_succ_self _, x5_20 ++ ([(⟨gt (pathsL a0) x20_22, (winner a0 (gt (pathsL a0) x20_22)).2⟩ : Pick)] : List Pick), v70, IntKind.wrap .i64 (x20_22 + 1), (Kp.upd (Kp.upd (Kp.upd (Kp.upd (Kp.upd (Kp.upd (Kp.upd (Kp.upd (Kp.upd (Kp.upd (Kp.upd (Kp.upd (Kp.upd (Kp.upd (Kp.upd (Kp.upd (Kp.upd (Kp.upd (Kp.upd (Kp.upd (Kp.upd (Kp.upd (Kp.upd (Kp.upd K35 rfl) rfl) rfl) rfl) rfl) rfl) rfl) rfl) rfl) rfl) rfl) rfl) rfl) rfl) rfl) rfl) rfl) rfl) rfl) rfl) rfl) rfl) rfl) rfl), rfl, o72, rfl, (g74 _ (Ext.trans (Ext.trans (Ext.trans e36 e52) (Below.trans e57 (Wr.below h60 (Nat.le_of_eq z55)))) e67)), S42⟩
          · refine W_false (congrArg Value.bool q62) <| W_skip <| blk_n <| thn_n <| W_reg <| L_op (.plain rfl) rfl (ltb rfl) (X_add h40 rfl) <| L_op (.plain rfl) rfl (ltb rfl) (X_move (v := (.int .i64 (IntKind.wrap .i64 (x20_22 + 1)))) rfl) <| L_nil <| thn_n ?_
            obtain rfl := Option.some.inj H
            exact ⟨_, Nat.lt_succ_self _, x5_20, v21, IntKind.wrap .i64 (x20_22 + 1), (Kp.upd (Kp.upd (Kp.upd (Kp.upd (Kp.upd (Kp.upd (Kp.upd (Kp.upd (Kp.upd (Kp.upd (Kp.upd (Kp.upd (Kp.upd (Kp.upd (Kp.upd (Kp.upd (Kp.upd K35 rfl) rfl) rfl) rfl) rfl) rfl) rfl) rfl) rfl) rfl) rfl) rfl) rfl) rfl) rfl) rfl) rfl), h38, (Ow.ext h39 (Ext.trans e52 (Below.trans e57 (Wr.below h60 (Nat.le_of_eq z55))))), rfl, (Ext.trans (Ext.trans e36 e52) (Below.trans e57 (Wr.below h60 (Nat.le_of_eq z55)))), S42⟩
        · refine W_false (congrArg Value.bool q43) <| W_exit <| thn_x <| thn_x <| blk_x <| thn_n ?_
          obtain rfl := Option.some.inj H
          obtain rfl := Option.some.inj S42
          exact ⟨x5_20, v21, (Kp.upd K35 rfl), h38, h39, e36, rfl⟩
    · rintro s29 w28 ⟨x5_26, v27, K30, h75, h76, e31, y77⟩
      rw [y77] at C25
      have H := C25
      replace H : _ = some _ := H
      refine thn_n <| W_seq <| W_reg <| L_op (.plain rfl) rfl (ltb rfl) (X_move (v := v27) h75) <| L_op (.plain rfl) rfl (ltb rfl) (X_assign (v := v27) rfl) <| L_op (.plain rfl) rfl (ltb rfl) (X_assign (v := (.int .i64 0)) rfl) <| L_nil <| thn_n <| W_ret <| fin_r ?_
      obtain rfl := Option.some.inj H
      exact fin2o rfl rfl (Ext.trans (Ext.trans (Ext.trans e5 e11) e17) e31) h76 ((Ext.trans (Ext.trans e5 e11) e17)).size
theorem impl_MergeTrace.calls {w : World} {a0 : List (List Rec)} (gv : GV 0 w) {v_a0 : Value} (f_a0 : Rd2 5 encRec w v_a0 a0) (h0 : a0.length ≤ 1048576) (h1 : ∀ l ∈ a0, l.length ≤ 1048576) (h2 : ∀ l ∈ a0, ∀ x ∈ l, x.path.length ≤ 1048576) :
    Calls Tryz.prog 49 #[v_a0] w (Rt (RT 101 2 encPick w ((traceOf a0).1) (.int .i64 ((traceOf a0).2)))) := by
  obtain ⟨k, h⟩ := impl_MergeTrace.eq a0 h0 h1 h2
  exact impl_MergeTrace.walk gv f_a0 h
/-! laws.eqPick -/
theorem laws_eqPick.walk {w : World} {a0 : Pick} {a1 : Pick} {r : Bool} (H : laws_eqPick.sh a0 a1 = some r) :
    Calls Tryz.prog 98 #[.agg (encPick a0).toArray, .agg (encPick a1).toArray] w (Rt (RP w (.bool r))) := by
  unfold laws_eqPick.sh at H
  refine calls_of_W Tryz.func98 rfl (Nat.le_of_ble_eq_true rfl) Tryz.ntmps98 rfl ?_
  refine W_seq <| W_reg <| L_box (.plain rfl) rfl (ltb rfl) rfl rfl <| fun b1 w2 z3 z4 e5 k6 => L_box (.plain rfl) rfl (ltb rfl) rfl rfl <| fun b7 w8 z9 z10 e11 k12 => L_op (.plain rfl) rfl (ltb rfl) (X_assign (v := (.bool false)) rfl) <| L_nil <| thn_n <| W_seq <| W_seq <| W_reg <| L_op (.plain rfl) rfl (ltb rfl) (X_fieldAddr Tryz.underlying101 rfl Tryz.sizeOf9 rfl rfl) <| L_op (.plain rfl) rfl (ltb rfl) (X_loadB Tryz.isAgg9 (Blk.ext k6 e11) rfl rfl) <| L_op (.plain rfl) rfl (ltb rfl) (X_fieldAddr Tryz.underlying101 rfl Tryz.sizeOf9 rfl rfl) <| L_op (.plain rfl) rfl (ltb rfl) (X_loadB Tryz.isAgg9 k12 rfl rfl) <| L_op (.plain rfl) rfl (ltb rfl) (X_sne rfl rfl) <| L_nil <| thn_n ?_
  rcases bif_two H with ⟨q13, H⟩ | ⟨q13, H⟩
  · refine W_true (congrArg Value.bool q13) <| W_seq <| W_reg <| L_op (.plain rfl) rfl (ltb rfl) (X_assign (v := (.bool false)) rfl) <| L_nil <| thn_n <| W_ret <| thn_r <| fin_r ?_
    obtain rfl := Option.some.inj H
    exact fin1 rfl (Ext.trans e5 e11)
  · refine W_false (congrArg Value.bool q13) <| W_skip <| thn_n <| W_seq <| W_seq <| W_reg <| L_op (.plain rfl) rfl (ltb rfl) (X_fieldAddr Tryz.underlying101 rfl Tryz.sizeOf3 rfl rfl) <| L_op (.plain rfl) rfl (ltb rfl) (X_loadB Tryz.isAgg3 (Blk.ext k6 e11) rfl rfl) <| L_op (.plain rfl) rfl (ltb rfl) (X_fieldAddr Tryz.underlying101 rfl Tryz.sizeOf3 rfl rfl) <| L_op (.plain rfl) rfl (ltb rfl) (X_loadB Tryz.isAgg3 k12 rfl rfl) <| L_op (.plain rfl) rfl (ltb rfl) (X_neq rfl rfl) <| L_nil <| thn_n ?_
    rcases bif_two H with ⟨q14, H⟩ | ⟨q14, H⟩
    · refine W_true (congrArg Value.bool q14) <| W_seq <| W_reg <| L_op (.plain rfl) rfl (ltb rfl) (X_assign (v := (.bool false)) rfl) <| L_nil <| thn_n <| W_ret <| thn_r <| fin_r ?_
      obtain rfl := Option.some.inj H
      exact fin1 rfl (Ext.trans e5 e11)
    · refine W_false (congrArg Value.bool q14) <| W_skip <| thn_n <| W_seq <| W_reg <| L_op (.plain rfl) rfl (ltb rfl) (X_assign (v := (.bool true)) rfl) <| L_nil <| thn_n <| W_ret <| fin_r ?_
      obtain rfl := Option.some.inj H
      exact fin1 rfl (Ext.trans e5 e11)
theorem laws_eqPick.calls {w : World} {a0 : Pick} {a1 : Pick} :
    Calls Tryz.prog 98 #[.agg (encPick a0).toArray, .agg (encPick a1).toArray] w (Rt (RP w (.bool (decide (a0 = a1))))) := laws_eqPick.walk (laws_eqPick.eq a0 a1)
/-! laws.eqPickS -/
theorem laws_eqPickS.walk {k : Nat} {w : World} {a0 : List Pick} {a1 : List Pick} {v_a0 : Value} (f_a0 : Rd 2 encPick w v_a0 a0) {v_a1 : Value} (f_a1 : Rd 2 encPick w v_a1 a1) {r : Bool} (H : laws_eqPickS.sh k a0 a1 = some r) :
    Calls Tryz.prog 50 #[v_a0, v_a1] w (Rt (RP w (.bool r))) := by
  unfold laws_eqPickS.sh at H
  refine calls_of_W Tryz.func50 rfl (Nat.le_of_ble_eq_true rfl) Tryz.ntmps50 rfl ?_
  refine W_seq <| W_reg <| L_op (.plain rfl) rfl (ltb rfl) (X_assign (v := (.bool false)) rfl) <| L_nil <| thn_n <| W_seq <| W_seq <| W_reg <| L_op (.plain rfl) rfl (ltb rfl) (X_move (v := v_a0) rfl) <| L_op (.plain rfl) rfl (ltb rfl) (X_lenR Tryz.underlying60 rfl f_a0) <| L_op (.plain rfl) rfl (ltb rfl) (X_move (v := v_a1) rfl) <| L_op (.plain rfl) rfl (ltb rfl) (X_lenR Tryz.underlying60 rfl f_a1) <| L_op (.plain rfl) rfl (ltb rfl) (X_neq rfl rfl) <| L_nil <| thn_n ?_
  rcases bif_two H with ⟨q1, H⟩ | ⟨q1, H⟩
  · refine W_true (congrArg Value.bool q1) <| W_seq <| W_reg <| L_op (.plain rfl) rfl (ltb rfl) (X_assign (v := (.bool false)) rfl) <| L_nil <| thn_n <| W_ret <| thn_r <| fin_r ?_
    obtain rfl := Option.some.inj H
    exact fin1 rfl (Ext.refl w)
  · refine W_false (congrArg Value.bool q1) <| W_skip <| thn_n <| W_seq <| W_seq <| W_reg <| L_op (.plain rfl) rfl (ltb rfl) (X_assign (v := (.int .i64 0)) rfl) <| L_nil <| thn_n ?_
    obtain ⟨z3, L4, C5⟩ := bind_some H
    clear H
    refine  W_cutQ (fun s0 sQ wQ => Kp [(4, 6), (11, 27)] s0 sQ ∧ Ext w wQ ∧ z3 = .inr ()) ?_ ?_
    · refine W_block <| W_loopI (fun s0 kk sQ wQ => ∃ (x5_2 : Int), Kp [(4, 6), (11, 27)] s0 sQ ∧ sQ 5 = .int .i64 x5_2 ∧ Ext w wQ ∧ loopF (laws_eqPickS.b1 a0 a1) kk x5_2 = some z3) k ⟨0, (Kp.refl _ _), rfl, (Ext.refl w), L4⟩ ?_
      rintro k10 s11 w12 ⟨x5_2, K13, h16, e14, L15⟩
      cases k10 with
      | zero => exact absurd L15 (by simp [loopF])
      | succ k10 =>
        obtain ⟨t17, H, S18⟩ := loopF_succ L15
        clear L15
        unfold laws_eqPickS.b1 at H
        refine W_seq <| W_seq <| W_reg <| L_op (.plain rfl) rfl (ltb rfl) (X_move (v := (.int .i64 x5_2)) h16) <| L_op (.plain rfl) rfl (ltb rfl) (X_move (v := v_a0) (K13 0 rfl)) <| L_op (.plain rfl) rfl (ltb rfl) (X_lenR Tryz.underlying60 rfl (Rd.ext f_a0 e14)) <| L_op (.plain rfl) rfl (ltb rfl) (X_lss rfl rfl) <| L_nil <| thn_n ?_
        rcases bif_two H with ⟨q19, H⟩ | ⟨q19, H⟩
        · refine W_true (congrArg Value.bool q19) <| W_skip <| thn_n <| W_seq <| W_block <| W_seq ?_
          obtain ⟨c20, H⟩ := bif_some H
          obtain ⟨c23, H⟩ := bif_some H
          refine W_drawM [LEq v_a0, LEq (.int .i64 x5_2), LAt0 (encPick (gt a0 x5_2)), LEq (.agg (encPick (gt a0 x5_2)).toArray), LEq v_a1, LEq (.int .i64 x5_2), LAt0 (encPick (gt a1 x5_2)), LEq (.agg (encPick (gt a1 x5_2)).toArray), LEq (.bool (decide ((gt a0 x5_2) = (gt a1 x5_2)))), LEq (.bool (!(decide ((gt a0 x5_2) = (gt a1 x5_2)))))] (by kernel_rfl) (by kernel_rfl) ⟨LEq.mono, LEq.mono, LAt0.mono, LEq.mono, LEq.mono, LEq.mono, LAt0.mono, LEq.mono, LEq.mono, LEq.mono, trivial⟩ ⟨?_, ?_, ?_, ?_, ?_, ?_, ?_, ?_, ?_, ?_, trivial⟩ ?_
          · intro s28 w29 e30 hf31 hd32 hu33
            exact L_op (.plain rfl) rfl (ltb rfl) (X_move (v := v_a0) ((hf31 0 rfl).trans (K13 0 rfl))) <| L_nil <| stepEnd rfl rfl (Ext.refl w29) rfl
          · intro s34 w35 e36 hf37 hd38 hu39
            exact L_op (.plain rfl) rfl (ltb rfl) (X_move (v := (.int .i64 x5_2)) ((hf37 5 rfl).trans h16)) <| L_nil <| stepEnd rfl rfl (Ext.refl w35) rfl
          · intro s40 w41 e42 hf43 hd44 hu45
            have d46 : s40 17 = v_a0 := (hd44 0 rfl)
            have d47 : s40 18 = (.int .i64 x5_2) := (hd44 1 rfl)
            have c48 := c20
            exact L_idx (.plain rfl) rfl (ltb rfl) rfl Tryz.underlying60 Tryz.sizeOf101 d46 (Rd.ext f_a0 (Ext.trans e14 e42)) d47 c48 <| fun p49 h50 => L_nil <| stepEnd rfl rfl (Ext.refl w41) ⟨_, rfl, h50⟩
          · intro s51 w52 e53 hf54 hd55 hu56
            obtain ⟨p57, h58, h59⟩ := (hd55 2 rfl)
            exact L_op (.plain rfl) rfl (ltb rfl) (X_loadS Tryz.isAgg101 Tryz.sizeOf101 rfl h58 h59) <| L_nil <| stepEnd rfl rfl (Ext.refl w52) rfl
          · intro s60 w61 e62 hf63 hd64 hu65
            exact L_op (.plain rfl) rfl (ltb rfl) (X_move (v := v_a1) ((hf63 1 rfl).trans (K13 1 rfl))) <| L_nil <| stepEnd rfl rfl (Ext.refl w61) rfl
          · intro s66 w67 e68 hf69 hd70 hu71
            exact L_op (.plain rfl) rfl (ltb rfl) (X_move (v := (.int .i64 x5_2)) ((hf69 5 rfl).trans h16)) <| L_nil <| stepEnd rfl rfl (Ext.refl w67) rfl
          · intro s72 w73 e74 hf75 hd76 hu77
            have d78 : s72 21 = v_a1 := (hd76 4 rfl)
            have d79 : s72 22 = (.int .i64 x5_2) := (hd76 5 rfl)
            have c80 := c23
            exact L_idx (.plain rfl) rfl (ltb rfl) rfl Tryz.underlying60 Tryz.sizeOf101 d78 (Rd.ext f_a1 (Ext.trans e14 e74)) d79 c80 <| fun p81 h82 => L_nil <| stepEnd rfl rfl (Ext.refl w73) ⟨_, rfl, h82⟩
          · intro s83 w84 e85 hf86 hd87 hu88
            obtain ⟨p89, h90, h91⟩ := (hd87 6 rfl)
            exact L_op (.plain rfl) rfl (ltb rfl) (X_loadS Tryz.isAgg101 Tryz.sizeOf101 rfl h90 h91) <| L_nil <| stepEnd rfl rfl (Ext.refl w84) rfl
          · intro s92 w93 e94 hf95 hd96 hu97
            have d98 : s92 20 = (.agg (encPick (gt a0 x5_2)).toArray) := (hd96 3 rfl)
            have d99 : s92 24 = (.agg (encPick (gt a1 x5_2)).toArray) := (hd96 7 rfl)
            exact L_callP (.plain rfl) rfl (ltb rfl) rfl Tryz.call98 (laws_eqPick.calls (w := w93) (a0 := gt a0 x5_2) (a1 := gt a1 x5_2)) (cons2 d98 (cons2 d99 rfl)) <| fun w100 e101 => L_nil <| stepEnd rfl rfl e101 rfl
          · intro s102 w103 e104 hf105 hd106 hu107
            have d108 : s102 25 = (.bool (decide ((gt a0 x5_2) = (gt a1 x5_2)))) := (hd106 8 rfl)
            exact L_op (.plain rfl) rfl (ltb rfl) (X_not d108) <| L_nil <| stepEnd rfl rfl (Ext.refl w103) rfl
          intro s109 w110 e111 hf112 ha113
          have K114 := Kp.ofD (kp := [(17, 27)]) rfl hf112
          have d115 : s109 26 = (.bool (!(decide ((gt a0 x5_2) = (gt a1 x5_2))))) := ha113 9 rfl
          clear ha113 hf112
          refine thn_n ?_
          rcases bif_two H with ⟨q116, H⟩ | ⟨q116, H⟩
          · refine W_true (d115.trans (congrArg Value.bool q116)) <| W_seq <| W_reg <| L_op (.plain rfl) rfl (ltb rfl) (X_assign (v := (.bool false)) rfl) <| L_nil <| thn_n <| W_ret <| blk_r <| thn_r <| thn_r <| blk_r <| thn_r <| thn_r <| fin_r ?_
            obtain rfl := Option.some.inj H
            obtain rfl := Option.some.inj S18
            have H := C5
            obtain rfl := Option.some.inj H
            exact fin1 rfl (Ext.trans e14 e111)
          · refine W_false (d115.trans (congrArg Value.bool q116)) <| W_skip <| blk_n <| thn_n <| W_reg <| L_op (.plain rfl) rfl (ltb rfl) (X_move (v := (.int .i64 x5_2)) ((K114 5 rfl).trans h16)) <| L_op (.plain rfl) rfl (ltb rfl) (X_add rfl rfl) <| L_op (.plain rfl) rfl (ltb rfl) (X_assign (v := (.int .i64 (IntKind.wrap .i64 (x5_2 + 1)))) rfl) <| L_nil <| thn_n ?_
            obtain rfl := Option.some.inj H
            exact ⟨_, Nat.lt_succ_self _, IntKind.wrap .i64 (x5_2 + 1), (Kp.upd (Kp.upd (Kp.upd (Kp.cut (Kp.upd (Kp.upd (Kp.upd (Kp.upd K13 rfl) rfl) rfl) rfl) K114 rfl) rfl) rfl) rfl), rfl, (Ext.trans e14 e111), S18⟩
        · refine W_false (congrArg Value.bool q19) <| W_exit <| thn_x <| thn_x <| blk_x <| thn_n ?_
          obtain rfl := Option.some.inj H
          obtain rfl := Option.some.inj S18
          exact ⟨(Kp.upd (Kp.upd (Kp.upd (Kp.upd K13 rfl) rfl) rfl) rfl), e14, rfl⟩
    · rintro s7 w6 ⟨K8, e9, y117⟩
      rw [y117] at C5
      have H := C5
      replace H : _ = some _ := H
      refine thn_n <| W_seq <| W_reg <| L_op (.plain rfl) rfl (ltb rfl) (X_assign (v := (.bool true)) rfl) <| L_nil <| thn_n <| W_ret <| fin_r ?_
      obtain rfl := Option.some.inj H
      exact fin1 rfl e9
theorem laws_eqPickS.calls {w : World} {a0 : List Pick} {a1 : List Pick} {v_a0 : Value} (f_a0 : Rd 2 encPick w v_a0 a0) {v_a1 : Value} (f_a1 : Rd 2 encPick w v_a1 a1) (h0 : a0.length ≤ 4611686018427387904) :
    Calls Tryz.prog 50 #[v_a0, v_a1] w (Rt (RP w (.bool (decide (a0 = a1))))) := by
  obtain ⟨k, h⟩ := laws_eqPickS.eq a0 a1 h0
  exact laws_eqPickS.walk f_a0 f_a1 h
/-! laws.markPickS -/
theorem laws_markPickS.walk {k : Nat} {w : World} {a0 : List Pick} {a1 : Int} {v_a0 : Value} {B_a0 : Nat} {T_a0 : Nat} (o_a0 : Ow 101 2 encPick B_a0 w v_a0 a0) (l_a0 : HB v_a0 T_a0) {r : Int × List Pick} (H : laws_markPickS.sh k a0 a1 = some r) :
    Calls Tryz.prog 51 #[v_a0, .int .i64 a1] w (Rt (RM 101 2 encPick B_a0 T_a0 w (.int .i64 r.1) v_a0 r.2)) := by
  unfold laws_markPickS.sh at H
  refine calls_of_W Tryz.func51 rfl (Nat.le_of_ble_eq_true rfl) Tryz.ntmps51 rfl ?_
  refine W_seq <| W_reg <| L_op (.plain rfl) rfl (ltb rfl) (X_assign (v := (.int .i64 0)) rfl) <| L_nil <| thn_n <| W_seq <| W_seq <| W_reg <| L_op (.plain rfl) rfl (ltb rfl) (X_assign (v := (.int .i64 0)) rfl) <| L_nil <| thn_n ?_
  obtain ⟨z4, L5, C6⟩ := bind_some H
  clear H
  refine  W_cutQ (fun s0 sQ wQ => ∃ (x1_7 : Int) (y8 : List Pick), Kp [(1, 2), (5, 27)] s0 sQ ∧ sQ 1 = .int .i64 x1_7 ∧ Ow 101 2 encPick B_a0 wQ v_a0 y8 ∧ Gr B_a0 T_a0 w wQ ∧ z4 = .inr (x1_7, y8)) ?_ ?_
  · refine W_block <| W_loopI (fun s0 kk sQ wQ => ∃ (x1_1 : Int) (x5_2 : Int) (y3 : List Pick), Kp [(1, 2), (5, 27)] s0 sQ ∧ sQ 1 = .int .i64 x1_1 ∧ sQ 5 = .int .i64 x5_2 ∧ Ow 101 2 encPick B_a0 wQ v_a0 y3 ∧ Gr B_a0 T_a0 w wQ ∧ loopF (laws_markPickS.b1) kk (x1_1, x5_2, y3) = some z4) k ⟨a1, 0, a0, (Kp.refl _ _), rfl, rfl, o_a0, (Gr.refl _ _ _), L5⟩ ?_
    rintro k13 s14 w15 ⟨x1_1, x5_2, y3, K16, h19, h20, h21, e17, L18⟩
    cases k13 with
    | zero => exact absurd L18 (by simp [loopF])
    | succ k13 =>
      obtain ⟨t22, H, S23⟩ := loopF_succ L18
      clear L18
      unfold laws_markPickS.b1 at H
      refine W_seq <| W_seq <| W_reg <| L_op (.plain rfl) rfl (ltb rfl) (X_move (v := (.int .i64 x5_2)) h20) <| L_op (.plain rfl) rfl (ltb rfl) (X_move (v := v_a0) (K16 0 rfl)) <| L_op (.plain rfl) rfl (ltb rfl) (X_lenR Tryz.underlying60 rfl (Ow.rd h21)) <| L_op (.plain rfl) rfl (ltb rfl) (X_lss rfl rfl) <| L_nil <| thn_n ?_
      rcases bif_two H with ⟨q24, H⟩ | ⟨q24, H⟩
      · refine W_true (congrArg Value.bool q24) <| W_skip <| thn_n <| W_seq <| W_block <| W_seq <| W_reg <| L_op (.plain rfl) rfl (ltb rfl) (X_move (v := v_a0) (K16 0 rfl)) <| L_op (.plain rfl) rfl (ltb rfl) (X_move (v := (.int .i64 x5_2)) h20) <| L_op (.plain rfl) rfl (ltb rfl) (X_move (v := (.int .i64 x1_1)) h19) ?_
        obtain ⟨c25, H⟩ := bif_some H
        refine L_callP (.plain rfl) rfl (ltb rfl) rfl Tryz.call81 (laws_markText.calls (w := w15) (a0 := x1_1) (of_decide_eq_true c25)) rfl <| fun w26 e27 => ?_
        obtain ⟨c30, H⟩ := bif_some H
        refine L_idxO (.plain rfl) rfl (ltb rfl) rfl Tryz.underlying60 Tryz.sizeOf101 rfl (Ow.ext h21 e27) rfl c30 <| fun p28 h29 => L_op (.plain rfl) rfl (ltb rfl) (X_fieldAddr Tryz.underlying101 rfl Tryz.sizeOf9 rfl rfl) <| L_storeO (a := (⟨(markT x1_1), (gt y3 x5_2).layer⟩ : Pick)) (vs := [(S (markT x1_1))]) (off := 0) (.plain rfl) rfl rfl Tryz.sizeOf9 rfl h29 rfl rfl rfl rfl rfl rfl <| fun b31 w32 h33 h34 h35 o36 => L_nil <| thn_n <| W_seq <| W_reg <| L_op (.plain rfl) rfl (ltb rfl) (X_move (v := (.int .i64 x1_1)) h19) <| L_op (.plain rfl) rfl (ltb rfl) (X_add rfl rfl) <| L_op (.plain rfl) rfl (ltb rfl) (X_assign (v := (.int .i64 (IntKind.wrap .i64 (x1_1 + 1)))) rfl) <| L_nil <| thn_n <| W_seq <| W_reg <| L_op (.plain rfl) rfl (ltb rfl) (X_move (v := v_a0) (K16 0 rfl)) <| L_op (.plain rfl) rfl (ltb rfl) (X_move (v := (.int .i64 x5_2)) h20) <| L_op (.plain rfl) rfl (ltb rfl) (X_move (v := (.int .i64 (IntKind.wrap .i64 (x1_1 + 1)))) rfl) <| L_idxO (.plain rfl) rfl (ltb rfl) rfl Tryz.underlying60 Tryz.sizeOf101 rfl o36 rfl (inR_setI c30) <| fun p37 h38 => L_op (.plain rfl) rfl (ltb rfl) (X_fieldAddr Tryz.underlying101 rfl Tryz.sizeOf3 rfl rfl) <| L_storeO2 (a := (⟨(markT x1_1), IntKind.wrap .i64 (x1_1 + 1)⟩ : Pick)) (vs := [(.int .i64 (IntKind.wrap .i64 (x1_1 + 1)))]) (off := 1) (.plain rfl) rfl rfl Tryz.sizeOf3 rfl c30 h38 rfl rfl rfl rfl rfl rfl <| fun b39 w40 h41 h42 h43 o44 => L_nil <| thn_n <| W_reg <| L_op (.plain rfl) rfl (ltb rfl) (X_move (v := (.int .i64 (IntKind.wrap .i64 (x1_1 + 1)))) rfl) <| L_op (.plain rfl) rfl (ltb rfl) (X_add rfl rfl) <| L_op (.plain rfl) rfl (ltb rfl) (X_assign (v := (.int .i64 (IntKind.wrap .i64 ((IntKind.wrap .i64 (x1_1 + 1)) + 1)))) rfl) <| L_nil <| blk_n <| thn_n <| W_reg <| L_op (.plain rfl) rfl (ltb rfl) (X_move (v := (.int .i64 x5_2)) h20) <| L_op (.plain rfl) rfl (ltb rfl) (X_add rfl rfl) <| L_op (.plain rfl) rfl (ltb rfl) (X_assign (v := (.int .i64 (IntKind.wrap .i64 (x5_2 + 1)))) rfl) <| L_nil <| thn_n ?_
        obtain rfl := Option.some.inj H
        exact ⟨_, Nat.lt_succ_self _, IntKind.wrap .i64 ((IntKind.wrap .i64 (x1_1 + 1)) + 1), IntKind.wrap .i64 (x5_2 + 1), setI y3 x5_2 (⟨(markT x1_1), IntKind.wrap .i64 (x1_1 + 1)⟩ : Pick), (Kp.upd (Kp.upd (Kp.upd (Kp.upd (Kp.upd (Kp.upd (Kp.upd (Kp.upd (Kp.upd (Kp.upd (Kp.upd (Kp.upd (Kp.upd (Kp.upd (Kp.upd (Kp.upd (Kp.upd (Kp.upd (Kp.upd (Kp.upd (Kp.upd (Kp.upd (Kp.upd (Kp.upd K16 rfl) rfl) rfl) rfl) rfl) rfl) rfl) rfl) rfl) rfl) rfl) rfl) rfl) rfl) rfl) rfl) rfl) rfl) rfl) rfl) rfl) rfl) rfl) rfl), rfl, rfl, o44, (Gr.trans (Gr.trans (Gr.trans e17 (Gr.ext e27)) (Gr.wr h35 h34 (HB.own l_a0 h33 (OP.own0 h29) (inR_pos c30)))) (Gr.wr h43 h42 (HB.own l_a0 h41 (OP.own0 h38) (inR_pos (inR_setI c30))))), S23⟩
      · refine W_false (congrArg Value.bool q24) <| W_exit <| thn_x <| thn_x <| blk_x <| thn_n ?_
        obtain rfl := Option.some.inj H
        obtain rfl := Option.some.inj S23
        exact ⟨x1_1, y3, (Kp.upd (Kp.upd (Kp.upd (Kp.upd K16 rfl) rfl) rfl) rfl), h19, h21, e17, rfl⟩
  · rintro s10 w9 ⟨x1_7, y8, K11, h45, h46, e12, y47⟩
    rw [y47] at C6
    have H := C6
    replace H : _ = some _ := H
    refine thn_n <| W_seq <| W_reg <| L_op (.plain rfl) rfl (ltb rfl) (X_move (v := (.int .i64 x1_7)) h45) <| L_op (.plain rfl) rfl (ltb rfl) (X_assign (v := (.int .i64 x1_7)) rfl) <| L_nil <| thn_n <| W_ret <| fin_r ?_
    obtain rfl := Option.some.inj H
    exact fin1m rfl e12 h46
theorem laws_markPickS.calls {w : World} {a0 : List Pick} {a1 : Int} {v_a0 : Value} {B_a0 : Nat} {T_a0 : Nat} (o_a0 : Ow 101 2 encPick B_a0 w v_a0 a0) (l_a0 : HB v_a0 T_a0) (h0 : a0.length ≤ 1152921504606846976) (h1 : (0 : Int) ≤ a1) (h2 : (a1 : Int) ≤ 4611686018427387904 - 2 * (a0.length : Int)) :
    Calls Tryz.prog 51 #[v_a0, .int .i64 a1] w (Rt (RM 101 2 encPick B_a0 T_a0 w (.int .i64 (a1 + 2 * (a0.length : Int))) v_a0 (marksK a0.length a1))) := by
  obtain ⟨k, h⟩ := laws_markPickS.eq a0 a1 h0 h1 h2
  exact laws_markPickS.walk o_a0 l_a0 h
/-! laws.heldPickS -/
theorem laws_heldPickS.walk {k : Nat} {w : World} {a0 : List Pick} {a1 : Int} {v_a0 : Value} (f_a0 : Rd 2 encPick w v_a0 a0) {r : Int} (H : laws_heldPickS.sh k a0 a1 = some r) :
    Calls Tryz.prog 52 #[v_a0, .int .i64 a1] w (Rt (RP w (.int .i64 r))) := by
  unfold laws_heldPickS.sh at H
  refine calls_of_W Tryz.func52 rfl (Nat.le_of_ble_eq_true rfl) Tryz.ntmps52 rfl ?_
  refine W_seq <| W_reg <| L_op (.plain rfl) rfl (ltb rfl) (X_assign (v := (.int .i64 0)) rfl) <| L_nil <| thn_n <| W_seq <| W_seq <| W_reg <| L_op (.plain rfl) rfl (ltb rfl) (X_assign (v := (.int .i64 0)) rfl) <| L_nil <| thn_n ?_
  obtain ⟨z3, L4, C5⟩ := bind_some H
  clear H
  refine  W_cutQ (fun s0 sQ wQ => ∃ (x1_6 : Int), Kp [(1, 2), (4, 31)] s0 sQ ∧ sQ 1 = .int .i64 x1_6 ∧ Ext w wQ ∧ z3 = .inr x1_6) ?_ ?_
  · refine W_block <| W_loopI (fun s0 kk sQ wQ => ∃ (x1_1 : Int) (x5_2 : Int), Kp [(1, 2), (4, 31)] s0 sQ ∧ sQ 1 = .int .i64 x1_1 ∧ sQ 5 = .int .i64 x5_2 ∧ Ext w wQ ∧ loopF (laws_heldPickS.b1 a0) kk (x1_1, x5_2) = some z3) k ⟨a1, 0, (Kp.refl _ _), rfl, rfl, (Ext.refl w), L4⟩ ?_
    rintro k11 s12 w13 ⟨x1_1, x5_2, K14, h17, h18, e15, L16⟩
    cases k11 with
    | zero => exact absurd L16 (by simp [loopF])
    | succ k11 =>
      obtain ⟨t19, H, S20⟩ := loopF_succ L16
      clear L16
      unfold laws_heldPickS.b1 at H
      refine W_seq <| W_seq <| W_reg <| L_op (.plain rfl) rfl (ltb rfl) (X_move (v := (.int .i64 x5_2)) h18) <| L_op (.plain rfl) rfl (ltb rfl) (X_move (v := v_a0) (K14 0 rfl)) <| L_op (.plain rfl) rfl (ltb rfl) (X_lenR Tryz.underlying60 rfl (Rd.ext f_a0 e15)) <| L_op (.plain rfl) rfl (ltb rfl) (X_lss rfl rfl) <| L_nil <| thn_n ?_
      rcases bif_two H with ⟨q21, H⟩ | ⟨q21, H⟩
      · refine W_true (congrArg Value.bool q21) <| W_skip <| thn_n <| W_seq <| W_block <| W_seq <| W_seq ?_
        obtain ⟨c22, H⟩ := bif_some H
        obtain ⟨c25, H⟩ := bif_some H
        refine W_drawM [LEq v_a0, LEq (.int .i64 x5_2), LAt0 (encPick (gt a0 x5_2)), LAt 0 (encPick (gt a0 x5_2)), LEq (S ((gt a0 x5_2).path)), LEq (.int .i64 x1_1), LEq (S (markT x1_1)), LEq (.bool (!decide (((gt a0 x5_2).path) = (markT x1_1))))] (by kernel_rfl) (by kernel_rfl) ⟨LEq.mono, LEq.mono, LAt0.mono, LAt.mono, LEq.mono, LEq.mono, LEq.mono, LEq.mono, trivial⟩ ⟨?_, ?_, ?_, ?_, ?_, ?_, ?_, ?_, trivial⟩ ?_
        · intro s28 w29 e30 hf31 hd32 hu33
          exact L_op (.plain rfl) rfl (ltb rfl) (X_move (v := v_a0) ((hf31 0 rfl).trans (K14 0 rfl))) <| L_nil <| stepEnd rfl rfl (Ext.refl w29) rfl
        · intro s34 w35 e36 hf37 hd38 hu39
          exact L_op (.plain rfl) rfl (ltb rfl) (X_move (v := (.int .i64 x5_2)) ((hf37 5 rfl).trans h18)) <| L_nil <| stepEnd rfl rfl (Ext.refl w35) rfl
        · intro s40 w41 e42 hf43 hd44 hu45
          have d46 : s40 12 = v_a0 := (hd44 0 rfl)
          have d47 : s40 13 = (.int .i64 x5_2) := (hd44 1 rfl)
          have c48 := c22
          exact L_idx (.plain rfl) rfl (ltb rfl) rfl Tryz.underlying60 Tryz.sizeOf101 d46 (Rd.ext f_a0 (Ext.trans e15 e42)) d47 c48 <| fun p49 h50 => L_nil <| stepEnd rfl rfl (Ext.refl w41) ⟨_, rfl, h50⟩
        · intro s51 w52 e53 hf54 hd55 hu56
          obtain ⟨p57, h58, h59⟩ := (hd55 2 rfl)
          exact L_op (.plain rfl) rfl (ltb rfl) (X_fieldAddr Tryz.underlying101 rfl Tryz.sizeOf9 rfl h58) <| L_nil <| stepEnd rfl rfl (Ext.refl w52) ⟨_, rfl, h59⟩
        · intro s60 w61 e62 hf63 hd64 hu65
          obtain ⟨p66, h67, h68⟩ := (hd64 3 rfl)
          exact L_op (.plain rfl) rfl (ltb rfl) (X_loadF Tryz.isAgg9 (j := 0) h68 h67 rfl) <| L_nil <| stepEnd rfl rfl (Ext.refl w61) rfl
        · intro s69 w70 e71 hf72 hd73 hu74
          exact L_op (.plain rfl) rfl (ltb rfl) (X_move (v := (.int .i64 x1_1)) ((hf72 1 rfl).trans h17)) <| L_nil <| stepEnd rfl rfl (Ext.refl w70) rfl
        · intro s75 w76 e77 hf78 hd79 hu80
          have d81 : s75 17 = (.int .i64 x1_1) := (hd79 5 rfl)
          have c82 := c25
          exact L_callP (.plain rfl) rfl (ltb rfl) rfl Tryz.call81 (laws_markText.calls (w := w76) (a0 := x1_1) (of_decide_eq_true c82)) (cons2 d81 rfl) <| fun w83 e84 => L_nil <| stepEnd rfl rfl e84 rfl
        · intro s85 w86 e87 hf88 hd89 hu90
          have d91 : s85 16 = (S ((gt a0 x5_2).path)) := (hd89 4 rfl)
          have d92 : s85 18 = (S (markT x1_1)) := (hd89 6 rfl)
          exact L_op (.plain rfl) rfl (ltb rfl) (X_sne d91 d92) <| L_nil <| stepEnd rfl rfl (Ext.refl w86) rfl
        intro s93 w94 e95 hf96 ha97
        have K98 := Kp.ofD (kp := [(12, 20)]) rfl hf96
        have d99 : s93 19 = (.bool (!decide (((gt a0 x5_2).path) = (markT x1_1)))) := ha97 7 rfl
        clear ha97 hf96
        refine thn_n ?_
        rcases bif_two H with ⟨q100, H⟩ | ⟨q100, H⟩
        · refine W_true (d99.trans (congrArg Value.bool q100)) <| W_seq <| W_reg <| L_op (.plain rfl) rfl (ltb rfl) (X_assign (v := (.int .i64 (-1))) rfl) <| L_nil <| thn_n <| W_ret <| thn_r <| blk_r <| thn_r <| thn_r <| blk_r <| thn_r <| thn_r <| fin_r ?_
          obtain rfl := Option.some.inj H
          obtain rfl := Option.some.inj S20
          have H := C5
          obtain rfl := Option.some.inj H
          exact fin1 rfl (Ext.trans e15 e95)
        · refine W_false (d99.trans (congrArg Value.bool q100)) <| W_skip <| thn_n <| W_seq <| W_reg <| L_op (.plain rfl) rfl (ltb rfl) (X_move (v := (.int .i64 x1_1)) ((K98 1 rfl).trans h17)) <| L_op (.plain rfl) rfl (ltb rfl) (X_add rfl rfl) <| L_op (.plain rfl) rfl (ltb rfl) (X_assign (v := (.int .i64 (IntKind.wrap .i64 (x1_1 + 1)))) rfl) <| L_nil <| thn_n <| W_seq <| W_seq <| W_reg <| L_op (.plain rfl) rfl (ltb rfl) (X_move (v := v_a0) ((K98 0 rfl).trans (K14 0 rfl))) <| L_op (.plain rfl) rfl (ltb rfl) (X_move (v := (.int .i64 x5_2)) ((K98 5 rfl).trans h18)) ?_
          obtain ⟨c101, H⟩ := bif_some H
          refine L_idx (.plain rfl) rfl (ltb rfl) rfl Tryz.underlying60 Tryz.sizeOf101 rfl (Rd.ext f_a0 (Ext.trans e15 e95)) rfl c101 <| fun p102 h103 => L_op (.plain rfl) rfl (ltb rfl) (X_fieldAddr Tryz.underlying101 rfl Tryz.sizeOf3 rfl rfl) <| L_op (.plain rfl) rfl (ltb rfl) (X_loadF Tryz.isAgg3 (j := 1) h103 rfl rfl) <| L_op (.plain rfl) rfl (ltb rfl) (X_move (v := (.int .i64 (IntKind.wrap .i64 (x1_1 + 1)))) rfl) <| L_op (.plain rfl) rfl (ltb rfl) (X_neq rfl rfl) <| L_nil <| thn_n ?_
          rcases bif_two H with ⟨q104, H⟩ | ⟨q104, H⟩
          · refine W_true (congrArg Value.bool q104) <| W_seq <| W_reg <| L_op (.plain rfl) rfl (ltb rfl) (X_assign (v := (.int .i64 (-1))) rfl) <| L_nil <| thn_n <| W_ret <| thn_r <| blk_r <| thn_r <| thn_r <| blk_r <| thn_r <| thn_r <| fin_r ?_
            obtain rfl := Option.some.inj H
            obtain rfl := Option.some.inj S20
            have H := C5
            obtain rfl := Option.some.inj H
            exact fin1 rfl (Ext.trans e15 e95)
          · refine W_false (congrArg Value.bool q104) <| W_skip <| thn_n <| W_reg <| L_op (.plain rfl) rfl (ltb rfl) (X_move (v := (.int .i64 (IntKind.wrap .i64 (x1_1 + 1)))) rfl) <| L_op (.plain rfl) rfl (ltb rfl) (X_add rfl rfl) <| L_op (.plain rfl) rfl (ltb rfl) (X_assign (v := (.int .i64 (IntKind.wrap .i64 ((IntKind.wrap .i64 (x1_1 + 1)) + 1)))) rfl) <| L_nil <| blk_n <| thn_n <| W_reg <| L_op (.plain rfl) rfl (ltb rfl) (X_move (v := (.int .i64 x5_2)) ((K98 5 rfl).trans h18)) <| L_op (.plain rfl) rfl (ltb rfl) (X_add rfl rfl) <| L_op (.plain rfl) rfl (ltb rfl) (X_assign (v := (.int .i64 (IntKind.wrap .i64 (x5_2 + 1)))) rfl) <| L_nil <| thn_n ?_
            obtain rfl := Option.some.inj H
            exact ⟨_, Nat.lt_succ_self _, IntKind.wrap .i64 ((IntKind.wrap .i64 (x1_1 + 1)) + 1), IntKind.wrap .i64 (x5_2 + 1), (Kp.upd (Kp.upd (Kp.upd (Kp.upd (Kp.upd (Kp.upd (Kp.upd (Kp.upd (Kp.upd (Kp.upd (Kp.upd (Kp.upd (Kp.upd (Kp.upd (Kp.upd (Kp.upd (Kp.cut (Kp.upd (Kp.upd (Kp.upd (Kp.upd K14 rfl) rfl) rfl) rfl) K98 rfl) rfl) rfl) rfl) rfl) rfl) rfl) rfl) rfl) rfl) rfl) rfl) rfl) rfl) rfl) rfl) rfl), rfl, rfl, (Ext.trans e15 e95), S20⟩
      · refine W_false (congrArg Value.bool q21) <| W_exit <| thn_x <| thn_x <| blk_x <| thn_n ?_
        obtain rfl := Option.some.inj H
        obtain rfl := Option.some.inj S20
        exact ⟨x1_1, (Kp.upd (Kp.upd (Kp.upd (Kp.upd K14 rfl) rfl) rfl) rfl), h17, e15, rfl⟩
  · rintro s8 w7 ⟨x1_6, K9, h105, e10, y106⟩
    rw [y106] at C5
    have H := C5
    replace H : _ = some _ := H
    refine thn_n <| W_seq <| W_reg <| L_op (.plain rfl) rfl (ltb rfl) (X_move (v := (.int .i64 x1_6)) h105) <| L_op (.plain rfl) rfl (ltb rfl) (X_assign (v := (.int .i64 x1_6)) rfl) <| L_nil <| thn_n <| W_ret <| fin_r ?_
    obtain rfl := Option.some.inj H
    exact fin1 rfl e10
theorem laws_heldPickS.calls {w : World} {a0 : List Pick} {a1 : Int} {v_a0 : Value} (f_a0 : Rd 2 encPick w v_a0 a0) (h0 : a0.length ≤ 1152921504606846976) (h1 : (0 : Int) ≤ a1) (h2 : (a1 : Int) ≤ 4611686018427387904 - 2 * (a0.length : Int)) :
    Calls Tryz.prog 52 #[v_a0, .int .i64 a1] w (Rt (RP w (.int .i64 (heldK a0 a1)))) := by
  obtain ⟨k, h⟩ := laws_heldPickS.eq a0 a1 h0 h1 h2
  exact laws_heldPickS.walk f_a0 h
/-! laws.FnExactMergeTrace -/
theorem law_MergeTrace.walk {w : World} {a0 : List (List Rec)} (gv : GV 0 w) {v_a0 : Value} (f_a0 : Rd2 5 encRec w v_a0 a0) {r : Bool} (H : law_MergeTrace.sh a0 = some r) :
    Calls Tryz.prog 11 #[v_a0] w (Rt (RP w (.bool r))) := by
  unfold law_MergeTrace.sh at H
  refine calls_of_W Tryz.func11 rfl (Nat.le_of_ble_eq_true rfl) Tryz.ntmps11 rfl ?_
  refine W_seq <| W_reg <| L_op (.plain rfl) rfl (ltb rfl) (X_assign (v := (.bool false)) rfl) <| L_nil <| thn_n <| W_seq <| W_reg <| L_op (.plain rfl) rfl (ltb rfl) (X_assign (v := (.int .i64 1048576)) rfl) <| L_nil <| thn_n <| W_seq <| W_reg <| L_op (.plain rfl) rfl (ltb rfl) (X_move (v := v_a0) rfl) <| L_op (.plain rfl) rfl (ltb rfl) (X_move (v := (.int .i64 1048576)) rfl) ?_
  obtain ⟨c1, H⟩ := bif_some H
  obtain ⟨c2, H⟩ := bif_some H
  obtain ⟨c3, H⟩ := bif_some H
  obtain ⟨c4, H⟩ := bif_some H
  obtain ⟨c5, H⟩ := bif_some H
  refine L_callP (.plain rfl) rfl (ltb rfl) rfl Tryz.call23 (laws_szRecordSS.calls (w := w) (a0 := a0) (a1 := 1048576) f_a0 (of_decide_eq_true c1) (of_decide_eq_true c2) (of_decide_eq_true c3) (of_decide_eq_true c4) (of_decide_eq_true c5)) rfl <| fun w6 e7 => L_op (.plain rfl) rfl (ltb rfl) (X_assign (v := (.int .i64 (szRecSS a0 1048576))) rfl) <| L_nil <| thn_n <| W_seq <| W_seq <| W_reg <| L_op (.plain rfl) rfl (ltb rfl) (X_move (v := (.int .i64 (szRecSS a0 1048576))) rfl) <| L_op (.plain rfl) rfl (ltb rfl) (X_lss rfl rfl) <| L_nil <| thn_n ?_
  rcases bif_two H with ⟨q8, H⟩ | ⟨q8, H⟩
  · refine W_true (congrArg Value.bool q8) <| W_seq <| W_reg <| L_op (.plain rfl) rfl (ltb rfl) (X_assign (v := (.bool true)) rfl) <| L_nil <| thn_n <| W_ret <| thn_r <| fin_r ?_
    obtain rfl := Option.some.inj H
    exact fin1 rfl e7
  · refine W_false (congrArg Value.bool q8) <| W_skip <| thn_n <| W_seq <| W_reg <| L_op (.plain rfl) rfl (ltb rfl) (X_move (v := v_a0) rfl) ?_
    obtain ⟨c9, H⟩ := bif_some H
    obtain ⟨c10, H⟩ := bif_some H
    refine L_callOS (.plain rfl) rfl (ltb rfl) rfl Tryz.call25 (laws_toRecordSS.calls (w := w6) (a0 := a0) (Rd2.ext f_a0 e7) (of_decide_eq_true c9) (of_decide_eq_true c10)) rfl <| fun v13 w11 e12 o14 => ?_
    obtain ⟨c15, H⟩ := bif_some H
    obtain ⟨c16, H⟩ := bif_some H
    obtain ⟨c17, H⟩ := bif_some H
    refine L_callT (.plain rfl) rfl (ltb rfl) rfl Tryz.call48 (spec_MergeTrace.calls (w := w11) (a0 := a0) (Own2.rd o14) (of_decide_eq_true c15) (of_decide_eq_true c16) (of_decide_eq_true c17)) rfl <| fun v20 w18 e19 o21 => L_op (.plain rfl) rfl (ltb rfl) (X_move (v := (.tuple #[v20, (.int .i64 ((traceOf a0).2))])) rfl) <| L_op (.plain rfl) rfl (ltb rfl) (X_extract (v := v20) rfl rfl) <| L_op (.plain rfl) rfl (ltb rfl) (X_extract (v := (.int .i64 ((traceOf a0).2))) rfl rfl) <| L_op (.plain rfl) rfl (ltb rfl) (X_assign (v := v20) rfl) <| L_op (.plain rfl) rfl (ltb rfl) (X_assign (v := (.int .i64 ((traceOf a0).2))) rfl) <| L_nil <| thn_n <| W_seq <| W_reg <| L_op (.plain rfl) rfl (ltb rfl) (X_move (v := v_a0) rfl) ?_
    obtain ⟨c22, H⟩ := bif_some H
    obtain ⟨c23, H⟩ := bif_some H
    refine L_callOS (.plain rfl) rfl (ltb rfl) rfl Tryz.call25 (laws_toRecordSS.calls (w := w18) (a0 := a0) (Rd2.ext f_a0 (Ext.trans (Ext.trans e7 e12) e19)) (of_decide_eq_true c22) (of_decide_eq_true c23)) rfl <| fun v26 w24 e25 o27 => L_op (.plain rfl) rfl (ltb rfl) (X_assign (v := v26) rfl) <| L_nil <| thn_n <| W_seq <| W_reg <| L_op (.plain rfl) rfl (ltb rfl) (X_move (v := v26) rfl) ?_
    obtain ⟨c28, H⟩ := bif_some H
    obtain ⟨c29, H⟩ := bif_some H
    obtain ⟨c30, H⟩ := bif_some H
    refine L_callT (.plain rfl) rfl (ltb rfl) rfl Tryz.call49 (impl_MergeTrace.calls (w := w24) (a0 := a0) (GV.ext gv (Ext.trans (Ext.trans (Ext.trans e7 e12) e19) e25)) (Own2.rd o27) (of_decide_eq_true c28) (of_decide_eq_true c29) (of_decide_eq_true c30)) rfl <| fun v33 w31 e32 o34 => L_op (.plain rfl) rfl (ltb rfl) (X_move (v := (.tuple #[v33, (.int .i64 ((traceOf a0).2))])) rfl) <| L_op (.plain rfl) rfl (ltb rfl) (X_extract (v := v33) rfl rfl) <| L_op (.plain rfl) rfl (ltb rfl) (X_extract (v := (.int .i64 ((traceOf a0).2))) rfl rfl) <| L_op (.plain rfl) rfl (ltb rfl) (X_assign (v := v33) rfl) <| L_op (.plain rfl) rfl (ltb rfl) (X_assign (v := (.int .i64 ((traceOf a0).2))) rfl) <| L_nil <| thn_n <| W_seq <| W_seq <| W_reg <| L_op (.plain rfl) rfl (ltb rfl) (X_move (v := v33) rfl) <| L_op (.plain rfl) rfl (ltb rfl) (X_move (v := v20) rfl) ?_
    obtain ⟨c35, H⟩ := bif_some H
    refine L_callP (.plain rfl) rfl (ltb rfl) rfl Tryz.call50 (laws_eqPickS.calls (w := w31) (a0 := (traceOf a0).1) (a1 := (traceOf a0).1) (Ow.rd o34) (Ow.rd (Ow.ext o21 (Ext.trans e25 e32))) (of_decide_eq_true c35)) rfl <| fun w36 e37 => L_op (.plain rfl) rfl (ltb rfl) (X_not rfl) <| L_op (.plain rfl) rfl (ltb rfl) (X_move (v := (.bool (!(decide (((traceOf a0).1) = ((traceOf a0).1)))))) rfl) <| L_grp 4 [(37, 41)] 40 (.bool ((!(decide (((traceOf a0).1) = ((traceOf a0).1)))) || (!decide (((traceOf a0).2) = ((traceOf a0).2))))) ?_ ?_
    · rcases bool_two (!(decide (((traceOf a0).1) = ((traceOf a0).1)))) with b37_ | b37_
      · exact L_skip rfl rfl (ltb rfl) (congrArg Value.bool b37_) rfl rfl (ltb rfl) <| L_skip rfl rfl (ltb rfl) (congrArg Value.bool b37_) rfl rfl (ltb rfl) <| L_skip rfl rfl (ltb rfl) (congrArg Value.bool b37_) rfl rfl (ltb rfl) <| L_op (.plain rfl) rfl (ltb rfl) (X_pick (b := true) (v := (.bool true)) (congrArg Value.bool b37_) rfl) <| L_nil <| thn_n ⟨(Kp.upd (Kp.upd (Kp.upd (Kp.upd (Kp.refl _ _) rfl) rfl) rfl) rfl), (or_t b37_), (Ext.refl w36)⟩
      · exact L_op (.guard 4 false 36 rfl rfl (ltb rfl) (congrArg Value.bool b37_)) rfl (ltb rfl) (X_move (v := (.int .i64 ((traceOf a0).2))) rfl) <| L_op (.guard 4 false 36 rfl rfl (ltb rfl) (congrArg Value.bool b37_)) rfl (ltb rfl) (X_move (v := (.int .i64 ((traceOf a0).2))) rfl) <| L_op (.guard 4 false 36 rfl rfl (ltb rfl) (congrArg Value.bool b37_)) rfl (ltb rfl) (X_neq rfl rfl) <| L_op (.plain rfl) rfl (ltb rfl) (X_pick (b := false) (v := (.bool (!decide (((traceOf a0).2) = ((traceOf a0).2))))) (congrArg Value.bool b37_) rfl) <| L_nil <| thn_n ⟨(Kp.upd (Kp.upd (Kp.upd (Kp.upd (Kp.refl _ _) rfl) rfl) rfl) rfl), (or_f b37_), (Ext.refl w36)⟩
    intro s43 w39 K40 h41 e42
    refine L_nil <| thn_n ?_
    rcases bif_two H with ⟨q44, H⟩ | ⟨q44, H⟩
    · refine W_true (h41.trans (congrArg Value.bool q44)) <| W_seq <| W_reg <| L_op (.plain rfl) rfl (ltb rfl) (X_assign (v := (.bool false)) rfl) <| L_nil <| thn_n <| W_ret <| thn_r <| fin_r ?_
      obtain rfl := Option.some.inj H
      exact fin1 rfl (Ext.trans (Ext.trans (Ext.trans (Ext.trans (Ext.trans (Ext.trans e7 e12) e19) e25) e32) e37) e42)
    · refine W_false (h41.trans (congrArg Value.bool q44)) <| W_skip <| thn_n <| W_seq <| W_seq <| W_reg <| L_op (.plain rfl) rfl (ltb rfl) (X_move (v := v26) (K40 6 rfl)) <| L_op (.plain rfl) rfl (ltb rfl) (X_move (v := v_a0) (K40 0 rfl)) ?_
      obtain ⟨c45, H⟩ := bif_some H
      obtain ⟨c46, H⟩ := bif_some H
      refine L_callOS (.plain rfl) rfl (ltb rfl) rfl Tryz.call25 (laws_toRecordSS.calls (w := w39) (a0 := a0) (Rd2.ext f_a0 (Ext.trans (Ext.trans (Ext.trans (Ext.trans (Ext.trans (Ext.trans e7 e12) e19) e25) e32) e37) e42)) (of_decide_eq_true c45) (of_decide_eq_true c46)) rfl <| fun v49 w47 e48 o50 => ?_
      obtain ⟨c51, H⟩ := bif_some H
      obtain ⟨c52, H⟩ := bif_some H
      refine L_callP (.plain rfl) rfl (ltb rfl) rfl Tryz.call27 (laws_eqRecordSS.calls (w := w47) (a0 := a0) (a1 := a0) (Own2.rd (Own2.ext o27 (Ext.trans (Ext.trans (Ext.trans e32 e37) e42) e48))) (Own2.rd o50) (of_decide_eq_true c51) (of_decide_eq_true c52)) rfl <| fun w53 e54 => L_op (.plain rfl) rfl (ltb rfl) (X_not rfl) <| L_nil <| thn_n ?_
      rcases bif_two H with ⟨q55, H⟩ | ⟨q55, H⟩
      · refine W_true (congrArg Value.bool q55) <| W_seq <| W_reg <| L_op (.plain rfl) rfl (ltb rfl) (X_assign (v := (.bool false)) rfl) <| L_nil <| thn_n <| W_ret <| thn_r <| fin_r ?_
        obtain rfl := Option.some.inj H
        exact fin1 rfl (Ext.trans (Ext.trans (Ext.trans (Ext.trans (Ext.trans (Ext.trans (Ext.trans (Ext.trans e7 e12) e19) e25) e32) e37) e42) e48) e54)
      · refine W_false (congrArg Value.bool q55) <| W_skip <| thn_n <| W_seq <| W_reg <| L_op (.plain rfl) rfl (ltb rfl) (X_assign (v := (.int .i64 1)) rfl) <| L_nil <| thn_n <| W_seq <| W_reg <| L_op (.plain rfl) rfl (ltb rfl) (X_move (v := v26) (K40 6 rfl)) <| L_op (.plain rfl) rfl (ltb rfl) (X_move (v := (.int .i64 1)) rfl) ?_
        obtain ⟨c56, H⟩ := bif_some H
        obtain ⟨c57, H⟩ := bif_some H
        obtain ⟨c58, H⟩ := bif_some H
        obtain ⟨c59, H⟩ := bif_some H
        refine L_callM2 (.plain rfl) rfl (ltb rfl) rfl Tryz.call28 (laws_markRecordSS.calls (w := w53) (a0 := a0) (a1 := 1) (Own2.ext o27 (Ext.trans (Ext.trans (Ext.trans (Ext.trans e32 e37) e42) e48) e54)) (Own2.hbx o27 (Ext.trans (Ext.trans (Ext.trans (Ext.trans e32 e37) e42) e48) e54)) (of_decide_eq_true c56) (of_decide_eq_true c57) (of_decide_eq_true c58) (of_decide_eq_true c59)) rfl <| fun w60 e61 o62 => L_op (.plain rfl) rfl (ltb rfl) (X_assign (v := (.int .i64 (1 + 5 * (totL a0 : Int)))) rfl) <| L_nil <| thn_n <| W_seq <| W_seq <| W_reg <| L_op (.plain rfl) rfl (ltb rfl) (X_move (v := (.int .i64 (1 + 5 * (totL a0 : Int)))) rfl) <| L_op (.plain rfl) rfl (ltb rfl) (X_lss rfl rfl) <| L_op (.plain rfl) rfl (ltb rfl) (X_move (v := (.bool (decide ((1 + 5 * (totL a0 : Int)) < 0)))) rfl) ?_
        obtain ⟨z64, x65, H⟩ := bind_some H
        refine L_grpE 5 [(52, 57)] 56 (fun q => q = z64) ?_ ?_
        · rcases bif_two x65 with ⟨b62_, H⟩ | ⟨b62_, H⟩
          · refine L_skip rfl rfl (ltb rfl) (congrArg Value.bool b62_) rfl rfl (ltb rfl) <| L_skip rfl rfl (ltb rfl) (congrArg Value.bool b62_) rfl rfl (ltb rfl) <| L_skip rfl rfl (ltb rfl) (congrArg Value.bool b62_) rfl rfl (ltb rfl) <| L_skip rfl rfl (ltb rfl) (congrArg Value.bool b62_) rfl rfl (ltb rfl) <| L_op (.plain rfl) rfl (ltb rfl) (X_pick (b := true) (v := (.bool true)) (congrArg Value.bool b62_) rfl) ?_
            obtain rfl := Option.some.inj H
            exact L_nil <| thn_n ⟨(Kp.upd (Kp.upd (Kp.upd (Kp.upd (Kp.upd (Kp.refl _ _) rfl) rfl) rfl) rfl) rfl), ⟨_, rfl, rfl⟩, (Ext.refl w60)⟩
          · refine L_op (.guard 2 false 51 rfl rfl (ltb rfl) (congrArg Value.bool b62_)) rfl (ltb rfl) (X_move (v := v33) (K40 7 rfl)) <| L_op (.guard 2 false 51 rfl rfl (ltb rfl) (congrArg Value.bool b62_)) rfl (ltb rfl) (X_move (v := v20) (K40 4 rfl)) ?_
            obtain ⟨c64, H⟩ := bif_some H
            refine L_callP (.guard 2 false 51 rfl rfl (ltb rfl) (congrArg Value.bool b62_)) rfl (ltb rfl) rfl Tryz.call50 (laws_eqPickS.calls (w := w60) (a0 := (traceOf a0).1) (a1 := (traceOf a0).1) (Ow.rd (Ow.later (Ow.ext o34 (Ext.trans (Ext.trans (Ext.trans e37 e42) e48) e54)) e61 (Ext.refl w24).size)) (Ow.rd (Ow.ext o21 (Ext.gr (Ext.trans (Ext.trans (Ext.trans (Ext.trans (Ext.trans e25 e32) e37) e42) e48) e54) e61 (Ext.refl w18).size))) (of_decide_eq_true c64)) rfl <| fun w65 e66 => L_op (.guard 2 false 51 rfl rfl (ltb rfl) (congrArg Value.bool b62_)) rfl (ltb rfl) (X_not rfl) <| L_op (.plain rfl) rfl (ltb rfl) (X_pick (b := false) (v := (.bool (!(decide (((traceOf a0).1) = ((traceOf a0).1)))))) (congrArg Value.bool b62_) rfl) ?_
            obtain rfl := Option.some.inj H
            exact L_nil <| thn_n ⟨(Kp.upd (Kp.upd (Kp.upd (Kp.upd (Kp.upd (Kp.refl _ _) rfl) rfl) rfl) rfl) rfl), ⟨_, rfl, rfl⟩, e66⟩
        intro s70 w66 z71 K67 hq h68 e69
        rw [hq] at h68; clear hq
        refine L_op (.plain rfl) rfl (ltb rfl) (X_move (v := (.bool z64)) h68) <| L_grp 4 [(58, 62)] 61 (.bool (z64 || (!decide (((traceOf a0).2) = ((traceOf a0).2))))) ?_ ?_
        · rcases bool_two z64 with b71_ | b71_
          · exact L_skip rfl rfl (ltb rfl) (congrArg Value.bool b71_) rfl rfl (ltb rfl) <| L_skip rfl rfl (ltb rfl) (congrArg Value.bool b71_) rfl rfl (ltb rfl) <| L_skip rfl rfl (ltb rfl) (congrArg Value.bool b71_) rfl rfl (ltb rfl) <| L_op (.plain rfl) rfl (ltb rfl) (X_pick (b := true) (v := (.bool true)) (congrArg Value.bool b71_) rfl) <| L_nil <| thn_n ⟨(Kp.upd (Kp.upd (Kp.upd (Kp.upd (Kp.refl _ _) rfl) rfl) rfl) rfl), (or_t b71_), (Ext.refl w66)⟩
          · exact L_op (.guard 8 false 57 rfl rfl (ltb rfl) (congrArg Value.bool b71_)) rfl (ltb rfl) (X_move (v := (.int .i64 ((traceOf a0).2))) ((K67 8 rfl).trans (K40 8 rfl))) <| L_op (.guard 8 false 57 rfl rfl (ltb rfl) (congrArg Value.bool b71_)) rfl (ltb rfl) (X_move (v := (.int .i64 ((traceOf a0).2))) ((K67 5 rfl).trans (K40 5 rfl))) <| L_op (.guard 8 false 57 rfl rfl (ltb rfl) (congrArg Value.bool b71_)) rfl (ltb rfl) (X_neq rfl rfl) <| L_op (.plain rfl) rfl (ltb rfl) (X_pick (b := false) (v := (.bool (!decide (((traceOf a0).2) = ((traceOf a0).2))))) (congrArg Value.bool b71_) rfl) <| L_nil <| thn_n ⟨(Kp.upd (Kp.upd (Kp.upd (Kp.upd (Kp.refl _ _) rfl) rfl) rfl) rfl), (or_f b71_), (Ext.refl w66)⟩
        intro s77 w73 K74 h75 e76
        refine L_nil <| thn_n ?_
        rcases bif_two H with ⟨q78, H⟩ | ⟨q78, H⟩
        · refine W_true (h75.trans (congrArg Value.bool q78)) <| W_seq <| W_reg <| L_op (.plain rfl) rfl (ltb rfl) (X_assign (v := (.bool false)) rfl) <| L_nil <| thn_n <| W_ret <| thn_r <| fin_r ?_
          obtain rfl := Option.some.inj H
          exact fin1 rfl (Ext.trans (Ext.trans (Ext.trans (Ext.trans (Ext.trans e7 e12) e19) (Ext.gr (Ext.trans (Ext.trans (Ext.trans (Ext.trans (Ext.trans e25 e32) e37) e42) e48) e54) e61 (Ext.refl w18).size)) e69) e76)
        · refine W_false (h75.trans (congrArg Value.bool q78)) <| W_skip <| thn_n <| W_seq <| W_reg <| L_op (.plain rfl) rfl (ltb rfl) (X_assign (v := (.int .i64 1)) rfl) <| L_nil <| thn_n <| W_seq <| W_reg <| L_op (.plain rfl) rfl (ltb rfl) (X_move (v := v33) ((K74 7 rfl).trans ((K67 7 rfl).trans (K40 7 rfl)))) <| L_op (.plain rfl) rfl (ltb rfl) (X_move (v := (.int .i64 1)) rfl) ?_
          obtain ⟨c79, H⟩ := bif_some H
          obtain ⟨c80, H⟩ := bif_some H
          obtain ⟨c81, H⟩ := bif_some H
          refine L_callM (.plain rfl) rfl (ltb rfl) rfl Tryz.call51 (laws_markPickS.calls (w := w73) (a0 := (traceOf a0).1) (a1 := 1) (Ow.ext (Ow.later (Ow.ext o34 (Ext.trans (Ext.trans (Ext.trans e37 e42) e48) e54)) e61 (Ext.refl w24).size) (Ext.trans e69 e76)) (Ow.hb o34) (of_decide_eq_true c79) (of_decide_eq_true c80) (of_decide_eq_true c81)) rfl <| fun w82 e83 o84 => L_op (.plain rfl) rfl (ltb rfl) (X_assign (v := (.int .i64 (1 + 2 * (((traceOf a0).1).length : Int)))) rfl) <| L_nil <| thn_n <| W_seq <| W_reg <| L_op (.plain rfl) rfl (ltb rfl) (X_assign (v := (.int .i64 1)) rfl) <| L_nil <| thn_n <| W_seq <| W_reg <| L_op (.plain rfl) rfl (ltb rfl) (X_move (v := v33) ((K74 7 rfl).trans ((K67 7 rfl).trans (K40 7 rfl)))) <| L_op (.plain rfl) rfl (ltb rfl) (X_move (v := (.int .i64 1)) rfl) ?_
          obtain ⟨c85, H⟩ := bif_some H
          obtain ⟨c86, H⟩ := bif_some H
          obtain ⟨c87, H⟩ := bif_some H
          refine L_callP (.plain rfl) rfl (ltb rfl) rfl Tryz.call52 (laws_heldPickS.calls (w := w82) (a0 := (marksK ((traceOf a0).1).length 1)) (a1 := 1) (Ow.rd o84) (of_decide_eq_true c85) (of_decide_eq_true c86) (of_decide_eq_true c87)) rfl <| fun w88 e89 => L_op (.plain rfl) rfl (ltb rfl) (X_assign (v := (.int .i64 (heldK (marksK ((traceOf a0).1).length 1) 1))) rfl) <| L_nil <| thn_n <| W_seq <| W_seq <| W_reg <| L_op (.plain rfl) rfl (ltb rfl) (X_move (v := (.int .i64 (heldK (marksK ((traceOf a0).1).length 1) 1))) rfl) <| L_op (.plain rfl) rfl (ltb rfl) (X_lss rfl rfl) <| L_nil <| thn_n ?_
          rcases bif_two H with ⟨q90, H⟩ | ⟨q90, H⟩
          · refine W_true (congrArg Value.bool q90) <| W_seq <| W_reg <| L_op (.plain rfl) rfl (ltb rfl) (X_assign (v := (.bool false)) rfl) <| L_nil <| thn_n <| W_ret <| thn_r <| fin_r ?_
            obtain rfl := Option.some.inj H
            exact fin1 rfl (Ext.trans (Ext.trans (Ext.trans (Ext.trans e7 e12) e19) (Ext.gr (Ext.trans (Ext.trans (Ext.gr (Ext.trans (Ext.trans (Ext.trans (Ext.trans (Ext.trans e25 e32) e37) e42) e48) e54) e61 (Ext.refl w18).size) e69) e76) e83 e25.size)) e89)
          · refine W_false (congrArg Value.bool q90) <| W_skip <| thn_n <| W_seq <| W_seq <| W_reg <| L_op (.plain rfl) rfl (ltb rfl) (X_move (v := (.int .i64 (heldK (marksK ((traceOf a0).1).length 1) 1))) rfl) <| L_op (.plain rfl) rfl (ltb rfl) (X_move (v := (.int .i64 (1 + 2 * (((traceOf a0).1).length : Int)))) rfl) <| L_op (.plain rfl) rfl (ltb rfl) (X_neq rfl rfl) <| L_nil <| thn_n ?_
            rcases bif_two H with ⟨q91, H⟩ | ⟨q91, H⟩
            · refine W_true (congrArg Value.bool q91) <| W_seq <| W_reg <| L_op (.plain rfl) rfl (ltb rfl) (X_assign (v := (.bool false)) rfl) <| L_nil <| thn_n <| W_ret <| thn_r <| fin_r ?_
              obtain rfl := Option.some.inj H
              exact fin1 rfl (Ext.trans (Ext.trans (Ext.trans (Ext.trans e7 e12) e19) (Ext.gr (Ext.trans (Ext.trans (Ext.gr (Ext.trans (Ext.trans (Ext.trans (Ext.trans (Ext.trans e25 e32) e37) e42) e48) e54) e61 (Ext.refl w18).size) e69) e76) e83 e25.size)) e89)
            · refine W_false (congrArg Value.bool q91) <| W_skip <| thn_n <| W_seq <| W_reg <| L_op (.plain rfl) rfl (ltb rfl) (X_move (v := v_a0) ((K74 0 rfl).trans ((K67 0 rfl).trans (K40 0 rfl)))) ?_
              obtain ⟨c92, H⟩ := bif_some H
              obtain ⟨c93, H⟩ := bif_some H
              refine L_callOS (.plain rfl) rfl (ltb rfl) rfl Tryz.call25 (laws_toRecordSS.calls (w := w88) (a0 := a0) (Rd2.ext f_a0 (Ext.trans (Ext.trans (Ext.trans (Ext.trans e7 e12) e19) (Ext.gr (Ext.trans (Ext.trans (Ext.gr (Ext.trans (Ext.trans (Ext.trans (Ext.trans (Ext.trans e25 e32) e37) e42) e48) e54) e61 (Ext.refl w18).size) e69) e76) e83 e25.size)) e89)) (of_decide_eq_true c92) (of_decide_eq_true c93)) rfl <| fun v96 w94 e95 o97 => ?_
              obtain ⟨c98, H⟩ := bif_some H
              obtain ⟨c99, H⟩ := bif_some H
              obtain ⟨c100, H⟩ := bif_some H
              refine L_callT (.plain rfl) rfl (ltb rfl) rfl Tryz.call49 (impl_MergeTrace.calls (w := w94) (a0 := a0) (GV.ext gv (Ext.trans (Ext.trans (Ext.trans (Ext.trans (Ext.trans e7 e12) e19) (Ext.gr (Ext.trans (Ext.trans (Ext.gr (Ext.trans (Ext.trans (Ext.trans (Ext.trans (Ext.trans e25 e32) e37) e42) e48) e54) e61 (Ext.refl w18).size) e69) e76) e83 e25.size)) e89) e95)) (Own2.rd o97) (of_decide_eq_true c98) (of_decide_eq_true c99) (of_decide_eq_true c100)) rfl <| fun v103 w101 e102 o104 => L_op (.plain rfl) rfl (ltb rfl) (X_move (v := (.tuple #[v103, (.int .i64 ((traceOf a0).2))])) rfl) <| L_op (.plain rfl) rfl (ltb rfl) (X_extract (v := v103) rfl rfl) <| L_op (.plain rfl) rfl (ltb rfl) (X_extract (v := (.int .i64 ((traceOf a0).2))) rfl rfl) <| L_op (.plain rfl) rfl (ltb rfl) (X_assign (v := v103) rfl) <| L_op (.plain rfl) rfl (ltb rfl) (X_assign (v := (.int .i64 ((traceOf a0).2))) rfl) <| L_nil <| thn_n <| W_seq <| W_seq <| W_reg <| L_op (.plain rfl) rfl (ltb rfl) (X_move (v := v103) rfl) <| L_op (.plain rfl) rfl (ltb rfl) (X_move (v := v20) ((K74 4 rfl).trans ((K67 4 rfl).trans (K40 4 rfl)))) ?_
              obtain ⟨c105, H⟩ := bif_some H
              refine L_callP (.plain rfl) rfl (ltb rfl) rfl Tryz.call50 (laws_eqPickS.calls (w := w101) (a0 := (traceOf a0).1) (a1 := (traceOf a0).1) (Ow.rd o104) (Ow.rd (Ow.ext o21 (Ext.trans (Ext.trans (Ext.trans (Ext.gr (Ext.trans (Ext.trans (Ext.gr (Ext.trans (Ext.trans (Ext.trans (Ext.trans (Ext.trans e25 e32) e37) e42) e48) e54) e61 (Ext.refl w18).size) e69) e76) e83 e25.size) e89) e95) e102))) (of_decide_eq_true c105)) rfl <| fun w106 e107 => L_op (.plain rfl) rfl (ltb rfl) (X_not rfl) <| L_op (.plain rfl) rfl (ltb rfl) (X_move (v := (.bool (!(decide (((traceOf a0).1) = ((traceOf a0).1)))))) rfl) <| L_grp 4 [(84, 88)] 87 (.bool ((!(decide (((traceOf a0).1) = ((traceOf a0).1)))) || (!decide (((traceOf a0).2) = ((traceOf a0).2))))) ?_ ?_
              · rcases bool_two (!(decide (((traceOf a0).1) = ((traceOf a0).1)))) with b107_ | b107_
                · exact L_skip rfl rfl (ltb rfl) (congrArg Value.bool b107_) rfl rfl (ltb rfl) <| L_skip rfl rfl (ltb rfl) (congrArg Value.bool b107_) rfl rfl (ltb rfl) <| L_skip rfl rfl (ltb rfl) (congrArg Value.bool b107_) rfl rfl (ltb rfl) <| L_op (.plain rfl) rfl (ltb rfl) (X_pick (b := true) (v := (.bool true)) (congrArg Value.bool b107_) rfl) <| L_nil <| thn_n ⟨(Kp.upd (Kp.upd (Kp.upd (Kp.upd (Kp.refl _ _) rfl) rfl) rfl) rfl), (or_t b107_), (Ext.refl w106)⟩
                · exact L_op (.guard 4 false 83 rfl rfl (ltb rfl) (congrArg Value.bool b107_)) rfl (ltb rfl) (X_move (v := (.int .i64 ((traceOf a0).2))) rfl) <| L_op (.guard 4 false 83 rfl rfl (ltb rfl) (congrArg Value.bool b107_)) rfl (ltb rfl) (X_move (v := (.int .i64 ((traceOf a0).2))) ((K74 5 rfl).trans ((K67 5 rfl).trans (K40 5 rfl)))) <| L_op (.guard 4 false 83 rfl rfl (ltb rfl) (congrArg Value.bool b107_)) rfl (ltb rfl) (X_neq rfl rfl) <| L_op (.plain rfl) rfl (ltb rfl) (X_pick (b := false) (v := (.bool (!decide (((traceOf a0).2) = ((traceOf a0).2))))) (congrArg Value.bool b107_) rfl) <| L_nil <| thn_n ⟨(Kp.upd (Kp.upd (Kp.upd (Kp.upd (Kp.refl _ _) rfl) rfl) rfl) rfl), (or_f b107_), (Ext.refl w106)⟩
              intro s113 w109 K110 h111 e112
              refine L_nil <| thn_n ?_
              rcases bif_two H with ⟨q114, H⟩ | ⟨q114, H⟩
              · refine W_true (h111.trans (congrArg Value.bool q114)) <| W_seq <| W_reg <| L_op (.plain rfl) rfl (ltb rfl) (X_assign (v := (.bool false)) rfl) <| L_nil <| thn_n <| W_ret <| thn_r <| fin_r ?_
                obtain rfl := Option.some.inj H
                exact fin1 rfl (Ext.trans (Ext.trans (Ext.trans (Ext.trans (Ext.trans (Ext.trans (Ext.trans (Ext.trans e7 e12) e19) (Ext.gr (Ext.trans (Ext.trans (Ext.gr (Ext.trans (Ext.trans (Ext.trans (Ext.trans (Ext.trans e25 e32) e37) e42) e48) e54) e61 (Ext.refl w18).size) e69) e76) e83 e25.size)) e89) e95) e102) e107) e112)
              · refine W_false (h111.trans (congrArg Value.bool q114)) <| W_skip <| thn_n <| W_seq <| W_reg <| L_op (.plain rfl) rfl (ltb rfl) (X_assign (v := (.int .i64 1)) rfl) <| L_nil <| thn_n <| W_seq <| W_reg <| L_op (.plain rfl) rfl (ltb rfl) (X_move (v := v33) ((K110 7 rfl).trans ((K74 7 rfl).trans ((K67 7 rfl).trans (K40 7 rfl))))) <| L_op (.plain rfl) rfl (ltb rfl) (X_move (v := (.int .i64 1)) rfl) ?_
                obtain ⟨c115, H⟩ := bif_some H
                obtain ⟨c116, H⟩ := bif_some H
                obtain ⟨c117, H⟩ := bif_some H
                refine L_callP (.plain rfl) rfl (ltb rfl) rfl Tryz.call52 (laws_heldPickS.calls (w := w109) (a0 := (marksK ((traceOf a0).1).length 1)) (a1 := 1) (Ow.rd (Ow.ext o84 (Ext.trans (Ext.trans (Ext.trans (Ext.trans e89 e95) e102) e107) e112))) (of_decide_eq_true c115) (of_decide_eq_true c116) (of_decide_eq_true c117)) rfl <| fun w118 e119 => L_op (.plain rfl) rfl (ltb rfl) (X_assign (v := (.int .i64 (heldK (marksK ((traceOf a0).1).length 1) 1))) rfl) <| L_nil <| thn_n <| W_seq <| W_seq <| W_reg <| L_op (.plain rfl) rfl (ltb rfl) (X_move (v := (.int .i64 (heldK (marksK ((traceOf a0).1).length 1) 1))) rfl) <| L_op (.plain rfl) rfl (ltb rfl) (X_lss rfl rfl) <| L_nil <| thn_n ?_
                rcases bif_two H with ⟨q120, H⟩ | ⟨q120, H⟩
                · refine W_true (congrArg Value.bool q120) <| W_seq <| W_reg <| L_op (.plain rfl) rfl (ltb rfl) (X_assign (v := (.bool false)) rfl) <| L_nil <| thn_n <| W_ret <| thn_r <| fin_r ?_
                  obtain rfl := Option.some.inj H
                  exact fin1 rfl (Ext.trans (Ext.trans (Ext.trans (Ext.trans (Ext.trans (Ext.trans (Ext.trans (Ext.trans (Ext.trans e7 e12) e19) (Ext.gr (Ext.trans (Ext.trans (Ext.gr (Ext.trans (Ext.trans (Ext.trans (Ext.trans (Ext.trans e25 e32) e37) e42) e48) e54) e61 (Ext.refl w18).size) e69) e76) e83 e25.size)) e89) e95) e102) e107) e112) e119)
                · refine W_false (congrArg Value.bool q120) <| W_skip <| thn_n <| W_seq <| W_seq <| W_reg <| L_op (.plain rfl) rfl (ltb rfl) (X_move (v := (.int .i64 (heldK (marksK ((traceOf a0).1).length 1) 1))) rfl) <| L_op (.plain rfl) rfl (ltb rfl) (X_move (v := (.int .i64 (1 + 2 * (((traceOf a0).1).length : Int)))) (K110 10 rfl)) <| L_op (.plain rfl) rfl (ltb rfl) (X_neq rfl rfl) <| L_nil <| thn_n ?_
                  rcases bif_two H with ⟨q121, H⟩ | ⟨q121, H⟩
                  · refine W_true (congrArg Value.bool q121) <| W_seq <| W_reg <| L_op (.plain rfl) rfl (ltb rfl) (X_assign (v := (.bool false)) rfl) <| L_nil <| thn_n <| W_ret <| thn_r <| fin_r ?_
                    obtain rfl := Option.some.inj H
                    exact fin1 rfl (Ext.trans (Ext.trans (Ext.trans (Ext.trans (Ext.trans (Ext.trans (Ext.trans (Ext.trans (Ext.trans e7 e12) e19) (Ext.gr (Ext.trans (Ext.trans (Ext.gr (Ext.trans (Ext.trans (Ext.trans (Ext.trans (Ext.trans e25 e32) e37) e42) e48) e54) e61 (Ext.refl w18).size) e69) e76) e83 e25.size)) e89) e95) e102) e107) e112) e119)
                  · refine W_false (congrArg Value.bool q121) <| W_skip <| thn_n <| W_seq <| W_reg <| L_op (.plain rfl) rfl (ltb rfl) (X_assign (v := (.bool true)) rfl) <| L_nil <| thn_n <| W_ret <| fin_r ?_
                    obtain rfl := Option.some.inj H
                    exact fin1 rfl (Ext.trans (Ext.trans (Ext.trans (Ext.trans (Ext.trans (Ext.trans (Ext.trans (Ext.trans (Ext.trans e7 e12) e19) (Ext.gr (Ext.trans (Ext.trans (Ext.gr (Ext.trans (Ext.trans (Ext.trans (Ext.trans (Ext.trans e25 e32) e37) e42) e48) e54) e61 (Ext.refl w18).size) e69) e76) e83 e25.size)) e89) e95) e102) e107) e112) e119)
theorem law_MergeTrace.calls {w : World} {a0 : List (List Rec)} (gv : GV 0 w) {v_a0 : Value} (f_a0 : Rd2 5 encRec w v_a0 a0) (h0 : ∀ l ∈ a0, ∀ x ∈ l, okRec x) (h1 : a0.length ≤ 9223372036854775807) (h2 : ∀ l ∈ a0, l.length ≤ 9223372036854775807) :
    Calls Tryz.prog 11 #[v_a0] w (Rt (RP w (.bool true))) := law_MergeTrace.walk gv f_a0 (law_MergeTrace.eq a0 h0 h1 h2)
end Go.Proofs.YthpjkenkbfkdhaaGreatDoor
