/- The walks, by program (wip/tools). -/
import Derived.Test.YtilogldgepaeiaaDoorProg
import Derived.Test.YtilogldgepaeiaaDoorWA
set_option linter.unusedVariables false
set_option maxRecDepth 10000
namespace Go.Proofs.YtilogldgepaeiaaDoor
open Go.UL Go.RowKit
/-! laws.FnExactMakeFile -/
theorem law_MakeFile.walk {w : World} {a0 : List UInt8} {a1 : List UInt8} {a2 : Int} (gv : GV 0 w) {r : Bool} (H : law_MakeFile.sh a0 a1 a2 = some r) :
    Calls Tryd.prog 5 #[S a0, S a1, .int .i64 a2] w (Rt (RP w (.bool r))) := by
  unfold law_MakeFile.sh at H
  refine calls_of_W Tryd.func5 rfl (Nat.le_of_ble_eq_true rfl) Tryd.ntmps5 rfl ?_
  refine W_seq <| W_reg <| L_op (.plain rfl) rfl (ltb rfl) (X_assign (v := (.bool false)) rfl) <| L_nil <| thn_n <| W_seq <| W_seq <| W_reg <| L_op (.plain rfl) rfl (ltb rfl) (X_move (v := (S a0)) rfl) <| L_op (.plain rfl) rfl (ltb rfl) (X_lenS Tryd.underlying9 rfl) <| L_op (.plain rfl) rfl (ltb rfl) (X_gtr rfl rfl) <| L_nil <| thn_n ?_
  rcases bif_two H with ⟨q1, H⟩ | ⟨q1, H⟩
  · refine W_true (congrArg Value.bool q1) <| W_seq <| W_reg <| L_op (.plain rfl) rfl (ltb rfl) (X_assign (v := (.bool true)) rfl) <| L_nil <| thn_n <| W_ret <| thn_r <| fin_r ?_
    obtain rfl := Option.some.inj H
    exact fin1 rfl (Ext.refl w)
  · refine W_false (congrArg Value.bool q1) <| W_skip <| thn_n <| W_seq <| W_seq <| W_reg <| L_op (.plain rfl) rfl (ltb rfl) (X_move (v := (S a1)) rfl) <| L_op (.plain rfl) rfl (ltb rfl) (X_lenS Tryd.underlying9 rfl) <| L_op (.plain rfl) rfl (ltb rfl) (X_gtr rfl rfl) <| L_nil <| thn_n ?_
    rcases bif_two H with ⟨q2, H⟩ | ⟨q2, H⟩
    · refine W_true (congrArg Value.bool q2) <| W_seq <| W_reg <| L_op (.plain rfl) rfl (ltb rfl) (X_assign (v := (.bool true)) rfl) <| L_nil <| thn_n <| W_ret <| thn_r <| fin_r ?_
      obtain rfl := Option.some.inj H
      exact fin1 rfl (Ext.refl w)
    · refine W_false (congrArg Value.bool q2) <| W_skip <| thn_n <| W_seq <| W_reg <| L_op (.plain rfl) rfl (ltb rfl) (X_move (v := (S a0)) rfl) <| L_op (.plain rfl) rfl (ltb rfl) (X_move (v := (S a1)) rfl) <| L_op (.plain rfl) rfl (ltb rfl) (X_move (v := (.int .i64 a2)) rfl) <| L_callP (.plain rfl) rfl (ltb rfl) rfl Tryd.call20 (spec_MakeFile.calls (w := w) (a0 := a0) (a1 := a1) (a2 := a2)) rfl <| fun w3 e4 => L_op (.plain rfl) rfl (ltb rfl) (X_move rfl) <| L_op (.plain rfl) rfl (ltb rfl) (X_extract (v := (.agg (encRec ((makeR ⟨1, a0, a1, a2, false⟩).1)).toArray)) rfl rfl) <| L_op (.plain rfl) rfl (ltb rfl) (X_extract (v := (.int .i64 ((makeR ⟨1, a0, a1, a2, false⟩).2))) rfl rfl) <| L_alloc (.plain rfl) rfl (ltb rfl) rfl Tryd.zeroValue23 <| fun b5 w6 z7 z8 e9 k10 => L_storeA (.plain rfl) rfl rfl Tryd.sizeOf23 rfl rfl rfl rfl rfl k10 <| fun w11 h12 k13 => L_op (.plain rfl) rfl (ltb rfl) (X_assign (v := (.int .i64 ((makeR ⟨1, a0, a1, a2, false⟩).2))) rfl) <| L_nil <| thn_n <| W_seq <| W_reg <| L_op (.plain rfl) rfl (ltb rfl) (X_move (v := (S a0)) rfl) <| L_op (.plain rfl) rfl (ltb rfl) (X_move (v := (S a1)) rfl) <| L_op (.plain rfl) rfl (ltb rfl) (X_move (v := (.int .i64 a2)) rfl) <| L_callP (.plain rfl) rfl (ltb rfl) rfl Tryd.call21 (impl_MakeFile.calls (w := w11) (a0 := a0) (a1 := a1) (a2 := a2) (GV.ext gv (Ext.trans e4 (Below.trans e9 (Wr.below h12 (Nat.le_of_eq z7)))))) rfl <| fun w14 e15 => L_op (.plain rfl) rfl (ltb rfl) (X_move rfl) <| L_op (.plain rfl) rfl (ltb rfl) (X_extract (v := (.agg (encRec ((makeR ⟨1, a0, a1, a2, false⟩).1)).toArray)) rfl rfl) <| L_op (.plain rfl) rfl (ltb rfl) (X_extract (v := (.int .i64 ((makeR ⟨1, a0, a1, a2, false⟩).2))) rfl rfl) <| L_alloc (.plain rfl) rfl (ltb rfl) rfl Tryd.zeroValue23 <| fun b16 w17 z18 z19 e20 k21 => L_storeA (.plain rfl) rfl rfl Tryd.sizeOf23 rfl rfl rfl rfl rfl k21 <| fun w22 h23 k24 => L_op (.plain rfl) rfl (ltb rfl) (X_assign (v := (.int .i64 ((makeR ⟨1, a0, a1, a2, false⟩).2))) rfl) <| L_nil <| thn_n <| W_seq <| W_seq <| W_reg <| L_op (.plain rfl) rfl (ltb rfl) (X_loadS Tryd.isAgg23 Tryd.sizeOf23 rfl rfl (Blk.at0 k24)) <| L_op (.plain rfl) rfl (ltb rfl) (X_loadS Tryd.isAgg23 Tryd.sizeOf23 rfl rfl (Blk.at0 (Blk.ext k13 (Ext.trans e15 (Below.trans e20 (Wr.below h23 (Nat.le_of_eq z18))))))) <| L_callP (.plain rfl) rfl (ltb rfl) rfl Tryd.call17 (laws_eqRecord.calls (w := w22) (a0 := ((makeR ⟨1, a0, a1, a2, false⟩).1)) (a1 := ((makeR ⟨1, a0, a1, a2, false⟩).1))) rfl <| fun w25 e26 => L_op (.plain rfl) rfl (ltb rfl) (X_not rfl) <| L_op (.plain rfl) rfl (ltb rfl) (X_move rfl) <| L_grp 4 [(36, 40)] 39 (.bool ((!(decide (((makeR ⟨1, a0, a1, a2, false⟩).1) = ((makeR ⟨1, a0, a1, a2, false⟩).1)))) || (!decide (((makeR ⟨1, a0, a1, a2, false⟩).2) = ((makeR ⟨1, a0, a1, a2, false⟩).2))))) ?_ ?_
      · rcases bool_two (!(decide (((makeR ⟨1, a0, a1, a2, false⟩).1) = ((makeR ⟨1, a0, a1, a2, false⟩).1)))) with b26_ | b26_
        · exact L_skip rfl rfl (ltb rfl) (congrArg Value.bool b26_) rfl rfl (ltb rfl) <| L_skip rfl rfl (ltb rfl) (congrArg Value.bool b26_) rfl rfl (ltb rfl) <| L_skip rfl rfl (ltb rfl) (congrArg Value.bool b26_) rfl rfl (ltb rfl) <| L_op (.plain rfl) rfl (ltb rfl) (X_pick (b := true) (v := (.bool true)) (congrArg Value.bool b26_) rfl) <| L_nil <| thn_n ⟨(Kp.upd (Kp.upd (Kp.upd (Kp.upd (Kp.refl _ _) rfl) rfl) rfl) rfl), (or_t b26_), (Ext.refl w25)⟩
        · exact L_op (.guard 4 false 35 rfl rfl (ltb rfl) (congrArg Value.bool b26_)) rfl (ltb rfl) (X_move (v := (.int .i64 ((makeR ⟨1, a0, a1, a2, false⟩).2))) rfl) <| L_op (.guard 4 false 35 rfl rfl (ltb rfl) (congrArg Value.bool b26_)) rfl (ltb rfl) (X_move (v := (.int .i64 ((makeR ⟨1, a0, a1, a2, false⟩).2))) rfl) <| L_op (.guard 4 false 35 rfl rfl (ltb rfl) (congrArg Value.bool b26_)) rfl (ltb rfl) (X_neq rfl rfl) <| L_op (.plain rfl) rfl (ltb rfl) (X_pick (b := false) (v := (.bool (!decide (((makeR ⟨1, a0, a1, a2, false⟩).2) = ((makeR ⟨1, a0, a1, a2, false⟩).2))))) (congrArg Value.bool b26_) rfl) <| L_nil <| thn_n ⟨(Kp.upd (Kp.upd (Kp.upd (Kp.upd (Kp.refl _ _) rfl) rfl) rfl) rfl), (or_f b26_), (Ext.refl w25)⟩
      intro s32 w28 K29 h30 e31
      refine L_nil <| thn_n ?_
      rcases bif_two H with ⟨q33, H⟩ | ⟨q33, H⟩
      · refine W_true (h30.trans (congrArg Value.bool q33)) <| W_seq <| W_reg <| L_op (.plain rfl) rfl (ltb rfl) (X_assign (v := (.bool false)) rfl) <| L_nil <| thn_n <| W_ret <| thn_r <| fin_r ?_
        obtain rfl := Option.some.inj H
        exact fin1 rfl (Ext.trans (Ext.trans (Ext.trans (Ext.trans (Ext.trans e4 (Below.trans e9 (Wr.below h12 (Nat.le_of_eq z7)))) e15) (Below.trans e20 (Wr.below h23 (Nat.le_of_eq z18)))) e26) e31)
      · refine W_false (h30.trans (congrArg Value.bool q33)) <| W_skip <| thn_n <| W_seq <| W_reg <| L_op (.plain rfl) rfl (ltb rfl) (X_assign (v := (.bool true)) rfl) <| L_nil <| thn_n <| W_ret <| fin_r ?_
        obtain rfl := Option.some.inj H
        exact fin1 rfl (Ext.trans (Ext.trans (Ext.trans (Ext.trans (Ext.trans e4 (Below.trans e9 (Wr.below h12 (Nat.le_of_eq z7)))) e15) (Below.trans e20 (Wr.below h23 (Nat.le_of_eq z18)))) e26) e31)
theorem law_MakeFile.calls {w : World} {a0 : List UInt8} {a1 : List UInt8} {a2 : Int} (gv : GV 0 w) :
    Calls Tryd.prog 5 #[S a0, S a1, .int .i64 a2] w (Rt (RP w (.bool true))) := law_MakeFile.walk gv (law_MakeFile.eq a0 a1 a2)
/-! laws.FnExactMakeLink -/
theorem law_MakeLink.walk {w : World} {a0 : List UInt8} {a1 : List UInt8} (gv : GV 0 w) {r : Bool} (H : law_MakeLink.sh a0 a1 = some r) :
    Calls Tryd.prog 6 #[S a0, S a1] w (Rt (RP w (.bool r))) := by
  unfold law_MakeLink.sh at H
  refine calls_of_W Tryd.func6 rfl (Nat.le_of_ble_eq_true rfl) Tryd.ntmps6 rfl ?_
  refine W_seq <| W_reg <| L_op (.plain rfl) rfl (ltb rfl) (X_assign (v := (.bool false)) rfl) <| L_nil <| thn_n <| W_seq <| W_seq <| W_reg <| L_op (.plain rfl) rfl (ltb rfl) (X_move (v := (S a0)) rfl) <| L_op (.plain rfl) rfl (ltb rfl) (X_lenS Tryd.underlying9 rfl) <| L_op (.plain rfl) rfl (ltb rfl) (X_gtr rfl rfl) <| L_nil <| thn_n ?_
  rcases bif_two H with ⟨q1, H⟩ | ⟨q1, H⟩
  · refine W_true (congrArg Value.bool q1) <| W_seq <| W_reg <| L_op (.plain rfl) rfl (ltb rfl) (X_assign (v := (.bool true)) rfl) <| L_nil <| thn_n <| W_ret <| thn_r <| fin_r ?_
    obtain rfl := Option.some.inj H
    exact fin1 rfl (Ext.refl w)
  · refine W_false (congrArg Value.bool q1) <| W_skip <| thn_n <| W_seq <| W_seq <| W_reg <| L_op (.plain rfl) rfl (ltb rfl) (X_move (v := (S a1)) rfl) <| L_op (.plain rfl) rfl (ltb rfl) (X_lenS Tryd.underlying9 rfl) <| L_op (.plain rfl) rfl (ltb rfl) (X_gtr rfl rfl) <| L_nil <| thn_n ?_
    rcases bif_two H with ⟨q2, H⟩ | ⟨q2, H⟩
    · refine W_true (congrArg Value.bool q2) <| W_seq <| W_reg <| L_op (.plain rfl) rfl (ltb rfl) (X_assign (v := (.bool true)) rfl) <| L_nil <| thn_n <| W_ret <| thn_r <| fin_r ?_
      obtain rfl := Option.some.inj H
      exact fin1 rfl (Ext.refl w)
    · refine W_false (congrArg Value.bool q2) <| W_skip <| thn_n <| W_seq <| W_reg <| L_op (.plain rfl) rfl (ltb rfl) (X_move (v := (S a0)) rfl) <| L_op (.plain rfl) rfl (ltb rfl) (X_move (v := (S a1)) rfl) <| L_callP (.plain rfl) rfl (ltb rfl) rfl Tryd.call22 (spec_MakeLink.calls (w := w) (a0 := a0) (a1 := a1)) rfl <| fun w3 e4 => L_op (.plain rfl) rfl (ltb rfl) (X_move rfl) <| L_op (.plain rfl) rfl (ltb rfl) (X_extract (v := (.agg (encRec ((makeR ⟨2, a0, a1, 0, false⟩).1)).toArray)) rfl rfl) <| L_op (.plain rfl) rfl (ltb rfl) (X_extract (v := (.int .i64 ((makeR ⟨2, a0, a1, 0, false⟩).2))) rfl rfl) <| L_alloc (.plain rfl) rfl (ltb rfl) rfl Tryd.zeroValue23 <| fun b5 w6 z7 z8 e9 k10 => L_storeA (.plain rfl) rfl rfl Tryd.sizeOf23 rfl rfl rfl rfl rfl k10 <| fun w11 h12 k13 => L_op (.plain rfl) rfl (ltb rfl) (X_assign (v := (.int .i64 ((makeR ⟨2, a0, a1, 0, false⟩).2))) rfl) <| L_nil <| thn_n <| W_seq <| W_reg <| L_op (.plain rfl) rfl (ltb rfl) (X_move (v := (S a0)) rfl) <| L_op (.plain rfl) rfl (ltb rfl) (X_move (v := (S a1)) rfl) <| L_callP (.plain rfl) rfl (ltb rfl) rfl Tryd.call23 (impl_MakeLink.calls (w := w11) (a0 := a0) (a1 := a1) (GV.ext gv (Ext.trans e4 (Below.trans e9 (Wr.below h12 (Nat.le_of_eq z7)))))) rfl <| fun w14 e15 => L_op (.plain rfl) rfl (ltb rfl) (X_move rfl) <| L_op (.plain rfl) rfl (ltb rfl) (X_extract (v := (.agg (encRec ((makeR ⟨2, a0, a1, 0, false⟩).1)).toArray)) rfl rfl) <| L_op (.plain rfl) rfl (ltb rfl) (X_extract (v := (.int .i64 ((makeR ⟨2, a0, a1, 0, false⟩).2))) rfl rfl) <| L_alloc (.plain rfl) rfl (ltb rfl) rfl Tryd.zeroValue23 <| fun b16 w17 z18 z19 e20 k21 => L_storeA (.plain rfl) rfl rfl Tryd.sizeOf23 rfl rfl rfl rfl rfl k21 <| fun w22 h23 k24 => L_op (.plain rfl) rfl (ltb rfl) (X_assign (v := (.int .i64 ((makeR ⟨2, a0, a1, 0, false⟩).2))) rfl) <| L_nil <| thn_n <| W_seq <| W_seq <| W_reg <| L_op (.plain rfl) rfl (ltb rfl) (X_loadS Tryd.isAgg23 Tryd.sizeOf23 rfl rfl (Blk.at0 k24)) <| L_op (.plain rfl) rfl (ltb rfl) (X_loadS Tryd.isAgg23 Tryd.sizeOf23 rfl rfl (Blk.at0 (Blk.ext k13 (Ext.trans e15 (Below.trans e20 (Wr.below h23 (Nat.le_of_eq z18))))))) <| L_callP (.plain rfl) rfl (ltb rfl) rfl Tryd.call17 (laws_eqRecord.calls (w := w22) (a0 := ((makeR ⟨2, a0, a1, 0, false⟩).1)) (a1 := ((makeR ⟨2, a0, a1, 0, false⟩).1))) rfl <| fun w25 e26 => L_op (.plain rfl) rfl (ltb rfl) (X_not rfl) <| L_op (.plain rfl) rfl (ltb rfl) (X_move rfl) <| L_grp 4 [(32, 36)] 35 (.bool ((!(decide (((makeR ⟨2, a0, a1, 0, false⟩).1) = ((makeR ⟨2, a0, a1, 0, false⟩).1)))) || (!decide (((makeR ⟨2, a0, a1, 0, false⟩).2) = ((makeR ⟨2, a0, a1, 0, false⟩).2))))) ?_ ?_
      · rcases bool_two (!(decide (((makeR ⟨2, a0, a1, 0, false⟩).1) = ((makeR ⟨2, a0, a1, 0, false⟩).1)))) with b26_ | b26_
        · exact L_skip rfl rfl (ltb rfl) (congrArg Value.bool b26_) rfl rfl (ltb rfl) <| L_skip rfl rfl (ltb rfl) (congrArg Value.bool b26_) rfl rfl (ltb rfl) <| L_skip rfl rfl (ltb rfl) (congrArg Value.bool b26_) rfl rfl (ltb rfl) <| L_op (.plain rfl) rfl (ltb rfl) (X_pick (b := true) (v := (.bool true)) (congrArg Value.bool b26_) rfl) <| L_nil <| thn_n ⟨(Kp.upd (Kp.upd (Kp.upd (Kp.upd (Kp.refl _ _) rfl) rfl) rfl) rfl), (or_t b26_), (Ext.refl w25)⟩
        · exact L_op (.guard 4 false 31 rfl rfl (ltb rfl) (congrArg Value.bool b26_)) rfl (ltb rfl) (X_move (v := (.int .i64 ((makeR ⟨2, a0, a1, 0, false⟩).2))) rfl) <| L_op (.guard 4 false 31 rfl rfl (ltb rfl) (congrArg Value.bool b26_)) rfl (ltb rfl) (X_move (v := (.int .i64 ((makeR ⟨2, a0, a1, 0, false⟩).2))) rfl) <| L_op (.guard 4 false 31 rfl rfl (ltb rfl) (congrArg Value.bool b26_)) rfl (ltb rfl) (X_neq rfl rfl) <| L_op (.plain rfl) rfl (ltb rfl) (X_pick (b := false) (v := (.bool (!decide (((makeR ⟨2, a0, a1, 0, false⟩).2) = ((makeR ⟨2, a0, a1, 0, false⟩).2))))) (congrArg Value.bool b26_) rfl) <| L_nil <| thn_n ⟨(Kp.upd (Kp.upd (Kp.upd (Kp.upd (Kp.refl _ _) rfl) rfl) rfl) rfl), (or_f b26_), (Ext.refl w25)⟩
      intro s32 w28 K29 h30 e31
      refine L_nil <| thn_n ?_
      rcases bif_two H with ⟨q33, H⟩ | ⟨q33, H⟩
      · refine W_true (h30.trans (congrArg Value.bool q33)) <| W_seq <| W_reg <| L_op (.plain rfl) rfl (ltb rfl) (X_assign (v := (.bool false)) rfl) <| L_nil <| thn_n <| W_ret <| thn_r <| fin_r ?_
        obtain rfl := Option.some.inj H
        exact fin1 rfl (Ext.trans (Ext.trans (Ext.trans (Ext.trans (Ext.trans e4 (Below.trans e9 (Wr.below h12 (Nat.le_of_eq z7)))) e15) (Below.trans e20 (Wr.below h23 (Nat.le_of_eq z18)))) e26) e31)
      · refine W_false (h30.trans (congrArg Value.bool q33)) <| W_skip <| thn_n <| W_seq <| W_reg <| L_op (.plain rfl) rfl (ltb rfl) (X_assign (v := (.bool true)) rfl) <| L_nil <| thn_n <| W_ret <| fin_r ?_
        obtain rfl := Option.some.inj H
        exact fin1 rfl (Ext.trans (Ext.trans (Ext.trans (Ext.trans (Ext.trans e4 (Below.trans e9 (Wr.below h12 (Nat.le_of_eq z7)))) e15) (Below.trans e20 (Wr.below h23 (Nat.le_of_eq z18)))) e26) e31)
theorem law_MakeLink.calls {w : World} {a0 : List UInt8} {a1 : List UInt8} (gv : GV 0 w) :
    Calls Tryd.prog 6 #[S a0, S a1] w (Rt (RP w (.bool true))) := law_MakeLink.walk gv (law_MakeLink.eq a0 a1)
/-! spec.l01Parent -/
theorem spec_l01Parent.walk {k : Nat} {w : World} {a0 : List UInt8} {r : List UInt8} (H : spec_l01Parent.sh k a0 = some r) :
    Calls Tryd.prog 49 #[S a0] w (Rt (RP w (S r))) := by
  unfold spec_l01Parent.sh at H
  refine calls_of_W Tryd.func49 rfl (Nat.le_of_ble_eq_true rfl) Tryd.ntmps49 rfl ?_
  refine W_seq <| W_reg <| L_op (.plain rfl) rfl (ltb rfl) (X_assign (v := (S ([] : List UInt8))) rfl) <| L_nil <| thn_n <| W_seq <| W_seq <| W_reg <| L_op (.plain rfl) rfl (ltb rfl) (X_move (v := (S a0)) rfl) <| L_op (.plain rfl) rfl (ltb rfl) (X_lenS Tryd.underlying9 rfl) <| L_op (.plain rfl) rfl (ltb rfl) (X_sub rfl rfl) <| L_op (.plain rfl) rfl (ltb rfl) (X_assign (v := (.int .i64 (IntKind.wrap .i64 ((a0.length : Int) - 1)))) rfl) <| L_nil <| thn_n ?_
  obtain ⟨z2, L3, C4⟩ := bind_some H
  clear H
  refine  W_cutQ (fun s0 s9 w9 => Kp [(2, 4), (7, 18)] s0 s9 ∧ Ext w w9 ∧ z2 = .inr ()) ?_ ?_
  · refine W_block <| W_loopI (fun s0 kk s9 w9 => ∃ (x3_1 : Int), Kp [(2, 4), (7, 18)] s0 s9 ∧ s9 3 = .int .i64 x3_1 ∧ Ext w w9 ∧ loopF (spec_l01Parent.b1 a0) kk x3_1 = some z2) k ⟨IntKind.wrap .i64 ((a0.length : Int) - 1), (Kp.refl _ _), rfl, (Ext.refl w), L3⟩ ?_
    rintro k9 s10 w11 ⟨x3_1, K12, h15, e13, L14⟩
    cases k9 with
    | zero => exact absurd L14 (by simp [loopF])
    | succ k9 =>
      obtain ⟨t16, H, S17⟩ := loopF_succ L14
      clear L14
      unfold spec_l01Parent.b1 at H
      refine W_seq <| W_seq <| W_reg <| L_op (.plain rfl) rfl (ltb rfl) (X_move (v := (.int .i64 x3_1)) h15) <| L_op (.plain rfl) rfl (ltb rfl) (X_geq rfl rfl) <| L_nil <| thn_n ?_
      rcases bif_two H with ⟨q18, H⟩ | ⟨q18, H⟩
      · refine W_true (congrArg Value.bool q18) <| W_skip <| thn_n <| W_seq <| W_block <| W_seq <| W_reg <| L_op (.plain rfl) rfl (ltb rfl) (X_move (v := (S a0)) (K12 0 rfl)) <| L_op (.plain rfl) rfl (ltb rfl) (X_move (v := (.int .i64 x3_1)) h15) ?_
        obtain ⟨c19, H⟩ := bif_some H
        refine L_op (.plain rfl) rfl (ltb rfl) (X_indexS Tryd.underlying9 rfl rfl (inR_lo c19) (inR_hi c19)) <| L_op (.plain rfl) rfl (ltb rfl) (X_eql rfl rfl) <| L_nil <| thn_n ?_
        rcases bif_two H with ⟨q20, H⟩ | ⟨q20, H⟩
        · refine W_true (congrArg Value.bool q20) <| W_seq <| W_reg <| L_op (.plain rfl) rfl (ltb rfl) (X_move (v := (S a0)) (K12 0 rfl)) <| L_op (.plain rfl) rfl (ltb rfl) (X_move (v := (.int .i64 x3_1)) h15) ?_
          obtain ⟨c21, H⟩ := bif_some H
          refine L_op (.plain rfl) rfl (ltb rfl) (X_sliceS Tryd.underlying9 rfl (l := 0) (h := x3_1) rfl ⟨_, rfl⟩ (inS_1 c21) (inS_2 c21) (inS_3 c21)) <| L_op (.plain rfl) rfl (ltb rfl) (X_assign (v := (S (sub a0 0 x3_1))) rfl) <| L_nil <| thn_n <| W_ret <| blk_r <| thn_r <| thn_r <| blk_r <| thn_r <| thn_r <| fin_r ?_
          obtain rfl := Option.some.inj H
          obtain rfl := Option.some.inj S17
          have H := C4
          obtain rfl := Option.some.inj H
          exact fin1 rfl e13
        · refine W_false (congrArg Value.bool q20) <| W_skip <| blk_n <| thn_n <| W_reg <| L_op (.plain rfl) rfl (ltb rfl) (X_move (v := (.int .i64 x3_1)) h15) <| L_op (.plain rfl) rfl (ltb rfl) (X_sub rfl rfl) <| L_op (.plain rfl) rfl (ltb rfl) (X_assign (v := (.int .i64 (IntKind.wrap .i64 (x3_1 - 1)))) rfl) <| L_nil <| thn_n ?_
          obtain rfl := Option.some.inj H
          exact ⟨_, Nat.lt_succ_self _, IntKind.wrap .i64 (x3_1 - 1), (Kp.upd (Kp.upd (Kp.upd (Kp.upd (Kp.upd (Kp.upd (Kp.upd (Kp.upd (Kp.upd K12 rfl) rfl) rfl) rfl) rfl) rfl) rfl) rfl) rfl), rfl, e13, S17⟩
      · refine W_false (congrArg Value.bool q18) <| W_exit <| thn_x <| thn_x <| blk_x <| thn_n ?_
        obtain rfl := Option.some.inj H
        obtain rfl := Option.some.inj S17
        exact ⟨(Kp.upd (Kp.upd K12 rfl) rfl), e13, rfl⟩
  · rintro s6 w5 ⟨K7, e8, y22⟩
    rw [y22] at C4
    have H := C4
    replace H : _ = some _ := H
    refine thn_n <| W_seq <| W_reg <| L_op (.plain rfl) rfl (ltb rfl) (X_assign (v := (S ([] : List UInt8))) rfl) <| L_nil <| thn_n <| W_ret <| fin_r ?_
    obtain rfl := Option.some.inj H
    exact fin1 rfl e8
theorem spec_l01Parent.calls {w : World} {a0 : List UInt8} (h0 : a0.length ≤ 4611686018427387904) :
    Calls Tryd.prog 49 #[S a0] w (Rt (RP w (S (parentP a0)))) := by
  obtain ⟨k, h⟩ := spec_l01Parent.eq a0 h0
  exact spec_l01Parent.walk h
/-! spec.ParentOf -/
theorem spec_ParentOf.walk {w : World} {a0 : List UInt8} {r : List UInt8 × Int} (H : spec_ParentOf.sh a0 = some r) :
    Calls Tryd.prog 24 #[S a0] w (Rt (RP w (.tuple #[S r.1, .int .i64 r.2]))) := by
  unfold spec_ParentOf.sh at H
  refine calls_of_W Tryd.func24 rfl (Nat.le_of_ble_eq_true rfl) Tryd.ntmps24 rfl ?_
  refine W_seq <| W_reg <| L_op (.plain rfl) rfl (ltb rfl) (X_assign (v := (S ([] : List UInt8))) rfl) <| L_op (.plain rfl) rfl (ltb rfl) (X_assign (v := (.int .i64 0)) rfl) <| L_nil <| thn_n <| W_seq <| W_seq <| W_reg <| L_op (.plain rfl) rfl (ltb rfl) (X_move (v := (S a0)) rfl) <| L_op (.plain rfl) rfl (ltb rfl) (X_lenS Tryd.underlying9 rfl) <| L_op (.plain rfl) rfl (ltb rfl) (X_gtr rfl rfl) <| L_nil <| thn_n ?_
  rcases bif_two H with ⟨q1, H⟩ | ⟨q1, H⟩
  · refine W_true (congrArg Value.bool q1) <| W_seq <| W_reg <| L_op (.plain rfl) rfl (ltb rfl) (X_assign (v := (S ([] : List UInt8))) rfl) <| L_op (.plain rfl) rfl (ltb rfl) (X_assign (v := (.int .i64 2)) rfl) <| L_nil <| thn_n <| W_ret <| thn_r <| fin_r ?_
    obtain rfl := Option.some.inj H
    exact fin2 rfl rfl (Ext.refl w)
  · refine W_false (congrArg Value.bool q1) <| W_skip <| thn_n <| W_seq <| W_seq <| W_reg <| L_op (.plain rfl) rfl (ltb rfl) (X_move (v := (S a0)) rfl) <| L_callP (.plain rfl) rfl (ltb rfl) rfl Tryd.call48 (spec_l01Ask.calls (w := w) (a0 := a0)) rfl <| fun w2 e3 => L_op (.plain rfl) rfl (ltb rfl) (X_assign (v := (.int .i64 (askP a0))) rfl) <| L_nil <| thn_n <| W_seq <| W_reg <| L_op (.plain rfl) rfl (ltb rfl) (X_move (v := (.int .i64 (askP a0))) rfl) <| L_op (.plain rfl) rfl (ltb rfl) (X_neq rfl rfl) <| L_nil <| thn_n ?_
    rcases bif_two H with ⟨q4, H⟩ | ⟨q4, H⟩
    · refine W_true (congrArg Value.bool q4) <| W_seq <| W_reg <| L_op (.plain rfl) rfl (ltb rfl) (X_move (v := (.int .i64 (askP a0))) rfl) <| L_op (.plain rfl) rfl (ltb rfl) (X_assign (v := (S ([] : List UInt8))) rfl) <| L_op (.plain rfl) rfl (ltb rfl) (X_assign (v := (.int .i64 (askP a0))) rfl) <| L_nil <| thn_n <| W_ret <| thn_r <| fin_r ?_
      obtain rfl := Option.some.inj H
      exact fin2 rfl rfl e3
    · refine W_false (congrArg Value.bool q4) <| W_skip <| thn_n <| W_seq <| W_reg <| L_op (.plain rfl) rfl (ltb rfl) (X_move (v := (S a0)) rfl) ?_
      obtain ⟨c5, H⟩ := bif_some H
      refine L_callP (.plain rfl) rfl (ltb rfl) rfl Tryd.call49 (spec_l01Parent.calls (w := w2) (a0 := a0) (of_decide_eq_true c5)) rfl <| fun w6 e7 => L_op (.plain rfl) rfl (ltb rfl) (X_assign (v := (S (parentP a0))) rfl) <| L_op (.plain rfl) rfl (ltb rfl) (X_assign (v := (.int .i64 0)) rfl) <| L_nil <| thn_n <| W_ret <| fin_r ?_
      obtain rfl := Option.some.inj H
      exact fin2 rfl rfl (Ext.trans e3 e7)
theorem spec_ParentOf.calls {w : World} {a0 : List UInt8} :
    Calls Tryd.prog 24 #[S a0] w (Rt (RP w (.tuple #[S ((parentOf a0).1), .int .i64 ((parentOf a0).2)]))) := spec_ParentOf.walk (spec_ParentOf.eq a0)
/-! impl.parent -/
theorem impl_parent.walk {w : World} {a0 : List UInt8} {r : List UInt8} (H : impl_parent.sh a0 = some r) :
    Calls Tryd.prog 53 #[S a0] w (Rt (RP w (S r))) := by
  unfold impl_parent.sh at H
  refine calls_of_W Tryd.func53 rfl (Nat.le_of_ble_eq_true rfl) Tryd.ntmps53 rfl ?_
  refine W_seq <| W_reg <| L_op (.plain rfl) rfl (ltb rfl) (X_assign (v := (S ([] : List UInt8))) rfl) <| L_nil <| thn_n <| W_seq <| W_reg <| L_op (.plain rfl) rfl (ltb rfl) (X_move (v := (S a0)) rfl) <| L_op (.plain rfl) rfl (ltb rfl) (X_move (v := (S a0)) rfl) ?_
  obtain ⟨c1, H⟩ := bif_some H
  obtain ⟨c2, H⟩ := bif_some H
  refine L_callP (.plain rfl) rfl (ltb rfl) rfl Tryd.call80 (strings_LastIndex.calls (w := w) (a0 := a0) (a1 := ([47] : List UInt8)) (of_decide_eq_true c1) (of_decide_eq_true c2)) rfl <| fun w3 e4 => L_op (.plain rfl) rfl (ltb rfl) (X_max rfl rfl) ?_
  obtain ⟨c5, H⟩ := bif_some H
  refine L_op (.plain rfl) rfl (ltb rfl) (X_sliceS Tryd.underlying9 rfl (l := 0) (h := (if ((lastSlash a0) < 0 : Prop) then 0 else (lastSlash a0))) rfl ⟨_, rfl⟩ (inS_1 c5) (inS_2 c5) (inS_3 c5)) <| L_op (.plain rfl) rfl (ltb rfl) (X_assign rfl) <| L_nil <| thn_n <| W_ret <| fin_r ?_
  obtain rfl := Option.some.inj H
  exact fin1 rfl e4
theorem impl_parent.calls {w : World} {a0 : List UInt8} (h0 : a0.length ≤ 1048576) :
    Calls Tryd.prog 53 #[S a0] w (Rt (RP w (S (parentP a0)))) := impl_parent.walk (impl_parent.eq a0 h0)
/-! impl.ParentOf -/
theorem impl_ParentOf.walk {w : World} {a0 : List UInt8} (gv : GV 0 w) {r : List UInt8 × Int} (H : impl_ParentOf.sh a0 = some r) :
    Calls Tryd.prog 25 #[S a0] w (Rt (RP w (.tuple #[S r.1, .int .i64 r.2]))) := by
  unfold impl_ParentOf.sh at H
  refine calls_of_W Tryd.func25 rfl (Nat.le_of_ble_eq_true rfl) Tryd.ntmps25 rfl ?_
  refine W_seq <| W_reg <| L_op (.plain rfl) rfl (ltb rfl) (X_assign (v := (S ([] : List UInt8))) rfl) <| L_op (.plain rfl) rfl (ltb rfl) (X_assign (v := (.int .i64 0)) rfl) <| L_nil <| thn_n <| W_seq <| W_seq <| W_reg <| L_op (.plain rfl) rfl (ltb rfl) (X_move (v := (S a0)) rfl) <| L_lit (.plain rfl) rfl (ltb rfl) rfl Tryd.underlying77 Tryd.sizeOf9 Tryd.zeroValue9 rfl rfl rfl (vs := [(S a0)]) rfl (lit_all rfl) <| fun b1 w2 z3 z4 e5 k6 => ?_
  obtain ⟨c7, H⟩ := bif_some H
  refine L_callP (.plain rfl) rfl (ltb rfl) rfl Tryd.call51 (impl_isLong.calls (w := w2) (a0 := ([a0] : List (List UInt8))) (Own.rd (Own.new (xs := [a0]) (sz := 1) (enc := encS) (base := w.heap.size) k6 (Nat.le_of_eq z3) rfl (fun _ _ => by rfl) (Nat.le_of_ble_eq_true rfl))) (of_decide_eq_true c7)) rfl <| fun w8 e9 => L_op (.plain rfl) rfl (ltb rfl) (X_mkiface Tryd.underlying4 rfl rfl) <| L_op (.plain rfl) rfl (ltb rfl) (X_mkiface Tryd.underlying3 rfl rfl) <| L_op (.plain rfl) rfl (ltb rfl) (X_move (v := (S a0)) rfl) <| L_callP (.plain rfl) rfl (ltb rfl) rfl Tryd.call52 (impl_PathOK.calls (w := w8) (a0 := a0) (GV.ext gv (Ext.trans e5 e9))) rfl <| fun w10 e11 => L_op (.plain rfl) rfl (ltb rfl) (X_not rfl) <| L_op (.plain rfl) rfl (ltb rfl) (X_mkiface Tryd.underlying4 rfl rfl) <| L_op (.plain rfl) rfl (ltb rfl) (X_mkiface Tryd.underlying3 rfl rfl) <| L_lit (.plain rfl) rfl (ltb rfl) rfl Tryd.underlying74 Tryd.sizeOf20 Tryd.zeroValue20 rfl rfl rfl (vs := [(.iface 4 (.bool (([a0] : List (List UInt8)).any fun t => decide (65536 < t.length)))), (.iface 3 (.int .i64 2)), (.iface 4 (.bool (!(pathOK a0)))), (.iface 3 (.int .i64 10))]) rfl (lit_all rfl) <| fun b12 w13 z14 z15 e16 k17 => ?_
  obtain ⟨c18, H⟩ := bif_some H
  obtain ⟨z21, x22, H⟩ := bind_some H
  replace x22 := Option.some.inj x22
  refine L_callP (.plain rfl) rfl (ltb rfl) rfl Tryd.call50 (impl_first.calls (w := w13) (a0 := ([.inl (([a0] : List (List UInt8)).any fun t => decide (65536 < t.length)), .inr 2, .inl (!(pathOK a0)), .inr 10] : List (Bool ⊕ Int))) (Own.rd (Own.new (xs := [.inl (([a0] : List (List UInt8)).any fun t => decide (65536 < t.length)), .inr 2, .inl (!(pathOK a0)), .inr 10]) (sz := 1) (enc := (encAny 4 3)) (base := w10.heap.size) k17 (Nat.le_of_eq z14) rfl (fun _ _ => by first | rfl | exact encAny_len _ _ _) (Nat.le_of_ble_eq_true rfl))) (of_decide_eq_true c18)) rfl <| fun w19 e20 => L_op (.plain rfl) rfl (ltb rfl) (X_assign (v := (.int .i64 z21)) (congrArg (Value.int .i64) x22)) <| L_nil <| thn_n <| W_seq <| W_reg <| L_op (.plain rfl) rfl (ltb rfl) (X_move (v := (.int .i64 z21)) rfl) <| L_op (.plain rfl) rfl (ltb rfl) (X_neq rfl rfl) <| L_nil <| thn_n ?_
  rcases bif_two H with ⟨q23, H⟩ | ⟨q23, H⟩
  · refine W_true (congrArg Value.bool q23) <| W_seq <| W_reg <| L_op (.plain rfl) rfl (ltb rfl) (X_move (v := (.int .i64 z21)) rfl) <| L_op (.plain rfl) rfl (ltb rfl) (X_assign (v := (S ([] : List UInt8))) rfl) <| L_op (.plain rfl) rfl (ltb rfl) (X_assign (v := (.int .i64 z21)) rfl) <| L_nil <| thn_n <| W_ret <| thn_r <| fin_r ?_
    obtain rfl := Option.some.inj H
    exact fin2 rfl rfl (Ext.trans (Ext.trans (Ext.trans (Ext.trans e5 e9) e11) e16) e20)
  · refine W_false (congrArg Value.bool q23) <| W_skip <| thn_n <| W_seq <| W_reg <| L_op (.plain rfl) rfl (ltb rfl) (X_move (v := (S a0)) rfl) ?_
    obtain ⟨c24, H⟩ := bif_some H
    refine L_callP (.plain rfl) rfl (ltb rfl) rfl Tryd.call53 (impl_parent.calls (w := w19) (a0 := a0) (of_decide_eq_true c24)) rfl <| fun w25 e26 => L_op (.plain rfl) rfl (ltb rfl) (X_assign (v := (S (parentP a0))) rfl) <| L_op (.plain rfl) rfl (ltb rfl) (X_assign (v := (.int .i64 0)) rfl) <| L_nil <| thn_n <| W_ret <| fin_r ?_
    obtain rfl := Option.some.inj H
    exact fin2 rfl rfl (Ext.trans (Ext.trans (Ext.trans (Ext.trans (Ext.trans e5 e9) e11) e16) e20) e26)
theorem impl_ParentOf.calls {w : World} {a0 : List UInt8} (gv : GV 0 w) :
    Calls Tryd.prog 25 #[S a0] w (Rt (RP w (.tuple #[S ((parentOf a0).1), .int .i64 ((parentOf a0).2)]))) := impl_ParentOf.walk gv (impl_ParentOf.eq a0)
/-! laws.FnExactParentOf -/
theorem law_ParentOf.walk {w : World} {a0 : List UInt8} (gv : GV 0 w) {r : Bool} (H : law_ParentOf.sh a0 = some r) :
    Calls Tryd.prog 7 #[S a0] w (Rt (RP w (.bool r))) := by
  unfold law_ParentOf.sh at H
  refine calls_of_W Tryd.func7 rfl (Nat.le_of_ble_eq_true rfl) Tryd.ntmps7 rfl ?_
  refine W_seq <| W_reg <| L_op (.plain rfl) rfl (ltb rfl) (X_assign (v := (.bool false)) rfl) <| L_nil <| thn_n <| W_seq <| W_seq <| W_reg <| L_op (.plain rfl) rfl (ltb rfl) (X_move (v := (S a0)) rfl) <| L_op (.plain rfl) rfl (ltb rfl) (X_lenS Tryd.underlying9 rfl) <| L_op (.plain rfl) rfl (ltb rfl) (X_gtr rfl rfl) <| L_nil <| thn_n ?_
  rcases bif_two H with ⟨q1, H⟩ | ⟨q1, H⟩
  · refine W_true (congrArg Value.bool q1) <| W_seq <| W_reg <| L_op (.plain rfl) rfl (ltb rfl) (X_assign (v := (.bool true)) rfl) <| L_nil <| thn_n <| W_ret <| thn_r <| fin_r ?_
    obtain rfl := Option.some.inj H
    exact fin1 rfl (Ext.refl w)
  · refine W_false (congrArg Value.bool q1) <| W_skip <| thn_n <| W_seq <| W_reg <| L_op (.plain rfl) rfl (ltb rfl) (X_move (v := (S a0)) rfl) <| L_callP (.plain rfl) rfl (ltb rfl) rfl Tryd.call24 (spec_ParentOf.calls (w := w) (a0 := a0)) rfl <| fun w2 e3 => L_op (.plain rfl) rfl (ltb rfl) (X_move (v := (.tuple #[(S ((parentOf a0).1)), (.int .i64 ((parentOf a0).2))])) rfl) <| L_op (.plain rfl) rfl (ltb rfl) (X_extract (v := (S ((parentOf a0).1))) rfl rfl) <| L_op (.plain rfl) rfl (ltb rfl) (X_extract (v := (.int .i64 ((parentOf a0).2))) rfl rfl) <| L_op (.plain rfl) rfl (ltb rfl) (X_assign (v := (S ((parentOf a0).1))) rfl) <| L_op (.plain rfl) rfl (ltb rfl) (X_assign (v := (.int .i64 ((parentOf a0).2))) rfl) <| L_nil <| thn_n <| W_seq <| W_reg <| L_op (.plain rfl) rfl (ltb rfl) (X_move (v := (S a0)) rfl) <| L_callP (.plain rfl) rfl (ltb rfl) rfl Tryd.call25 (impl_ParentOf.calls (w := w2) (a0 := a0) (GV.ext gv e3)) rfl <| fun w4 e5 => L_op (.plain rfl) rfl (ltb rfl) (X_move (v := (.tuple #[(S ((parentOf a0).1)), (.int .i64 ((parentOf a0).2))])) rfl) <| L_op (.plain rfl) rfl (ltb rfl) (X_extract (v := (S ((parentOf a0).1))) rfl rfl) <| L_op (.plain rfl) rfl (ltb rfl) (X_extract (v := (.int .i64 ((parentOf a0).2))) rfl rfl) <| L_op (.plain rfl) rfl (ltb rfl) (X_assign (v := (S ((parentOf a0).1))) rfl) <| L_op (.plain rfl) rfl (ltb rfl) (X_assign (v := (.int .i64 ((parentOf a0).2))) rfl) <| L_nil <| thn_n <| W_seq <| W_seq <| W_reg <| L_op (.plain rfl) rfl (ltb rfl) (X_move (v := (S ((parentOf a0).1))) rfl) <| L_op (.plain rfl) rfl (ltb rfl) (X_move (v := (S ((parentOf a0).1))) rfl) <| L_op (.plain rfl) rfl (ltb rfl) (X_sne rfl rfl) <| L_op (.plain rfl) rfl (ltb rfl) (X_move (v := (.bool (!decide (((parentOf a0).1) = ((parentOf a0).1))))) rfl) <| L_grp 4 [(24, 28)] 27 (.bool ((!decide (((parentOf a0).1) = ((parentOf a0).1))) || (!decide (((parentOf a0).2) = ((parentOf a0).2))))) ?_ ?_
    · rcases bool_two (!decide (((parentOf a0).1) = ((parentOf a0).1))) with b5_ | b5_
      · exact L_skip rfl rfl (ltb rfl) (congrArg Value.bool b5_) rfl rfl (ltb rfl) <| L_skip rfl rfl (ltb rfl) (congrArg Value.bool b5_) rfl rfl (ltb rfl) <| L_skip rfl rfl (ltb rfl) (congrArg Value.bool b5_) rfl rfl (ltb rfl) <| L_op (.plain rfl) rfl (ltb rfl) (X_pick (b := true) (v := (.bool true)) (congrArg Value.bool b5_) rfl) <| L_nil <| thn_n ⟨(Kp.upd (Kp.upd (Kp.upd (Kp.upd (Kp.refl _ _) rfl) rfl) rfl) rfl), (or_t b5_), (Ext.refl w4)⟩
      · exact L_op (.guard 3 false 23 rfl rfl (ltb rfl) (congrArg Value.bool b5_)) rfl (ltb rfl) (X_move (v := (.int .i64 ((parentOf a0).2))) rfl) <| L_op (.guard 3 false 23 rfl rfl (ltb rfl) (congrArg Value.bool b5_)) rfl (ltb rfl) (X_move (v := (.int .i64 ((parentOf a0).2))) rfl) <| L_op (.guard 3 false 23 rfl rfl (ltb rfl) (congrArg Value.bool b5_)) rfl (ltb rfl) (X_neq rfl rfl) <| L_op (.plain rfl) rfl (ltb rfl) (X_pick (b := false) (v := (.bool (!decide (((parentOf a0).2) = ((parentOf a0).2))))) (congrArg Value.bool b5_) rfl) <| L_nil <| thn_n ⟨(Kp.upd (Kp.upd (Kp.upd (Kp.upd (Kp.refl _ _) rfl) rfl) rfl) rfl), (or_f b5_), (Ext.refl w4)⟩
    intro s11 w7 K8 h9 e10
    refine L_nil <| thn_n ?_
    rcases bif_two H with ⟨q12, H⟩ | ⟨q12, H⟩
    · refine W_true (h9.trans (congrArg Value.bool q12)) <| W_seq <| W_reg <| L_op (.plain rfl) rfl (ltb rfl) (X_assign (v := (.bool false)) rfl) <| L_nil <| thn_n <| W_ret <| thn_r <| fin_r ?_
      obtain rfl := Option.some.inj H
      exact fin1 rfl (Ext.trans (Ext.trans e3 e5) e10)
    · refine W_false (h9.trans (congrArg Value.bool q12)) <| W_skip <| thn_n <| W_seq <| W_reg <| L_op (.plain rfl) rfl (ltb rfl) (X_assign (v := (.bool true)) rfl) <| L_nil <| thn_n <| W_ret <| fin_r ?_
      obtain rfl := Option.some.inj H
      exact fin1 rfl (Ext.trans (Ext.trans e3 e5) e10)
theorem law_ParentOf.calls {w : World} {a0 : List UInt8} (gv : GV 0 w) :
    Calls Tryd.prog 7 #[S a0] w (Rt (RP w (.bool true))) := law_ParentOf.walk gv (law_ParentOf.eq a0)
/-! laws.szRecordS -/
theorem laws_szRecordS.walk {k : Nat} {w : World} {a0 : List Rec} {a1 : Int} {v_a0 : Value} (f_a0 : Rd 5 encRec w v_a0 a0) {r : Int} (H : laws_szRecordS.sh k a0 a1 = some r) :
    Calls Tryd.prog 33 #[v_a0, .int .i64 a1] w (Rt (RP w (.int .i64 r))) := by
  unfold laws_szRecordS.sh at H
  refine calls_of_W Tryd.func33 rfl (Nat.le_of_ble_eq_true rfl) Tryd.ntmps33 rfl ?_
  refine W_seq <| W_reg <| L_op (.plain rfl) rfl (ltb rfl) (X_assign (v := (.int .i64 0)) rfl) <| L_nil <| thn_n <| W_seq <| W_reg <| L_op (.plain rfl) rfl (ltb rfl) (X_move (v := (.int .i64 a1)) rfl) <| L_op (.plain rfl) rfl (ltb rfl) (X_move (v := v_a0) rfl) <| L_op (.plain rfl) rfl (ltb rfl) (X_lenR Tryd.underlying44 rfl f_a0) <| L_op (.plain rfl) rfl (ltb rfl) (X_sub rfl rfl) <| L_op (.plain rfl) rfl (ltb rfl) (X_assign (v := (.int .i64 (IntKind.wrap .i64 (a1 - (a0.length : Int))))) rfl) <| L_nil <| thn_n <| W_seq <| W_seq <| W_reg <| L_op (.plain rfl) rfl (ltb rfl) (X_move (v := (.int .i64 (IntKind.wrap .i64 (a1 - (a0.length : Int))))) rfl) <| L_op (.plain rfl) rfl (ltb rfl) (X_lss rfl rfl) <| L_nil <| thn_n ?_
  rcases bif_two H with ⟨q1, H⟩ | ⟨q1, H⟩
  · refine W_true (congrArg Value.bool q1) <| W_seq <| W_reg <| L_op (.plain rfl) rfl (ltb rfl) (X_assign (v := (.int .i64 (-1))) rfl) <| L_nil <| thn_n <| W_ret <| thn_r <| fin_r ?_
    obtain rfl := Option.some.inj H
    exact fin1 rfl (Ext.refl w)
  · refine W_false (congrArg Value.bool q1) <| W_skip <| thn_n <| W_seq <| W_seq <| W_reg <| L_op (.plain rfl) rfl (ltb rfl) (X_assign (v := (.int .i64 0)) rfl) <| L_nil <| thn_n ?_
    obtain ⟨z4, L5, C6⟩ := bind_some H
    clear H
    refine  W_cutQ (fun s0 s9 w9 => ∃ (x1_7 : Int), Kp [(1, 2), (4, 6), (12, 26)] s0 s9 ∧ s9 1 = .int .i64 x1_7 ∧ Ext w w9 ∧ z4 = .inr x1_7) ?_ ?_
    · refine W_block <| W_loopI (fun s0 kk s9 w9 => ∃ (x1_2 : Int) (x5_3 : Int), Kp [(1, 2), (4, 6), (12, 26)] s0 s9 ∧ s9 1 = .int .i64 x1_2 ∧ s9 5 = .int .i64 x5_3 ∧ Ext w w9 ∧ loopF (laws_szRecordS.b1 a0) kk (x1_2, x5_3) = some z4) k ⟨IntKind.wrap .i64 (a1 - (a0.length : Int)), 0, (Kp.refl _ _), rfl, rfl, (Ext.refl w), L5⟩ ?_
      rintro k12 s13 w14 ⟨x1_2, x5_3, K15, h18, h19, e16, L17⟩
      cases k12 with
      | zero => exact absurd L17 (by simp [loopF])
      | succ k12 =>
        obtain ⟨t20, H, S21⟩ := loopF_succ L17
        clear L17
        unfold laws_szRecordS.b1 at H
        refine W_seq <| W_seq <| W_reg <| L_op (.plain rfl) rfl (ltb rfl) (X_move (v := (.int .i64 x5_3)) h19) <| L_op (.plain rfl) rfl (ltb rfl) (X_move (v := v_a0) (K15 0 rfl)) <| L_op (.plain rfl) rfl (ltb rfl) (X_lenR Tryd.underlying44 rfl (Rd.ext f_a0 e16)) <| L_op (.plain rfl) rfl (ltb rfl) (X_lss rfl rfl) <| L_nil <| thn_n ?_
        rcases bif_two H with ⟨q22, H⟩ | ⟨q22, H⟩
        · refine W_true (congrArg Value.bool q22) <| W_skip <| thn_n <| W_seq <| W_block <| W_seq <| W_reg <| L_op (.plain rfl) rfl (ltb rfl) (X_move (v := v_a0) (K15 0 rfl)) <| L_op (.plain rfl) rfl (ltb rfl) (X_move (v := (.int .i64 x5_3)) h19) ?_
          obtain ⟨c23, H⟩ := bif_some H
          refine L_idx (.plain rfl) rfl (ltb rfl) rfl Tryd.underlying44 Tryd.sizeOf70 rfl (Rd.ext f_a0 e16) rfl c23 <| fun p24 h25 => L_op (.plain rfl) rfl (ltb rfl) (X_loadS Tryd.isAgg70 Tryd.sizeOf70 rfl rfl h25) <| L_op (.plain rfl) rfl (ltb rfl) (X_move (v := (.int .i64 x1_2)) h18) ?_
          obtain ⟨c26, H⟩ := bif_some H
          obtain ⟨c27, H⟩ := bif_some H
          obtain ⟨c28, H⟩ := bif_some H
          obtain ⟨c29, H⟩ := bif_some H
          refine L_callP (.plain rfl) rfl (ltb rfl) rfl Tryd.call63 (laws_szRecord.calls (w := w14) (a0 := gt a0 x5_3) (a1 := x1_2) (of_decide_eq_true c26) (of_decide_eq_true c27) (of_decide_eq_true c28) (of_decide_eq_true c29)) rfl <| fun w30 e31 => L_op (.plain rfl) rfl (ltb rfl) (X_assign (v := (.int .i64 (szRec (gt a0 x5_3) x1_2))) rfl) <| L_nil <| thn_n <| W_seq <| W_reg <| L_op (.plain rfl) rfl (ltb rfl) (X_move (v := (.int .i64 (szRec (gt a0 x5_3) x1_2))) rfl) <| L_op (.plain rfl) rfl (ltb rfl) (X_lss rfl rfl) <| L_nil <| thn_n ?_
          rcases bif_two H with ⟨q32, H⟩ | ⟨q32, H⟩
          · refine W_true (congrArg Value.bool q32) <| W_seq <| W_reg <| L_op (.plain rfl) rfl (ltb rfl) (X_assign (v := (.int .i64 (-1))) rfl) <| L_nil <| thn_n <| W_ret <| blk_r <| thn_r <| thn_r <| blk_r <| thn_r <| thn_r <| fin_r ?_
            obtain rfl := Option.some.inj H
            obtain rfl := Option.some.inj S21
            have H := C6
            obtain rfl := Option.some.inj H
            exact fin1 rfl (Ext.trans e16 e31)
          · refine W_false (congrArg Value.bool q32) <| W_skip <| blk_n <| thn_n <| W_reg <| L_op (.plain rfl) rfl (ltb rfl) (X_move (v := (.int .i64 x5_3)) h19) <| L_op (.plain rfl) rfl (ltb rfl) (X_add rfl rfl) <| L_op (.plain rfl) rfl (ltb rfl) (X_assign (v := (.int .i64 (IntKind.wrap .i64 (x5_3 + 1)))) rfl) <| L_nil <| thn_n ?_
            obtain rfl := Option.some.inj H
            exact ⟨_, Nat.lt_succ_self _, (szRec (gt a0 x5_3) x1_2), IntKind.wrap .i64 (x5_3 + 1), (Kp.upd (Kp.upd (Kp.upd (Kp.upd (Kp.upd (Kp.upd (Kp.upd (Kp.upd (Kp.upd (Kp.upd (Kp.upd (Kp.upd (Kp.upd (Kp.upd (Kp.upd (Kp.upd K15 rfl) rfl) rfl) rfl) rfl) rfl) rfl) rfl) rfl) rfl) rfl) rfl) rfl) rfl) rfl) rfl), rfl, rfl, (Ext.trans e16 e31), S21⟩
        · refine W_false (congrArg Value.bool q22) <| W_exit <| thn_x <| thn_x <| blk_x <| thn_n ?_
          obtain rfl := Option.some.inj H
          obtain rfl := Option.some.inj S21
          exact ⟨x1_2, (Kp.upd (Kp.upd (Kp.upd (Kp.upd K15 rfl) rfl) rfl) rfl), h18, e16, rfl⟩
    · rintro s9 w8 ⟨x1_7, K10, h33, e11, y34⟩
      rw [y34] at C6
      have H := C6
      replace H : _ = some _ := H
      refine thn_n <| W_seq <| W_reg <| L_op (.plain rfl) rfl (ltb rfl) (X_move (v := (.int .i64 x1_7)) h33) <| L_op (.plain rfl) rfl (ltb rfl) (X_assign (v := (.int .i64 x1_7)) rfl) <| L_nil <| thn_n <| W_ret <| fin_r ?_
      obtain rfl := Option.some.inj H
      exact fin1 rfl e11
theorem laws_szRecordS.calls {w : World} {a0 : List Rec} {a1 : Int} {v_a0 : Value} (f_a0 : Rd 5 encRec w v_a0 a0) (h0 : (0 : Int) ≤ a1) (h1 : (a1 : Int) ≤ 1048576) (h2 : a0.length ≤ 9223372036854775807) (h3 : ∀ x ∈ a0, okRec x) :
    Calls Tryd.prog 33 #[v_a0, .int .i64 a1] w (Rt (RP w (.int .i64 (szRecS a0 a1)))) := by
  obtain ⟨k, h⟩ := laws_szRecordS.eq a0 a1 h0 h1 h2 h3
  exact laws_szRecordS.walk f_a0 h
/-! laws.toRecordS -/
theorem laws_toRecordS.walk {k : Nat} {w : World} {a0 : List Rec} {v_a0 : Value} (f_a0 : Rd 5 encRec w v_a0 a0) {r : List Rec} (H : laws_toRecordS.sh k a0 = some r) :
    Calls Tryd.prog 35 #[v_a0] w (Rt (RO 23 5 encRec w r)) := by
  unfold laws_toRecordS.sh at H
  refine calls_of_W Tryd.func35 rfl (Nat.le_of_ble_eq_true rfl) Tryd.ntmps35 rfl ?_
  refine W_seq <| W_reg <| L_op (.plain rfl) rfl (ltb rfl) (X_assign (v := (.slice none 0 0)) rfl) <| L_nil <| thn_n <| W_seq <| W_reg <| L_op (.plain rfl) rfl (ltb rfl) (X_move (v := v_a0) rfl) <| L_op (.plain rfl) rfl (ltb rfl) (X_lenR Tryd.underlying44 rfl f_a0) ?_
  obtain ⟨c1, H⟩ := bif_some H
  refine L_make (enc := encRec) (zr := (⟨0, [], [], 0, false⟩ : Rec)) (n := a0.length) (.plain rfl) rfl (ltb rfl) rfl El.t48 rfl rfl rfl (of_decide_eq_true c1) (Nat.le_refl _) <| fun b2 w3 z4 z5 e6 o7 => L_op (.plain rfl) rfl (ltb rfl) (X_assign (v := (.slice (some ⟨b2, 0, none⟩) a0.length a0.length)) rfl) <| L_nil <| thn_n <| W_seq <| W_seq <| W_reg <| L_op (.plain rfl) rfl (ltb rfl) (X_assign (v := (.int .i64 0)) rfl) <| L_nil <| thn_n ?_
  obtain ⟨z10, L11, C12⟩ := bind_some H
  clear H
  refine  W_cutQ (fun s0 s9 w9 => ∃ (y13 : List Rec), Kp [(4, 5), (8, 22)] s0 s9 ∧ Own 23 5 encRec w.heap.size w9 (.slice (some ⟨b2, 0, none⟩) a0.length a0.length) y13 ∧ Ext w w9 ∧ z10 = .inr y13) ?_ ?_
  · refine W_block <| W_loopI (fun s0 kk s9 w9 => ∃ (x4_8 : Int) (y9 : List Rec), Kp [(4, 5), (8, 22)] s0 s9 ∧ s9 4 = .int .i64 x4_8 ∧ Own 23 5 encRec w.heap.size w9 (.slice (some ⟨b2, 0, none⟩) a0.length a0.length) y9 ∧ Ext w w9 ∧ loopF (laws_toRecordS.b1 a0) kk (x4_8, y9) = some z10) k ⟨0, List.replicate a0.length (⟨0, [], [], 0, false⟩ : Rec), (Kp.refl _ _), rfl, o7, e6, L11⟩ ?_
    rintro k18 s19 w20 ⟨x4_8, y9, K21, h24, h25, e22, L23⟩
    cases k18 with
    | zero => exact absurd L23 (by simp [loopF])
    | succ k18 =>
      obtain ⟨t26, H, S27⟩ := loopF_succ L23
      clear L23
      unfold laws_toRecordS.b1 at H
      refine W_seq <| W_seq <| W_reg <| L_op (.plain rfl) rfl (ltb rfl) (X_move (v := (.int .i64 x4_8)) h24) <| L_op (.plain rfl) rfl (ltb rfl) (X_move (v := v_a0) (K21 0 rfl)) <| L_op (.plain rfl) rfl (ltb rfl) (X_lenR Tryd.underlying44 rfl (Rd.ext f_a0 e22)) <| L_op (.plain rfl) rfl (ltb rfl) (X_lss rfl rfl) <| L_nil <| thn_n ?_
      rcases bif_two H with ⟨q28, H⟩ | ⟨q28, H⟩
      · refine W_true (congrArg Value.bool q28) <| W_skip <| thn_n <| W_seq <| W_block <| W_reg <| L_op (.plain rfl) rfl (ltb rfl) (X_move (v := (.slice (some ⟨b2, 0, none⟩) a0.length a0.length)) (K21 3 rfl)) <| L_op (.plain rfl) rfl (ltb rfl) (X_move (v := (.int .i64 x4_8)) h24) <| L_op (.plain rfl) rfl (ltb rfl) (X_move (v := v_a0) (K21 0 rfl)) <| L_op (.plain rfl) rfl (ltb rfl) (X_move (v := (.int .i64 x4_8)) h24) ?_
        obtain ⟨c29, H⟩ := bif_some H
        refine L_idx (.plain rfl) rfl (ltb rfl) rfl Tryd.underlying44 Tryd.sizeOf70 rfl (Rd.ext f_a0 e22) rfl c29 <| fun p30 h31 => L_op (.plain rfl) rfl (ltb rfl) (X_loadS Tryd.isAgg70 Tryd.sizeOf70 rfl rfl h31) <| L_callP (.plain rfl) rfl (ltb rfl) rfl Tryd.call65 (laws_toRecord.calls (w := w20) (a0 := gt a0 x4_8)) rfl <| fun w32 e33 => ?_
        obtain ⟨c36, H⟩ := bif_some H
        refine L_idxO (.plain rfl) rfl (ltb rfl) rfl Tryd.underlying48 Tryd.sizeOf23 rfl (Own.ext h25 e33) rfl c36 <| fun p34 h35 => L_storeO (a := (gt a0 x4_8)) (vs := [(.int .i64 ((gt a0 x4_8).kind)), (S ((gt a0 x4_8).path)), (S ((gt a0 x4_8).body)), (.int .i64 ((gt a0 x4_8).mode)), (.bool ((gt a0 x4_8).opq))]) (off := 0) (.plain rfl) rfl rfl Tryd.sizeOf23 rfl h35 rfl rfl rfl rfl rfl rfl <| fun b37 w38 h39 h40 h41 o42 => L_nil <| blk_n <| thn_n <| W_reg <| L_op (.plain rfl) rfl (ltb rfl) (X_move (v := (.int .i64 x4_8)) h24) <| L_op (.plain rfl) rfl (ltb rfl) (X_add rfl rfl) <| L_op (.plain rfl) rfl (ltb rfl) (X_assign (v := (.int .i64 (IntKind.wrap .i64 (x4_8 + 1)))) rfl) <| L_nil <| thn_n ?_
        obtain rfl := Option.some.inj H
        exact ⟨_, Nat.lt_succ_self _, IntKind.wrap .i64 (x4_8 + 1), setI y9 x4_8 (gt a0 x4_8), (Kp.upd (Kp.upd (Kp.upd (Kp.upd (Kp.upd (Kp.upd (Kp.upd (Kp.upd (Kp.upd (Kp.upd (Kp.upd (Kp.upd (Kp.upd (Kp.upd (Kp.upd K21 rfl) rfl) rfl) rfl) rfl) rfl) rfl) rfl) rfl) rfl) rfl) rfl) rfl) rfl) rfl), rfl, o42, (Ext.wr (Ext.trans e22 e33) h41 h40 (Nat.le_refl _)), S27⟩
      · refine W_false (congrArg Value.bool q28) <| W_exit <| thn_x <| thn_x <| blk_x <| thn_n ?_
        obtain rfl := Option.some.inj H
        obtain rfl := Option.some.inj S27
        exact ⟨y9, (Kp.upd (Kp.upd (Kp.upd (Kp.upd K21 rfl) rfl) rfl) rfl), h25, e22, rfl⟩
  · rintro s15 w14 ⟨y13, K16, h43, e17, y44⟩
    rw [y44] at C12
    have H := C12
    replace H : _ = some _ := H
    refine thn_n <| W_seq <| W_reg <| L_op (.plain rfl) rfl (ltb rfl) (X_move (v := (.slice (some ⟨b2, 0, none⟩) a0.length a0.length)) (K16 3 rfl)) <| L_op (.plain rfl) rfl (ltb rfl) (X_assign (v := (.slice (some ⟨b2, 0, none⟩) a0.length a0.length)) rfl) <| L_nil <| thn_n <| W_ret <| fin_r ?_
    obtain rfl := Option.some.inj H
    exact fin1o rfl e17 h43 ((Ext.refl w)).size
theorem laws_toRecordS.calls {w : World} {a0 : List Rec} {v_a0 : Value} (f_a0 : Rd 5 encRec w v_a0 a0) (h0 : a0.length ≤ 1048576) :
    Calls Tryd.prog 35 #[v_a0] w (Rt (RO 23 5 encRec w a0)) := by
  obtain ⟨k, h⟩ := laws_toRecordS.eq a0 h0
  exact laws_toRecordS.walk f_a0 h
/-! spec.l03At -/
theorem spec_l03At.walk {k : Nat} {w : World} {a0 : List Rec} {a1 : List UInt8} {v_a0 : Value} (f_a0 : Rd 5 encRec w v_a0 a0) {r : Int} (H : spec_l03At.sh k a0 a1 = some r) :
    Calls Tryd.prog 69 #[v_a0, S a1] w (Rt (RP w (.int .i64 r))) := by
  unfold spec_l03At.sh at H
  refine calls_of_W Tryd.func69 rfl (Nat.le_of_ble_eq_true rfl) Tryd.ntmps69 rfl ?_
  refine W_seq <| W_reg <| L_op (.plain rfl) rfl (ltb rfl) (X_assign (v := (.int .i64 0)) rfl) <| L_nil <| thn_n <| W_seq <| W_seq <| W_reg <| L_op (.plain rfl) rfl (ltb rfl) (X_assign (v := (.int .i64 0)) rfl) <| L_nil <| thn_n ?_
  obtain ⟨z2, L3, C4⟩ := bind_some H
  clear H
  refine  W_cutQ (fun s0 s9 w9 => Kp [(4, 20)] s0 s9 ∧ Ext w w9 ∧ z2 = .inr ()) ?_ ?_
  · refine W_block <| W_loopI (fun s0 kk s9 w9 => ∃ (x5_1 : Int), Kp [(4, 20)] s0 s9 ∧ s9 5 = .int .i64 x5_1 ∧ Ext w w9 ∧ loopF (spec_l03At.b1 a0 a1) kk x5_1 = some z2) k ⟨0, (Kp.refl _ _), rfl, (Ext.refl w), L3⟩ ?_
    rintro k9 s10 w11 ⟨x5_1, K12, h15, e13, L14⟩
    cases k9 with
    | zero => exact absurd L14 (by simp [loopF])
    | succ k9 =>
      obtain ⟨t16, H, S17⟩ := loopF_succ L14
      clear L14
      unfold spec_l03At.b1 at H
      refine W_seq <| W_seq <| W_reg <| L_op (.plain rfl) rfl (ltb rfl) (X_move (v := (.int .i64 x5_1)) h15) <| L_op (.plain rfl) rfl (ltb rfl) (X_move (v := v_a0) (K12 0 rfl)) <| L_op (.plain rfl) rfl (ltb rfl) (X_lenR Tryd.underlying48 rfl (Rd.ext f_a0 e13)) <| L_op (.plain rfl) rfl (ltb rfl) (X_lss rfl rfl) <| L_nil <| thn_n ?_
      rcases bif_two H with ⟨q18, H⟩ | ⟨q18, H⟩
      · refine W_true (congrArg Value.bool q18) <| W_skip <| thn_n <| W_seq <| W_block <| W_seq <| W_reg <| L_op (.plain rfl) rfl (ltb rfl) (X_move (v := v_a0) (K12 0 rfl)) <| L_op (.plain rfl) rfl (ltb rfl) (X_move (v := (.int .i64 x5_1)) h15) ?_
        obtain ⟨c19, H⟩ := bif_some H
        refine L_idx (.plain rfl) rfl (ltb rfl) rfl Tryd.underlying48 Tryd.sizeOf23 rfl (Rd.ext f_a0 e13) rfl c19 <| fun p20 h21 => L_op (.plain rfl) rfl (ltb rfl) (X_fieldAddr Tryd.underlying23 rfl Tryd.sizeOf9 rfl rfl) <| L_op (.plain rfl) rfl (ltb rfl) (X_loadF Tryd.isAgg9 (j := 1) h21 rfl rfl) <| L_op (.plain rfl) rfl (ltb rfl) (X_move (v := (S a1)) (K12 1 rfl)) <| L_op (.plain rfl) rfl (ltb rfl) (X_seq rfl rfl) <| L_nil <| thn_n ?_
        rcases bif_two H with ⟨q22, H⟩ | ⟨q22, H⟩
        · refine W_true (congrArg Value.bool q22) <| W_seq <| W_reg <| L_op (.plain rfl) rfl (ltb rfl) (X_move (v := (.int .i64 x5_1)) h15) <| L_op (.plain rfl) rfl (ltb rfl) (X_assign (v := (.int .i64 x5_1)) rfl) <| L_nil <| thn_n <| W_ret <| blk_r <| thn_r <| thn_r <| blk_r <| thn_r <| thn_r <| fin_r ?_
          obtain rfl := Option.some.inj H
          obtain rfl := Option.some.inj S17
          have H := C4
          obtain rfl := Option.some.inj H
          exact fin1 rfl e13
        · refine W_false (congrArg Value.bool q22) <| W_skip <| blk_n <| thn_n <| W_reg <| L_op (.plain rfl) rfl (ltb rfl) (X_move (v := (.int .i64 x5_1)) h15) <| L_op (.plain rfl) rfl (ltb rfl) (X_add rfl rfl) <| L_op (.plain rfl) rfl (ltb rfl) (X_assign (v := (.int .i64 (IntKind.wrap .i64 (x5_1 + 1)))) rfl) <| L_nil <| thn_n ?_
          obtain rfl := Option.some.inj H
          exact ⟨_, Nat.lt_succ_self _, IntKind.wrap .i64 (x5_1 + 1), (Kp.upd (Kp.upd (Kp.upd (Kp.upd (Kp.upd (Kp.upd (Kp.upd (Kp.upd (Kp.upd (Kp.upd (Kp.upd (Kp.upd (Kp.upd (Kp.upd K12 rfl) rfl) rfl) rfl) rfl) rfl) rfl) rfl) rfl) rfl) rfl) rfl) rfl) rfl), rfl, e13, S17⟩
      · refine W_false (congrArg Value.bool q18) <| W_exit <| thn_x <| thn_x <| blk_x <| thn_n ?_
        obtain rfl := Option.some.inj H
        obtain rfl := Option.some.inj S17
        exact ⟨(Kp.upd (Kp.upd (Kp.upd (Kp.upd K12 rfl) rfl) rfl) rfl), e13, rfl⟩
  · rintro s6 w5 ⟨K7, e8, y23⟩
    rw [y23] at C4
    have H := C4
    replace H : _ = some _ := H
    refine thn_n <| W_seq <| W_reg <| L_op (.plain rfl) rfl (ltb rfl) (X_assign (v := (.int .i64 (-1))) rfl) <| L_nil <| thn_n <| W_ret <| fin_r ?_
    obtain rfl := Option.some.inj H
    exact fin1 rfl e8
theorem spec_l03At.calls {w : World} {a0 : List Rec} {a1 : List UInt8} {v_a0 : Value} (f_a0 : Rd 5 encRec w v_a0 a0) (h0 : a0.length ≤ 1048576) :
    Calls Tryd.prog 69 #[v_a0, S a1] w (Rt (RP w (.int .i64 (findR a0 a1)))) := by
  obtain ⟨k, h⟩ := spec_l03At.eq a0 a1 h0
  exact spec_l03At.walk f_a0 h
/-! spec.l03Fault -/
theorem spec_l03Fault.walk {k : Nat} {w : World} {a0 : List Rec} {v_a0 : Value} (f_a0 : Rd 5 encRec w v_a0 a0) {r : Int × Int} (H : spec_l03Fault.sh k a0 = some r) :
    Calls Tryd.prog 64 #[v_a0] w (Rt (RP w (.tuple #[.int .i64 r.1, .int .i64 r.2]))) := by
  unfold spec_l03Fault.sh at H
  refine calls_of_W Tryd.func64 rfl (Nat.le_of_ble_eq_true rfl) Tryd.ntmps64 rfl ?_
  refine W_seq <| W_reg <| L_op (.plain rfl) rfl (ltb rfl) (X_assign (v := (.int .i64 0)) rfl) <| L_op (.plain rfl) rfl (ltb rfl) (X_assign (v := (.int .i64 0)) rfl) <| L_nil <| thn_n <| W_seq <| W_seq <| W_reg <| L_op (.plain rfl) rfl (ltb rfl) (X_assign (v := (.int .i64 0)) rfl) <| L_nil <| thn_n ?_
  obtain ⟨z2, L3, C4⟩ := bind_some H
  clear H
  refine  W_cutQ (fun s0 s9 w9 => Kp [(2, 84)] s0 s9 ∧ Ext w w9 ∧ z2 = .inr ()) ?_ ?_
  · refine W_block <| W_loopI (fun s0 kk s9 w9 => ∃ (x4_1 : Int), Kp [(2, 84)] s0 s9 ∧ s9 4 = .int .i64 x4_1 ∧ Ext w w9 ∧ loopF (spec_l03Fault.b1 a0) kk x4_1 = some z2) k ⟨0, (Kp.refl _ _), rfl, (Ext.refl w), L3⟩ ?_
    rintro k9 s10 w11 ⟨x4_1, K12, h15, e13, L14⟩
    cases k9 with
    | zero => exact absurd L14 (by simp [loopF])
    | succ k9 =>
      obtain ⟨t16, H, S17⟩ := loopF_succ L14
      clear L14
      unfold spec_l03Fault.b1 at H
      refine W_seq <| W_seq <| W_reg <| L_op (.plain rfl) rfl (ltb rfl) (X_move (v := (.int .i64 x4_1)) h15) <| L_op (.plain rfl) rfl (ltb rfl) (X_move (v := v_a0) (K12 0 rfl)) <| L_op (.plain rfl) rfl (ltb rfl) (X_lenR Tryd.underlying48 rfl (Rd.ext f_a0 e13)) <| L_op (.plain rfl) rfl (ltb rfl) (X_lss rfl rfl) <| L_nil <| thn_n ?_
      rcases bif_two H with ⟨q18, H⟩ | ⟨q18, H⟩
      · refine W_true (congrArg Value.bool q18) <| W_skip <| thn_n <| W_seq <| W_block <| W_seq <| W_seq <| W_reg <| L_op (.plain rfl) rfl (ltb rfl) (X_move (v := (.int .i64 x4_1)) h15) <| L_op (.plain rfl) rfl (ltb rfl) (X_eql rfl rfl) <| L_nil <| thn_n ?_
        rcases bif_two H with ⟨q19, H⟩ | ⟨q19, H⟩
        · refine W_true (congrArg Value.bool q19) <| W_seq <| W_reg <| L_op (.plain rfl) rfl (ltb rfl) (X_move (v := (.int .i64 x4_1)) h15) <| L_op (.plain rfl) rfl (ltb rfl) (X_assign (v := (.int .i64 x4_1)) rfl) <| L_op (.plain rfl) rfl (ltb rfl) (X_assign (v := (.int .i64 6)) rfl) <| L_nil <| thn_n <| W_ret <| thn_r <| blk_r <| thn_r <| thn_r <| blk_r <| thn_r <| thn_r <| fin_r ?_
          obtain rfl := Option.some.inj H
          obtain rfl := Option.some.inj S17
          have H := C4
          obtain rfl := Option.some.inj H
          exact fin2 rfl rfl e13
        · refine W_false (congrArg Value.bool q19) <| W_skip <| thn_n <| W_seq <| W_seq <| W_reg <| L_op (.plain rfl) rfl (ltb rfl) (X_move (v := v_a0) (K12 0 rfl)) <| L_op (.plain rfl) rfl (ltb rfl) (X_move (v := (.int .i64 x4_1)) h15) ?_
          obtain ⟨c20, H⟩ := bif_some H
          refine L_idx (.plain rfl) rfl (ltb rfl) rfl Tryd.underlying48 Tryd.sizeOf23 rfl (Rd.ext f_a0 e13) rfl c20 <| fun p21 h22 => L_op (.plain rfl) rfl (ltb rfl) (X_loadS Tryd.isAgg23 Tryd.sizeOf23 rfl rfl h22) <| L_callP (.plain rfl) rfl (ltb rfl) rfl Tryd.call73 (spec_l02Fault.calls (w := w11) (a0 := gt a0 x4_1)) rfl <| fun w23 e24 => L_op (.plain rfl) rfl (ltb rfl) (X_assign (v := (.int .i64 (recFault (gt a0 x4_1)))) rfl) <| L_nil <| thn_n <| W_seq <| W_reg <| L_op (.plain rfl) rfl (ltb rfl) (X_move (v := (.int .i64 (recFault (gt a0 x4_1)))) rfl) <| L_op (.plain rfl) rfl (ltb rfl) (X_neq rfl rfl) <| L_nil <| thn_n ?_
          rcases bif_two H with ⟨q25, H⟩ | ⟨q25, H⟩
          · refine W_true (congrArg Value.bool q25) <| W_seq <| W_reg <| L_op (.plain rfl) rfl (ltb rfl) (X_move (v := (.int .i64 x4_1)) h15) <| L_op (.plain rfl) rfl (ltb rfl) (X_move (v := (.int .i64 (recFault (gt a0 x4_1)))) rfl) <| L_op (.plain rfl) rfl (ltb rfl) (X_assign (v := (.int .i64 x4_1)) rfl) <| L_op (.plain rfl) rfl (ltb rfl) (X_assign (v := (.int .i64 (recFault (gt a0 x4_1)))) rfl) <| L_nil <| thn_n <| W_ret <| thn_r <| blk_r <| thn_r <| thn_r <| blk_r <| thn_r <| thn_r <| fin_r ?_
            obtain rfl := Option.some.inj H
            obtain rfl := Option.some.inj S17
            have H := C4
            obtain rfl := Option.some.inj H
            exact fin2 rfl rfl (Ext.trans e13 e24)
          · refine W_false (congrArg Value.bool q25) <| W_skip <| thn_n <| W_seq <| W_seq ?_
            obtain ⟨c26, H⟩ := bif_some H
            obtain ⟨c29, H⟩ := bif_some H
            refine W_drawM [LEq (.int .i64 x4_1), LEq (.bool (decide (0 < x4_1))), LEq (.bool (decide (0 < x4_1))), LIf (decide (0 < x4_1)) (LEq v_a0), LIf (decide (0 < x4_1)) (LEq (.int .i64 x4_1)), LIf (decide (0 < x4_1)) (LAt0 (encRec (gt a0 x4_1))), LIf (decide (0 < x4_1)) (LAt 1 (encRec (gt a0 x4_1))), LIf (decide (0 < x4_1)) (LEq (S ((gt a0 x4_1).path))), LIf (decide (0 < x4_1)) (LEq v_a0), LIf (decide (0 < x4_1)) (LEq (.int .i64 x4_1)), LIf (decide (0 < x4_1)) (LEq (.int .i64 (IntKind.wrap .i64 (x4_1 - 1)))), LIf (decide (0 < x4_1)) (LAt0 (encRec (gt a0 (IntKind.wrap .i64 (x4_1 - 1))))), LIf (decide (0 < x4_1)) (LAt 1 (encRec (gt a0 (IntKind.wrap .i64 (x4_1 - 1))))), LIf (decide (0 < x4_1)) (LEq (S ((gt a0 (IntKind.wrap .i64 (x4_1 - 1))).path))), LIf (decide (0 < x4_1)) (LEq (.bool (decide (((gt a0 x4_1).path) = ((gt a0 (IntKind.wrap .i64 (x4_1 - 1))).path))))), LEq (.bool ((decide (0 < x4_1)) && (decide (((gt a0 x4_1).path) = ((gt a0 (IntKind.wrap .i64 (x4_1 - 1))).path)))))] (by kernel_rfl) (by kernel_rfl) ⟨LEq.mono, LEq.mono, LEq.mono, (LIf.mono LEq.mono), (LIf.mono LEq.mono), (LIf.mono LAt0.mono), (LIf.mono LAt.mono), (LIf.mono LEq.mono), (LIf.mono LEq.mono), (LIf.mono LEq.mono), (LIf.mono LEq.mono), (LIf.mono LAt0.mono), (LIf.mono LAt.mono), (LIf.mono LEq.mono), (LIf.mono LEq.mono), LEq.mono, trivial⟩ ⟨?_, ?_, ?_, ?_, ?_, ?_, ?_, ?_, ?_, ?_, ?_, ?_, ?_, ?_, ?_, ?_, trivial⟩ ?_
            · intro s32 w33 e34 hf35 hd36 hu37
              exact L_op (.plain rfl) rfl (ltb rfl) (X_move (v := (.int .i64 x4_1)) ((hf35 4 rfl).trans h15)) <| L_nil <| stepEnd rfl rfl (Ext.refl w33) rfl
            · intro s38 w39 e40 hf41 hd42 hu43
              have d44 : s38 26 = (.int .i64 x4_1) := (hd42 0 rfl)
              exact L_op (.plain rfl) rfl (ltb rfl) (X_gtr d44 rfl) <| L_nil <| stepEnd rfl rfl (Ext.refl w39) rfl
            · intro s45 w46 e47 hf48 hd49 hu50
              have d51 : s45 27 = (.bool (decide (0 < x4_1))) := (hd49 1 rfl)
              exact L_op (.plain rfl) rfl (ltb rfl) (X_move (v := (.bool (decide (0 < x4_1)))) d51) <| L_nil <| stepEnd rfl rfl (Ext.refl w46) rfl
            · intro s52 w53 e54 hf55 hd56 hu57
              rcases bool_two (decide (0 < x4_1)) with b58 | b58
              · have g59 : (decide (0 < x4_1)) = true := b58
                have d60 : s52 28 = (.bool (decide (0 < x4_1))) := (hd56 2 rfl)
                have d61 : s52 28 = (.bool (decide (0 < x4_1))) := (hd56 2 rfl)
                exact L_op (.guard 2 true 28 rfl rfl (ltb rfl) (d60.trans (congrArg Value.bool g59))) rfl (ltb rfl) (X_move (v := v_a0) ((hf55 0 rfl).trans (K12 0 rfl))) <| L_nil <| stepEnd rfl rfl (Ext.refl w53) ⟨fun _ => rfl, fun h => absurd (b58.symm.trans h) (by decide)⟩
              · have d62 : s52 28 = (.bool (decide (0 < x4_1))) := (hd56 2 rfl)
                have g63 : (decide (0 < x4_1)) = false := b58
                exact L_skip rfl rfl (ltb rfl) (d62.trans (congrArg Value.bool g63)) rfl rfl (ltb rfl) <| L_nil <| stepEnd rfl rfl (Ext.refl w53) ⟨fun h => absurd (b58.symm.trans h) (by decide), fun _ => rfl⟩
            · intro s64 w65 e66 hf67 hd68 hu69
              rcases bool_two (decide (0 < x4_1)) with b70 | b70
              · have g71 : (decide (0 < x4_1)) = true := b70
                have d72 : s64 28 = (.bool (decide (0 < x4_1))) := (hd68 2 rfl)
                have d73 : s64 28 = (.bool (decide (0 < x4_1))) := (hd68 2 rfl)
                exact L_op (.guard 2 true 28 rfl rfl (ltb rfl) (d72.trans (congrArg Value.bool g71))) rfl (ltb rfl) (X_move (v := (.int .i64 x4_1)) ((hf67 4 rfl).trans h15)) <| L_nil <| stepEnd rfl rfl (Ext.refl w65) ⟨fun _ => rfl, fun h => absurd (b70.symm.trans h) (by decide)⟩
              · have d74 : s64 28 = (.bool (decide (0 < x4_1))) := (hd68 2 rfl)
                have g75 : (decide (0 < x4_1)) = false := b70
                exact L_skip rfl rfl (ltb rfl) (d74.trans (congrArg Value.bool g75)) rfl rfl (ltb rfl) <| L_nil <| stepEnd rfl rfl (Ext.refl w65) ⟨fun h => absurd (b70.symm.trans h) (by decide), fun _ => rfl⟩
            · intro s76 w77 e78 hf79 hd80 hu81
              rcases bool_two (decide (0 < x4_1)) with b82 | b82
              · have g83 : (decide (0 < x4_1)) = true := b82
                have d84 : s76 28 = (.bool (decide (0 < x4_1))) := (hd80 2 rfl)
                have d85 : s76 28 = (.bool (decide (0 < x4_1))) := (hd80 2 rfl)
                have d86 : s76 29 = v_a0 := ((hd80 3 rfl).1 b82)
                have d87 : s76 30 = (.int .i64 x4_1) := ((hd80 4 rfl).1 b82)
                have c88 := imp_take b82 c26
                exact L_idx (.guard 2 true 28 rfl rfl (ltb rfl) (d84.trans (congrArg Value.bool g83))) rfl (ltb rfl) rfl Tryd.underlying48 Tryd.sizeOf23 d86 (Rd.ext f_a0 (Ext.trans (Ext.trans e13 e24) e78)) d87 c88 <| fun p89 h90 => L_nil <| stepEnd rfl rfl (Ext.refl w77) ⟨fun _ => ⟨_, rfl, h90⟩, fun h => absurd (b82.symm.trans h) (by decide)⟩
              · have d91 : s76 28 = (.bool (decide (0 < x4_1))) := (hd80 2 rfl)
                have g92 : (decide (0 < x4_1)) = false := b82
                exact L_skip rfl rfl (ltb rfl) (d91.trans (congrArg Value.bool g92)) rfl rfl (ltb rfl) <| L_nil <| stepEnd rfl rfl (Ext.refl w77) ⟨fun h => absurd (b82.symm.trans h) (by decide), fun _ => rfl⟩
            · intro s93 w94 e95 hf96 hd97 hu98
              rcases bool_two (decide (0 < x4_1)) with b99 | b99
              · have g100 : (decide (0 < x4_1)) = true := b99
                have d101 : s93 28 = (.bool (decide (0 < x4_1))) := (hd97 2 rfl)
                have d102 : s93 28 = (.bool (decide (0 < x4_1))) := (hd97 2 rfl)
                obtain ⟨p103, h104, h105⟩ := ((hd97 5 rfl).1 b99)
                exact L_op (.guard 2 true 28 rfl rfl (ltb rfl) (d101.trans (congrArg Value.bool g100))) rfl (ltb rfl) (X_fieldAddr Tryd.underlying23 rfl Tryd.sizeOf9 rfl h104) <| L_nil <| stepEnd rfl rfl (Ext.refl w94) ⟨fun _ => ⟨_, rfl, h105⟩, fun h => absurd (b99.symm.trans h) (by decide)⟩
              · have d106 : s93 28 = (.bool (decide (0 < x4_1))) := (hd97 2 rfl)
                have g107 : (decide (0 < x4_1)) = false := b99
                exact L_skip rfl rfl (ltb rfl) (d106.trans (congrArg Value.bool g107)) rfl rfl (ltb rfl) <| L_nil <| stepEnd rfl rfl (Ext.refl w94) ⟨fun h => absurd (b99.symm.trans h) (by decide), fun _ => rfl⟩
            · intro s108 w109 e110 hf111 hd112 hu113
              rcases bool_two (decide (0 < x4_1)) with b114 | b114
              · have g115 : (decide (0 < x4_1)) = true := b114
                have d116 : s108 28 = (.bool (decide (0 < x4_1))) := (hd112 2 rfl)
                have d117 : s108 28 = (.bool (decide (0 < x4_1))) := (hd112 2 rfl)
                obtain ⟨p118, h119, h120⟩ := ((hd112 6 rfl).1 b114)
                exact L_op (.guard 2 true 28 rfl rfl (ltb rfl) (d116.trans (congrArg Value.bool g115))) rfl (ltb rfl) (X_loadF Tryd.isAgg9 (j := 1) h120 h119 rfl) <| L_nil <| stepEnd rfl rfl (Ext.refl w109) ⟨fun _ => rfl, fun h => absurd (b114.symm.trans h) (by decide)⟩
              · have d121 : s108 28 = (.bool (decide (0 < x4_1))) := (hd112 2 rfl)
                have g122 : (decide (0 < x4_1)) = false := b114
                exact L_skip rfl rfl (ltb rfl) (d121.trans (congrArg Value.bool g122)) rfl rfl (ltb rfl) <| L_nil <| stepEnd rfl rfl (Ext.refl w109) ⟨fun h => absurd (b114.symm.trans h) (by decide), fun _ => rfl⟩
            · intro s123 w124 e125 hf126 hd127 hu128
              rcases bool_two (decide (0 < x4_1)) with b129 | b129
              · have g130 : (decide (0 < x4_1)) = true := b129
                have d131 : s123 28 = (.bool (decide (0 < x4_1))) := (hd127 2 rfl)
                have d132 : s123 28 = (.bool (decide (0 < x4_1))) := (hd127 2 rfl)
                exact L_op (.guard 2 true 28 rfl rfl (ltb rfl) (d131.trans (congrArg Value.bool g130))) rfl (ltb rfl) (X_move (v := v_a0) ((hf126 0 rfl).trans (K12 0 rfl))) <| L_nil <| stepEnd rfl rfl (Ext.refl w124) ⟨fun _ => rfl, fun h => absurd (b129.symm.trans h) (by decide)⟩
              · have d133 : s123 28 = (.bool (decide (0 < x4_1))) := (hd127 2 rfl)
                have g134 : (decide (0 < x4_1)) = false := b129
                exact L_skip rfl rfl (ltb rfl) (d133.trans (congrArg Value.bool g134)) rfl rfl (ltb rfl) <| L_nil <| stepEnd rfl rfl (Ext.refl w124) ⟨fun h => absurd (b129.symm.trans h) (by decide), fun _ => rfl⟩
            · intro s135 w136 e137 hf138 hd139 hu140
              rcases bool_two (decide (0 < x4_1)) with b141 | b141
              · have g142 : (decide (0 < x4_1)) = true := b141
                have d143 : s135 28 = (.bool (decide (0 < x4_1))) := (hd139 2 rfl)
                have d144 : s135 28 = (.bool (decide (0 < x4_1))) := (hd139 2 rfl)
                exact L_op (.guard 2 true 28 rfl rfl (ltb rfl) (d143.trans (congrArg Value.bool g142))) rfl (ltb rfl) (X_move (v := (.int .i64 x4_1)) ((hf138 4 rfl).trans h15)) <| L_nil <| stepEnd rfl rfl (Ext.refl w136) ⟨fun _ => rfl, fun h => absurd (b141.symm.trans h) (by decide)⟩
              · have d145 : s135 28 = (.bool (decide (0 < x4_1))) := (hd139 2 rfl)
                have g146 : (decide (0 < x4_1)) = false := b141
                exact L_skip rfl rfl (ltb rfl) (d145.trans (congrArg Value.bool g146)) rfl rfl (ltb rfl) <| L_nil <| stepEnd rfl rfl (Ext.refl w136) ⟨fun h => absurd (b141.symm.trans h) (by decide), fun _ => rfl⟩
            · intro s147 w148 e149 hf150 hd151 hu152
              rcases bool_two (decide (0 < x4_1)) with b153 | b153
              · have g154 : (decide (0 < x4_1)) = true := b153
                have d155 : s147 28 = (.bool (decide (0 < x4_1))) := (hd151 2 rfl)
                have d156 : s147 28 = (.bool (decide (0 < x4_1))) := (hd151 2 rfl)
                have d157 : s147 35 = (.int .i64 x4_1) := ((hd151 9 rfl).1 b153)
                exact L_op (.guard 2 true 28 rfl rfl (ltb rfl) (d155.trans (congrArg Value.bool g154))) rfl (ltb rfl) (X_sub d157 rfl) <| L_nil <| stepEnd rfl rfl (Ext.refl w148) ⟨fun _ => rfl, fun h => absurd (b153.symm.trans h) (by decide)⟩
              · have d158 : s147 28 = (.bool (decide (0 < x4_1))) := (hd151 2 rfl)
                have g159 : (decide (0 < x4_1)) = false := b153
                exact L_skip rfl rfl (ltb rfl) (d158.trans (congrArg Value.bool g159)) rfl rfl (ltb rfl) <| L_nil <| stepEnd rfl rfl (Ext.refl w148) ⟨fun h => absurd (b153.symm.trans h) (by decide), fun _ => rfl⟩
            · intro s160 w161 e162 hf163 hd164 hu165
              rcases bool_two (decide (0 < x4_1)) with b166 | b166
              · have g167 : (decide (0 < x4_1)) = true := b166
                have d168 : s160 28 = (.bool (decide (0 < x4_1))) := (hd164 2 rfl)
                have d169 : s160 28 = (.bool (decide (0 < x4_1))) := (hd164 2 rfl)
                have d170 : s160 34 = v_a0 := ((hd164 8 rfl).1 b166)
                have d171 : s160 36 = (.int .i64 (IntKind.wrap .i64 (x4_1 - 1))) := ((hd164 10 rfl).1 b166)
                have c172 := imp_take b166 c29
                exact L_idx (.guard 2 true 28 rfl rfl (ltb rfl) (d168.trans (congrArg Value.bool g167))) rfl (ltb rfl) rfl Tryd.underlying48 Tryd.sizeOf23 d170 (Rd.ext f_a0 (Ext.trans (Ext.trans e13 e24) e162)) d171 c172 <| fun p173 h174 => L_nil <| stepEnd rfl rfl (Ext.refl w161) ⟨fun _ => ⟨_, rfl, h174⟩, fun h => absurd (b166.symm.trans h) (by decide)⟩
              · have d175 : s160 28 = (.bool (decide (0 < x4_1))) := (hd164 2 rfl)
                have g176 : (decide (0 < x4_1)) = false := b166
                exact L_skip rfl rfl (ltb rfl) (d175.trans (congrArg Value.bool g176)) rfl rfl (ltb rfl) <| L_nil <| stepEnd rfl rfl (Ext.refl w161) ⟨fun h => absurd (b166.symm.trans h) (by decide), fun _ => rfl⟩
            · intro s177 w178 e179 hf180 hd181 hu182
              rcases bool_two (decide (0 < x4_1)) with b183 | b183
              · have g184 : (decide (0 < x4_1)) = true := b183
                have d185 : s177 28 = (.bool (decide (0 < x4_1))) := (hd181 2 rfl)
                have d186 : s177 28 = (.bool (decide (0 < x4_1))) := (hd181 2 rfl)
                obtain ⟨p187, h188, h189⟩ := ((hd181 11 rfl).1 b183)
                exact L_op (.guard 2 true 28 rfl rfl (ltb rfl) (d185.trans (congrArg Value.bool g184))) rfl (ltb rfl) (X_fieldAddr Tryd.underlying23 rfl Tryd.sizeOf9 rfl h188) <| L_nil <| stepEnd rfl rfl (Ext.refl w178) ⟨fun _ => ⟨_, rfl, h189⟩, fun h => absurd (b183.symm.trans h) (by decide)⟩
              · have d190 : s177 28 = (.bool (decide (0 < x4_1))) := (hd181 2 rfl)
                have g191 : (decide (0 < x4_1)) = false := b183
                exact L_skip rfl rfl (ltb rfl) (d190.trans (congrArg Value.bool g191)) rfl rfl (ltb rfl) <| L_nil <| stepEnd rfl rfl (Ext.refl w178) ⟨fun h => absurd (b183.symm.trans h) (by decide), fun _ => rfl⟩
            · intro s192 w193 e194 hf195 hd196 hu197
              rcases bool_two (decide (0 < x4_1)) with b198 | b198
              · have g199 : (decide (0 < x4_1)) = true := b198
                have d200 : s192 28 = (.bool (decide (0 < x4_1))) := (hd196 2 rfl)
                have d201 : s192 28 = (.bool (decide (0 < x4_1))) := (hd196 2 rfl)
                obtain ⟨p202, h203, h204⟩ := ((hd196 12 rfl).1 b198)
                exact L_op (.guard 2 true 28 rfl rfl (ltb rfl) (d200.trans (congrArg Value.bool g199))) rfl (ltb rfl) (X_loadF Tryd.isAgg9 (j := 1) h204 h203 rfl) <| L_nil <| stepEnd rfl rfl (Ext.refl w193) ⟨fun _ => rfl, fun h => absurd (b198.symm.trans h) (by decide)⟩
              · have d205 : s192 28 = (.bool (decide (0 < x4_1))) := (hd196 2 rfl)
                have g206 : (decide (0 < x4_1)) = false := b198
                exact L_skip rfl rfl (ltb rfl) (d205.trans (congrArg Value.bool g206)) rfl rfl (ltb rfl) <| L_nil <| stepEnd rfl rfl (Ext.refl w193) ⟨fun h => absurd (b198.symm.trans h) (by decide), fun _ => rfl⟩
            · intro s207 w208 e209 hf210 hd211 hu212
              rcases bool_two (decide (0 < x4_1)) with b213 | b213
              · have g214 : (decide (0 < x4_1)) = true := b213
                have d215 : s207 28 = (.bool (decide (0 < x4_1))) := (hd211 2 rfl)
                have d216 : s207 28 = (.bool (decide (0 < x4_1))) := (hd211 2 rfl)
                have d217 : s207 33 = (S ((gt a0 x4_1).path)) := ((hd211 7 rfl).1 b213)
                have d218 : s207 39 = (S ((gt a0 (IntKind.wrap .i64 (x4_1 - 1))).path)) := ((hd211 13 rfl).1 b213)
                exact L_op (.guard 2 true 28 rfl rfl (ltb rfl) (d215.trans (congrArg Value.bool g214))) rfl (ltb rfl) (X_seq d217 d218) <| L_nil <| stepEnd rfl rfl (Ext.refl w208) ⟨fun _ => rfl, fun h => absurd (b213.symm.trans h) (by decide)⟩
              · have d219 : s207 28 = (.bool (decide (0 < x4_1))) := (hd211 2 rfl)
                have g220 : (decide (0 < x4_1)) = false := b213
                exact L_skip rfl rfl (ltb rfl) (d219.trans (congrArg Value.bool g220)) rfl rfl (ltb rfl) <| L_nil <| stepEnd rfl rfl (Ext.refl w208) ⟨fun h => absurd (b213.symm.trans h) (by decide), fun _ => rfl⟩
            · intro s221 w222 e223 hf224 hd225 hu226
              rcases bool_two (decide (0 < x4_1)) with b227 | b227
              · have d228 : s221 28 = (.bool (decide (0 < x4_1))) := (hd225 2 rfl)
                have d229 : s221 40 = (.bool (decide (((gt a0 x4_1).path) = ((gt a0 (IntKind.wrap .i64 (x4_1 - 1))).path)))) := ((hd225 14 rfl).1 b227)
                exact L_op (.plain rfl) rfl (ltb rfl) (X_pick (b := true) (v := (.bool (decide (((gt a0 x4_1).path) = ((gt a0 (IntKind.wrap .i64 (x4_1 - 1))).path))))) (d228.trans (congrArg Value.bool b227)) d229) <| L_nil <| stepEnd rfl rfl (Ext.refl w222) (by show _ = _; rw [b227]; rfl)
              · have d230 : s221 28 = (.bool (decide (0 < x4_1))) := (hd225 2 rfl)
                exact L_op (.plain rfl) rfl (ltb rfl) (X_pick (b := false) (v := (.bool false)) (d230.trans (congrArg Value.bool b227)) rfl) <| L_nil <| stepEnd rfl rfl (Ext.refl w222) (by show _ = _; rw [b227]; rfl)
            intro s231 w232 e233 hf234 ha235
            have K236 := Kp.ofD (kp := [(26, 42)]) rfl hf234
            have d237 : s231 41 = (.bool ((decide (0 < x4_1)) && (decide (((gt a0 x4_1).path) = ((gt a0 (IntKind.wrap .i64 (x4_1 - 1))).path))))) := ha235 15 rfl
            clear ha235 hf234
            refine thn_n ?_
            rcases bif_two H with ⟨q238, H⟩ | ⟨q238, H⟩
            · refine W_true (d237.trans (congrArg Value.bool q238)) <| W_seq <| W_reg <| L_op (.plain rfl) rfl (ltb rfl) (X_move (v := (.int .i64 x4_1)) ((K236 4 rfl).trans h15)) <| L_op (.plain rfl) rfl (ltb rfl) (X_assign (v := (.int .i64 x4_1)) rfl) <| L_op (.plain rfl) rfl (ltb rfl) (X_assign (v := (.int .i64 18)) rfl) <| L_nil <| thn_n <| W_ret <| thn_r <| blk_r <| thn_r <| thn_r <| blk_r <| thn_r <| thn_r <| fin_r ?_
              obtain rfl := Option.some.inj H
              obtain rfl := Option.some.inj S17
              have H := C4
              obtain rfl := Option.some.inj H
              exact fin2 rfl rfl (Ext.trans (Ext.trans e13 e24) e233)
            · refine W_false (d237.trans (congrArg Value.bool q238)) <| W_skip <| thn_n <| W_seq <| W_seq ?_
              obtain ⟨c239, H⟩ := bif_some H
              obtain ⟨c242, H⟩ := bif_some H
              obtain ⟨c245, H⟩ := bif_some H
              obtain ⟨c246, H⟩ := bif_some H
              refine W_drawM [LEq (.int .i64 x4_1), LEq (.bool (decide (0 < x4_1))), LEq (.bool (decide (0 < x4_1))), LIf (decide (0 < x4_1)) (LEq v_a0), LIf (decide (0 < x4_1)) (LEq (.int .i64 x4_1)), LIf (decide (0 < x4_1)) (LEq (.int .i64 (IntKind.wrap .i64 (x4_1 - 1)))), LIf (decide (0 < x4_1)) (LAt0 (encRec (gt a0 (IntKind.wrap .i64 (x4_1 - 1))))), LIf (decide (0 < x4_1)) (LAt 1 (encRec (gt a0 (IntKind.wrap .i64 (x4_1 - 1))))), LIf (decide (0 < x4_1)) (LEq (S ((gt a0 (IntKind.wrap .i64 (x4_1 - 1))).path))), LIf (decide (0 < x4_1)) (LEq v_a0), LIf (decide (0 < x4_1)) (LEq (.int .i64 x4_1)), LIf (decide (0 < x4_1)) (LAt0 (encRec (gt a0 x4_1))), LIf (decide (0 < x4_1)) (LAt 1 (encRec (gt a0 x4_1))), LIf (decide (0 < x4_1)) (LEq (S ((gt a0 x4_1).path))), LIf (decide (0 < x4_1)) (LEq (.bool (lessL (cut 47 ((gt a0 (IntKind.wrap .i64 (x4_1 - 1))).path)) (cut 47 ((gt a0 x4_1).path))))), LIf (decide (0 < x4_1)) (LEq (.bool (!(lessL (cut 47 ((gt a0 (IntKind.wrap .i64 (x4_1 - 1))).path)) (cut 47 ((gt a0 x4_1).path)))))), LEq (.bool ((decide (0 < x4_1)) && (!(lessL (cut 47 ((gt a0 (IntKind.wrap .i64 (x4_1 - 1))).path)) (cut 47 ((gt a0 x4_1).path))))))] (by kernel_rfl) (by kernel_rfl) ⟨LEq.mono, LEq.mono, LEq.mono, (LIf.mono LEq.mono), (LIf.mono LEq.mono), (LIf.mono LEq.mono), (LIf.mono LAt0.mono), (LIf.mono LAt.mono), (LIf.mono LEq.mono), (LIf.mono LEq.mono), (LIf.mono LEq.mono), (LIf.mono LAt0.mono), (LIf.mono LAt.mono), (LIf.mono LEq.mono), (LIf.mono LEq.mono), (LIf.mono LEq.mono), LEq.mono, trivial⟩ ⟨?_, ?_, ?_, ?_, ?_, ?_, ?_, ?_, ?_, ?_, ?_, ?_, ?_, ?_, ?_, ?_, ?_, trivial⟩ ?_
              · intro s249 w250 e251 hf252 hd253 hu254
                exact L_op (.plain rfl) rfl (ltb rfl) (X_move (v := (.int .i64 x4_1)) ((hf252 4 rfl).trans ((K236 4 rfl).trans h15))) <| L_nil <| stepEnd rfl rfl (Ext.refl w250) rfl
              · intro s255 w256 e257 hf258 hd259 hu260
                have d261 : s255 43 = (.int .i64 x4_1) := (hd259 0 rfl)
                exact L_op (.plain rfl) rfl (ltb rfl) (X_gtr d261 rfl) <| L_nil <| stepEnd rfl rfl (Ext.refl w256) rfl
              · intro s262 w263 e264 hf265 hd266 hu267
                have d268 : s262 44 = (.bool (decide (0 < x4_1))) := (hd266 1 rfl)
                exact L_op (.plain rfl) rfl (ltb rfl) (X_move (v := (.bool (decide (0 < x4_1)))) d268) <| L_nil <| stepEnd rfl rfl (Ext.refl w263) rfl
              · intro s269 w270 e271 hf272 hd273 hu274
                rcases bool_two (decide (0 < x4_1)) with b275 | b275
                · have g276 : (decide (0 < x4_1)) = true := b275
                  have d277 : s269 45 = (.bool (decide (0 < x4_1))) := (hd273 2 rfl)
                  have d278 : s269 45 = (.bool (decide (0 < x4_1))) := (hd273 2 rfl)
                  exact L_op (.guard 2 true 45 rfl rfl (ltb rfl) (d277.trans (congrArg Value.bool g276))) rfl (ltb rfl) (X_move (v := v_a0) ((hf272 0 rfl).trans ((K236 0 rfl).trans (K12 0 rfl)))) <| L_nil <| stepEnd rfl rfl (Ext.refl w270) ⟨fun _ => rfl, fun h => absurd (b275.symm.trans h) (by decide)⟩
                · have d279 : s269 45 = (.bool (decide (0 < x4_1))) := (hd273 2 rfl)
                  have g280 : (decide (0 < x4_1)) = false := b275
                  exact L_skip rfl rfl (ltb rfl) (d279.trans (congrArg Value.bool g280)) rfl rfl (ltb rfl) <| L_nil <| stepEnd rfl rfl (Ext.refl w270) ⟨fun h => absurd (b275.symm.trans h) (by decide), fun _ => rfl⟩
              · intro s281 w282 e283 hf284 hd285 hu286
                rcases bool_two (decide (0 < x4_1)) with b287 | b287
                · have g288 : (decide (0 < x4_1)) = true := b287
                  have d289 : s281 45 = (.bool (decide (0 < x4_1))) := (hd285 2 rfl)
                  have d290 : s281 45 = (.bool (decide (0 < x4_1))) := (hd285 2 rfl)
                  exact L_op (.guard 2 true 45 rfl rfl (ltb rfl) (d289.trans (congrArg Value.bool g288))) rfl (ltb rfl) (X_move (v := (.int .i64 x4_1)) ((hf284 4 rfl).trans ((K236 4 rfl).trans h15))) <| L_nil <| stepEnd rfl rfl (Ext.refl w282) ⟨fun _ => rfl, fun h => absurd (b287.symm.trans h) (by decide)⟩
                · have d291 : s281 45 = (.bool (decide (0 < x4_1))) := (hd285 2 rfl)
                  have g292 : (decide (0 < x4_1)) = false := b287
                  exact L_skip rfl rfl (ltb rfl) (d291.trans (congrArg Value.bool g292)) rfl rfl (ltb rfl) <| L_nil <| stepEnd rfl rfl (Ext.refl w282) ⟨fun h => absurd (b287.symm.trans h) (by decide), fun _ => rfl⟩
              · intro s293 w294 e295 hf296 hd297 hu298
                rcases bool_two (decide (0 < x4_1)) with b299 | b299
                · have g300 : (decide (0 < x4_1)) = true := b299
                  have d301 : s293 45 = (.bool (decide (0 < x4_1))) := (hd297 2 rfl)
                  have d302 : s293 45 = (.bool (decide (0 < x4_1))) := (hd297 2 rfl)
                  have d303 : s293 47 = (.int .i64 x4_1) := ((hd297 4 rfl).1 b299)
                  exact L_op (.guard 2 true 45 rfl rfl (ltb rfl) (d301.trans (congrArg Value.bool g300))) rfl (ltb rfl) (X_sub d303 rfl) <| L_nil <| stepEnd rfl rfl (Ext.refl w294) ⟨fun _ => rfl, fun h => absurd (b299.symm.trans h) (by decide)⟩
                · have d304 : s293 45 = (.bool (decide (0 < x4_1))) := (hd297 2 rfl)
                  have g305 : (decide (0 < x4_1)) = false := b299
                  exact L_skip rfl rfl (ltb rfl) (d304.trans (congrArg Value.bool g305)) rfl rfl (ltb rfl) <| L_nil <| stepEnd rfl rfl (Ext.refl w294) ⟨fun h => absurd (b299.symm.trans h) (by decide), fun _ => rfl⟩
              · intro s306 w307 e308 hf309 hd310 hu311
                rcases bool_two (decide (0 < x4_1)) with b312 | b312
                · have g313 : (decide (0 < x4_1)) = true := b312
                  have d314 : s306 45 = (.bool (decide (0 < x4_1))) := (hd310 2 rfl)
                  have d315 : s306 45 = (.bool (decide (0 < x4_1))) := (hd310 2 rfl)
                  have d316 : s306 46 = v_a0 := ((hd310 3 rfl).1 b312)
                  have d317 : s306 48 = (.int .i64 (IntKind.wrap .i64 (x4_1 - 1))) := ((hd310 5 rfl).1 b312)
                  have c318 := imp_take b312 c239
                  exact L_idx (.guard 2 true 45 rfl rfl (ltb rfl) (d314.trans (congrArg Value.bool g313))) rfl (ltb rfl) rfl Tryd.underlying48 Tryd.sizeOf23 d316 (Rd.ext f_a0 (Ext.trans (Ext.trans (Ext.trans e13 e24) e233) e308)) d317 c318 <| fun p319 h320 => L_nil <| stepEnd rfl rfl (Ext.refl w307) ⟨fun _ => ⟨_, rfl, h320⟩, fun h => absurd (b312.symm.trans h) (by decide)⟩
                · have d321 : s306 45 = (.bool (decide (0 < x4_1))) := (hd310 2 rfl)
                  have g322 : (decide (0 < x4_1)) = false := b312
                  exact L_skip rfl rfl (ltb rfl) (d321.trans (congrArg Value.bool g322)) rfl rfl (ltb rfl) <| L_nil <| stepEnd rfl rfl (Ext.refl w307) ⟨fun h => absurd (b312.symm.trans h) (by decide), fun _ => rfl⟩
              · intro s323 w324 e325 hf326 hd327 hu328
                rcases bool_two (decide (0 < x4_1)) with b329 | b329
                · have g330 : (decide (0 < x4_1)) = true := b329
                  have d331 : s323 45 = (.bool (decide (0 < x4_1))) := (hd327 2 rfl)
                  have d332 : s323 45 = (.bool (decide (0 < x4_1))) := (hd327 2 rfl)
                  obtain ⟨p333, h334, h335⟩ := ((hd327 6 rfl).1 b329)
                  exact L_op (.guard 2 true 45 rfl rfl (ltb rfl) (d331.trans (congrArg Value.bool g330))) rfl (ltb rfl) (X_fieldAddr Tryd.underlying23 rfl Tryd.sizeOf9 rfl h334) <| L_nil <| stepEnd rfl rfl (Ext.refl w324) ⟨fun _ => ⟨_, rfl, h335⟩, fun h => absurd (b329.symm.trans h) (by decide)⟩
                · have d336 : s323 45 = (.bool (decide (0 < x4_1))) := (hd327 2 rfl)
                  have g337 : (decide (0 < x4_1)) = false := b329
                  exact L_skip rfl rfl (ltb rfl) (d336.trans (congrArg Value.bool g337)) rfl rfl (ltb rfl) <| L_nil <| stepEnd rfl rfl (Ext.refl w324) ⟨fun h => absurd (b329.symm.trans h) (by decide), fun _ => rfl⟩
              · intro s338 w339 e340 hf341 hd342 hu343
                rcases bool_two (decide (0 < x4_1)) with b344 | b344
                · have g345 : (decide (0 < x4_1)) = true := b344
                  have d346 : s338 45 = (.bool (decide (0 < x4_1))) := (hd342 2 rfl)
                  have d347 : s338 45 = (.bool (decide (0 < x4_1))) := (hd342 2 rfl)
                  obtain ⟨p348, h349, h350⟩ := ((hd342 7 rfl).1 b344)
                  exact L_op (.guard 2 true 45 rfl rfl (ltb rfl) (d346.trans (congrArg Value.bool g345))) rfl (ltb rfl) (X_loadF Tryd.isAgg9 (j := 1) h350 h349 rfl) <| L_nil <| stepEnd rfl rfl (Ext.refl w339) ⟨fun _ => rfl, fun h => absurd (b344.symm.trans h) (by decide)⟩
                · have d351 : s338 45 = (.bool (decide (0 < x4_1))) := (hd342 2 rfl)
                  have g352 : (decide (0 < x4_1)) = false := b344
                  exact L_skip rfl rfl (ltb rfl) (d351.trans (congrArg Value.bool g352)) rfl rfl (ltb rfl) <| L_nil <| stepEnd rfl rfl (Ext.refl w339) ⟨fun h => absurd (b344.symm.trans h) (by decide), fun _ => rfl⟩
              · intro s353 w354 e355 hf356 hd357 hu358
                rcases bool_two (decide (0 < x4_1)) with b359 | b359
                · have g360 : (decide (0 < x4_1)) = true := b359
                  have d361 : s353 45 = (.bool (decide (0 < x4_1))) := (hd357 2 rfl)
                  have d362 : s353 45 = (.bool (decide (0 < x4_1))) := (hd357 2 rfl)
                  exact L_op (.guard 2 true 45 rfl rfl (ltb rfl) (d361.trans (congrArg Value.bool g360))) rfl (ltb rfl) (X_move (v := v_a0) ((hf356 0 rfl).trans ((K236 0 rfl).trans (K12 0 rfl)))) <| L_nil <| stepEnd rfl rfl (Ext.refl w354) ⟨fun _ => rfl, fun h => absurd (b359.symm.trans h) (by decide)⟩
                · have d363 : s353 45 = (.bool (decide (0 < x4_1))) := (hd357 2 rfl)
                  have g364 : (decide (0 < x4_1)) = false := b359
                  exact L_skip rfl rfl (ltb rfl) (d363.trans (congrArg Value.bool g364)) rfl rfl (ltb rfl) <| L_nil <| stepEnd rfl rfl (Ext.refl w354) ⟨fun h => absurd (b359.symm.trans h) (by decide), fun _ => rfl⟩
              · intro s365 w366 e367 hf368 hd369 hu370
                rcases bool_two (decide (0 < x4_1)) with b371 | b371
                · have g372 : (decide (0 < x4_1)) = true := b371
                  have d373 : s365 45 = (.bool (decide (0 < x4_1))) := (hd369 2 rfl)
                  have d374 : s365 45 = (.bool (decide (0 < x4_1))) := (hd369 2 rfl)
                  exact L_op (.guard 2 true 45 rfl rfl (ltb rfl) (d373.trans (congrArg Value.bool g372))) rfl (ltb rfl) (X_move (v := (.int .i64 x4_1)) ((hf368 4 rfl).trans ((K236 4 rfl).trans h15))) <| L_nil <| stepEnd rfl rfl (Ext.refl w366) ⟨fun _ => rfl, fun h => absurd (b371.symm.trans h) (by decide)⟩
                · have d375 : s365 45 = (.bool (decide (0 < x4_1))) := (hd369 2 rfl)
                  have g376 : (decide (0 < x4_1)) = false := b371
                  exact L_skip rfl rfl (ltb rfl) (d375.trans (congrArg Value.bool g376)) rfl rfl (ltb rfl) <| L_nil <| stepEnd rfl rfl (Ext.refl w366) ⟨fun h => absurd (b371.symm.trans h) (by decide), fun _ => rfl⟩
              · intro s377 w378 e379 hf380 hd381 hu382
                rcases bool_two (decide (0 < x4_1)) with b383 | b383
                · have g384 : (decide (0 < x4_1)) = true := b383
                  have d385 : s377 45 = (.bool (decide (0 < x4_1))) := (hd381 2 rfl)
                  have d386 : s377 45 = (.bool (decide (0 < x4_1))) := (hd381 2 rfl)
                  have d387 : s377 52 = v_a0 := ((hd381 9 rfl).1 b383)
                  have d388 : s377 53 = (.int .i64 x4_1) := ((hd381 10 rfl).1 b383)
                  have c389 := imp_take b383 c242
                  exact L_idx (.guard 2 true 45 rfl rfl (ltb rfl) (d385.trans (congrArg Value.bool g384))) rfl (ltb rfl) rfl Tryd.underlying48 Tryd.sizeOf23 d387 (Rd.ext f_a0 (Ext.trans (Ext.trans (Ext.trans e13 e24) e233) e379)) d388 c389 <| fun p390 h391 => L_nil <| stepEnd rfl rfl (Ext.refl w378) ⟨fun _ => ⟨_, rfl, h391⟩, fun h => absurd (b383.symm.trans h) (by decide)⟩
                · have d392 : s377 45 = (.bool (decide (0 < x4_1))) := (hd381 2 rfl)
                  have g393 : (decide (0 < x4_1)) = false := b383
                  exact L_skip rfl rfl (ltb rfl) (d392.trans (congrArg Value.bool g393)) rfl rfl (ltb rfl) <| L_nil <| stepEnd rfl rfl (Ext.refl w378) ⟨fun h => absurd (b383.symm.trans h) (by decide), fun _ => rfl⟩
              · intro s394 w395 e396 hf397 hd398 hu399
                rcases bool_two (decide (0 < x4_1)) with b400 | b400
                · have g401 : (decide (0 < x4_1)) = true := b400
                  have d402 : s394 45 = (.bool (decide (0 < x4_1))) := (hd398 2 rfl)
                  have d403 : s394 45 = (.bool (decide (0 < x4_1))) := (hd398 2 rfl)
                  obtain ⟨p404, h405, h406⟩ := ((hd398 11 rfl).1 b400)
                  exact L_op (.guard 2 true 45 rfl rfl (ltb rfl) (d402.trans (congrArg Value.bool g401))) rfl (ltb rfl) (X_fieldAddr Tryd.underlying23 rfl Tryd.sizeOf9 rfl h405) <| L_nil <| stepEnd rfl rfl (Ext.refl w395) ⟨fun _ => ⟨_, rfl, h406⟩, fun h => absurd (b400.symm.trans h) (by decide)⟩
                · have d407 : s394 45 = (.bool (decide (0 < x4_1))) := (hd398 2 rfl)
                  have g408 : (decide (0 < x4_1)) = false := b400
                  exact L_skip rfl rfl (ltb rfl) (d407.trans (congrArg Value.bool g408)) rfl rfl (ltb rfl) <| L_nil <| stepEnd rfl rfl (Ext.refl w395) ⟨fun h => absurd (b400.symm.trans h) (by decide), fun _ => rfl⟩
              · intro s409 w410 e411 hf412 hd413 hu414
                rcases bool_two (decide (0 < x4_1)) with b415 | b415
                · have g416 : (decide (0 < x4_1)) = true := b415
                  have d417 : s409 45 = (.bool (decide (0 < x4_1))) := (hd413 2 rfl)
                  have d418 : s409 45 = (.bool (decide (0 < x4_1))) := (hd413 2 rfl)
                  obtain ⟨p419, h420, h421⟩ := ((hd413 12 rfl).1 b415)
                  exact L_op (.guard 2 true 45 rfl rfl (ltb rfl) (d417.trans (congrArg Value.bool g416))) rfl (ltb rfl) (X_loadF Tryd.isAgg9 (j := 1) h421 h420 rfl) <| L_nil <| stepEnd rfl rfl (Ext.refl w410) ⟨fun _ => rfl, fun h => absurd (b415.symm.trans h) (by decide)⟩
                · have d422 : s409 45 = (.bool (decide (0 < x4_1))) := (hd413 2 rfl)
                  have g423 : (decide (0 < x4_1)) = false := b415
                  exact L_skip rfl rfl (ltb rfl) (d422.trans (congrArg Value.bool g423)) rfl rfl (ltb rfl) <| L_nil <| stepEnd rfl rfl (Ext.refl w410) ⟨fun h => absurd (b415.symm.trans h) (by decide), fun _ => rfl⟩
              · intro s424 w425 e426 hf427 hd428 hu429
                rcases bool_two (decide (0 < x4_1)) with b430 | b430
                · have g431 : (decide (0 < x4_1)) = true := b430
                  have d432 : s424 45 = (.bool (decide (0 < x4_1))) := (hd428 2 rfl)
                  have d433 : s424 45 = (.bool (decide (0 < x4_1))) := (hd428 2 rfl)
                  have d434 : s424 51 = (S ((gt a0 (IntKind.wrap .i64 (x4_1 - 1))).path)) := ((hd428 8 rfl).1 b430)
                  have d435 : s424 56 = (S ((gt a0 x4_1).path)) := ((hd428 13 rfl).1 b430)
                  have c436 := imp_take b430 c245
                  have c437 := imp_take b430 c246
                  exact L_callP (.guard 2 true 45 rfl rfl (ltb rfl) (d432.trans (congrArg Value.bool g431))) rfl (ltb rfl) rfl Tryd.call83 (spec_l01Less.calls (w := w425) (a0 := (gt a0 (IntKind.wrap .i64 (x4_1 - 1))).path) (a1 := (gt a0 x4_1).path) (of_decide_eq_true c436) (of_decide_eq_true c437)) (cons2 d434 (cons2 d435 rfl)) <| fun w438 e439 => L_nil <| stepEnd rfl rfl e439 ⟨fun _ => rfl, fun h => absurd (b430.symm.trans h) (by decide)⟩
                · have d440 : s424 45 = (.bool (decide (0 < x4_1))) := (hd428 2 rfl)
                  have g441 : (decide (0 < x4_1)) = false := b430
                  exact L_skip rfl rfl (ltb rfl) (d440.trans (congrArg Value.bool g441)) rfl rfl (ltb rfl) <| L_nil <| stepEnd rfl rfl (Ext.refl w425) ⟨fun h => absurd (b430.symm.trans h) (by decide), fun _ => rfl⟩
              · intro s442 w443 e444 hf445 hd446 hu447
                rcases bool_two (decide (0 < x4_1)) with b448 | b448
                · have g449 : (decide (0 < x4_1)) = true := b448
                  have d450 : s442 45 = (.bool (decide (0 < x4_1))) := (hd446 2 rfl)
                  have d451 : s442 45 = (.bool (decide (0 < x4_1))) := (hd446 2 rfl)
                  have d452 : s442 57 = (.bool (lessL (cut 47 ((gt a0 (IntKind.wrap .i64 (x4_1 - 1))).path)) (cut 47 ((gt a0 x4_1).path)))) := ((hd446 14 rfl).1 b448)
                  exact L_op (.guard 2 true 45 rfl rfl (ltb rfl) (d450.trans (congrArg Value.bool g449))) rfl (ltb rfl) (X_not d452) <| L_nil <| stepEnd rfl rfl (Ext.refl w443) ⟨fun _ => rfl, fun h => absurd (b448.symm.trans h) (by decide)⟩
                · have d453 : s442 45 = (.bool (decide (0 < x4_1))) := (hd446 2 rfl)
                  have g454 : (decide (0 < x4_1)) = false := b448
                  exact L_skip rfl rfl (ltb rfl) (d453.trans (congrArg Value.bool g454)) rfl rfl (ltb rfl) <| L_nil <| stepEnd rfl rfl (Ext.refl w443) ⟨fun h => absurd (b448.symm.trans h) (by decide), fun _ => rfl⟩
              · intro s455 w456 e457 hf458 hd459 hu460
                rcases bool_two (decide (0 < x4_1)) with b461 | b461
                · have d462 : s455 45 = (.bool (decide (0 < x4_1))) := (hd459 2 rfl)
                  have d463 : s455 58 = (.bool (!(lessL (cut 47 ((gt a0 (IntKind.wrap .i64 (x4_1 - 1))).path)) (cut 47 ((gt a0 x4_1).path))))) := ((hd459 15 rfl).1 b461)
                  exact L_op (.plain rfl) rfl (ltb rfl) (X_pick (b := true) (v := (.bool (!(lessL (cut 47 ((gt a0 (IntKind.wrap .i64 (x4_1 - 1))).path)) (cut 47 ((gt a0 x4_1).path)))))) (d462.trans (congrArg Value.bool b461)) d463) <| L_nil <| stepEnd rfl rfl (Ext.refl w456) (by show _ = _; rw [b461]; rfl)
                · have d464 : s455 45 = (.bool (decide (0 < x4_1))) := (hd459 2 rfl)
                  exact L_op (.plain rfl) rfl (ltb rfl) (X_pick (b := false) (v := (.bool false)) (d464.trans (congrArg Value.bool b461)) rfl) <| L_nil <| stepEnd rfl rfl (Ext.refl w456) (by show _ = _; rw [b461]; rfl)
              intro s465 w466 e467 hf468 ha469
              have K470 := Kp.ofD (kp := [(43, 60)]) rfl hf468
              have d471 : s465 59 = (.bool ((decide (0 < x4_1)) && (!(lessL (cut 47 ((gt a0 (IntKind.wrap .i64 (x4_1 - 1))).path)) (cut 47 ((gt a0 x4_1).path)))))) := ha469 16 rfl
              clear ha469 hf468
              refine thn_n ?_
              rcases bif_two H with ⟨q472, H⟩ | ⟨q472, H⟩
              · refine W_true (d471.trans (congrArg Value.bool q472)) <| W_seq <| W_reg <| L_op (.plain rfl) rfl (ltb rfl) (X_move (v := (.int .i64 x4_1)) ((K470 4 rfl).trans ((K236 4 rfl).trans h15))) <| L_op (.plain rfl) rfl (ltb rfl) (X_assign (v := (.int .i64 x4_1)) rfl) <| L_op (.plain rfl) rfl (ltb rfl) (X_assign (v := (.int .i64 11)) rfl) <| L_nil <| thn_n <| W_ret <| thn_r <| blk_r <| thn_r <| thn_r <| blk_r <| thn_r <| thn_r <| fin_r ?_
                obtain rfl := Option.some.inj H
                obtain rfl := Option.some.inj S17
                have H := C4
                obtain rfl := Option.some.inj H
                exact fin2 rfl rfl (Ext.trans (Ext.trans (Ext.trans e13 e24) e233) e467)
              · refine W_false (d471.trans (congrArg Value.bool q472)) <| W_skip <| thn_n <| W_seq <| W_reg <| L_op (.plain rfl) rfl (ltb rfl) (X_move (v := v_a0) ((K470 0 rfl).trans ((K236 0 rfl).trans (K12 0 rfl)))) <| L_op (.plain rfl) rfl (ltb rfl) (X_move (v := (.int .i64 x4_1)) ((K470 4 rfl).trans ((K236 4 rfl).trans h15))) ?_
                obtain ⟨c473, H⟩ := bif_some H
                refine L_idx (.plain rfl) rfl (ltb rfl) rfl Tryd.underlying48 Tryd.sizeOf23 rfl (Rd.ext f_a0 (Ext.trans (Ext.trans (Ext.trans e13 e24) e233) e467)) rfl c473 <| fun p474 h475 => L_op (.plain rfl) rfl (ltb rfl) (X_fieldAddr Tryd.underlying23 rfl Tryd.sizeOf9 rfl rfl) <| L_op (.plain rfl) rfl (ltb rfl) (X_loadF Tryd.isAgg9 (j := 1) h475 rfl rfl) ?_
                obtain ⟨c476, H⟩ := bif_some H
                refine L_callP (.plain rfl) rfl (ltb rfl) rfl Tryd.call49 (spec_l01Parent.calls (w := w466) (a0 := (gt a0 x4_1).path) (of_decide_eq_true c476)) rfl <| fun w477 e478 => L_op (.plain rfl) rfl (ltb rfl) (X_assign (v := (S (parentP ((gt a0 x4_1).path)))) rfl) <| L_nil <| thn_n <| W_seq <| W_seq <| W_reg <| L_op (.plain rfl) rfl (ltb rfl) (X_move (v := (S (parentP ((gt a0 x4_1).path)))) rfl) <| L_op (.plain rfl) rfl (ltb rfl) (X_seq rfl rfl) <| L_nil <| thn_n ?_
                rcases bif_two H with ⟨q479, H⟩ | ⟨q479, H⟩
                · refine W_true (congrArg Value.bool q479) <| W_exit <| thn_x <| blk_x <| thn_n <| W_reg <| L_op (.plain rfl) rfl (ltb rfl) (X_move (v := (.int .i64 x4_1)) ((K470 4 rfl).trans ((K236 4 rfl).trans h15))) <| L_op (.plain rfl) rfl (ltb rfl) (X_add rfl rfl) <| L_op (.plain rfl) rfl (ltb rfl) (X_assign (v := (.int .i64 (IntKind.wrap .i64 (x4_1 + 1)))) rfl) <| L_nil <| thn_n ?_
                  obtain rfl := Option.some.inj H
                  exact ⟨_, Nat.lt_succ_self _, IntKind.wrap .i64 (x4_1 + 1), (Kp.upd (Kp.upd (Kp.upd (Kp.upd (Kp.upd (Kp.upd (Kp.upd (Kp.upd (Kp.upd (Kp.upd (Kp.upd (Kp.upd (Kp.cut (Kp.cut (Kp.upd (Kp.upd (Kp.upd (Kp.upd (Kp.upd (Kp.upd (Kp.upd (Kp.upd (Kp.upd (Kp.upd (Kp.upd (Kp.upd (Kp.upd (Kp.upd K12 rfl) rfl) rfl) rfl) rfl) rfl) rfl) rfl) rfl) rfl) rfl) rfl) rfl) rfl) K236 rfl) K470 rfl) rfl) rfl) rfl) rfl) rfl) rfl) rfl) rfl) rfl) rfl) rfl) rfl), rfl, (Ext.trans (Ext.trans (Ext.trans (Ext.trans e13 e24) e233) e467) e478), S17⟩
                · refine W_false (congrArg Value.bool q479) <| W_skip <| thn_n <| W_seq <| W_reg <| L_op (.plain rfl) rfl (ltb rfl) (X_move (v := v_a0) ((K470 0 rfl).trans ((K236 0 rfl).trans (K12 0 rfl)))) <| L_op (.plain rfl) rfl (ltb rfl) (X_move (v := (.int .i64 x4_1)) ((K470 4 rfl).trans ((K236 4 rfl).trans h15))) ?_
                  obtain ⟨c480, H⟩ := bif_some H
                  refine L_sub (.plain rfl) rfl (ltb rfl) rfl Tryd.underlying48 Tryd.sizeOf23 rfl (Rd.ext f_a0 (Ext.trans (Ext.trans (Ext.trans (Ext.trans e13 e24) e233) e467) e478)) (l := 0) (h := x4_1) rfl ⟨_, rfl⟩ c480 <| fun v481 h482 => L_op (.plain rfl) rfl (ltb rfl) (X_move (v := (S (parentP ((gt a0 x4_1).path)))) rfl) ?_
                  obtain ⟨c483, H⟩ := bif_some H
                  refine L_callP (.plain rfl) rfl (ltb rfl) rfl Tryd.call69 (spec_l03At.calls (w := w477) (a0 := sub a0 0 x4_1) (a1 := (parentP ((gt a0 x4_1).path))) h482 (of_decide_eq_true c483)) rfl <| fun w484 e485 => L_op (.plain rfl) rfl (ltb rfl) (X_assign (v := (.int .i64 (findR (sub a0 0 x4_1) (parentP ((gt a0 x4_1).path))))) rfl) <| L_nil <| thn_n <| W_seq <| W_seq <| W_reg <| L_op (.plain rfl) rfl (ltb rfl) (X_move (v := (.int .i64 (findR (sub a0 0 x4_1) (parentP ((gt a0 x4_1).path))))) rfl) <| L_op (.plain rfl) rfl (ltb rfl) (X_lss rfl rfl) <| L_nil <| thn_n ?_
                  rcases bif_two H with ⟨q486, H⟩ | ⟨q486, H⟩
                  · refine W_true (congrArg Value.bool q486) <| W_seq <| W_reg <| L_op (.plain rfl) rfl (ltb rfl) (X_move (v := (.int .i64 x4_1)) ((K470 4 rfl).trans ((K236 4 rfl).trans h15))) <| L_op (.plain rfl) rfl (ltb rfl) (X_assign (v := (.int .i64 x4_1)) rfl) <| L_op (.plain rfl) rfl (ltb rfl) (X_assign (v := (.int .i64 12)) rfl) <| L_nil <| thn_n <| W_ret <| thn_r <| blk_r <| thn_r <| thn_r <| blk_r <| thn_r <| thn_r <| fin_r ?_
                    obtain rfl := Option.some.inj H
                    obtain rfl := Option.some.inj S17
                    have H := C4
                    obtain rfl := Option.some.inj H
                    exact fin2 rfl rfl (Ext.trans (Ext.trans (Ext.trans (Ext.trans (Ext.trans e13 e24) e233) e467) e478) e485)
                  · refine W_false (congrArg Value.bool q486) <| W_skip <| thn_n <| W_seq <| W_reg <| L_op (.plain rfl) rfl (ltb rfl) (X_move (v := v_a0) ((K470 0 rfl).trans ((K236 0 rfl).trans (K12 0 rfl)))) <| L_op (.plain rfl) rfl (ltb rfl) (X_move (v := (.int .i64 (findR (sub a0 0 x4_1) (parentP ((gt a0 x4_1).path))))) rfl) ?_
                    obtain ⟨c487, H⟩ := bif_some H
                    refine L_idx (.plain rfl) rfl (ltb rfl) rfl Tryd.underlying48 Tryd.sizeOf23 rfl (Rd.ext f_a0 (Ext.trans (Ext.trans (Ext.trans (Ext.trans (Ext.trans e13 e24) e233) e467) e478) e485)) rfl c487 <| fun p488 h489 => L_op (.plain rfl) rfl (ltb rfl) (X_fieldAddr Tryd.underlying23 rfl Tryd.sizeOf3 rfl rfl) <| L_op (.plain rfl) rfl (ltb rfl) (X_loadF Tryd.isAgg3 (j := 0) h489 rfl rfl) <| L_op (.plain rfl) rfl (ltb rfl) (X_neq rfl rfl) <| L_nil <| thn_n ?_
                    rcases bif_two H with ⟨q490, H⟩ | ⟨q490, H⟩
                    · refine W_true (congrArg Value.bool q490) <| W_seq <| W_reg <| L_op (.plain rfl) rfl (ltb rfl) (X_move (v := (.int .i64 x4_1)) ((K470 4 rfl).trans ((K236 4 rfl).trans h15))) <| L_op (.plain rfl) rfl (ltb rfl) (X_assign (v := (.int .i64 x4_1)) rfl) <| L_op (.plain rfl) rfl (ltb rfl) (X_assign (v := (.int .i64 13)) rfl) <| L_nil <| thn_n <| W_ret <| blk_r <| thn_r <| thn_r <| blk_r <| thn_r <| thn_r <| fin_r ?_
                      obtain rfl := Option.some.inj H
                      obtain rfl := Option.some.inj S17
                      have H := C4
                      obtain rfl := Option.some.inj H
                      exact fin2 rfl rfl (Ext.trans (Ext.trans (Ext.trans (Ext.trans (Ext.trans e13 e24) e233) e467) e478) e485)
                    · refine W_false (congrArg Value.bool q490) <| W_skip <| blk_n <| thn_n <| W_reg <| L_op (.plain rfl) rfl (ltb rfl) (X_move (v := (.int .i64 x4_1)) ((K470 4 rfl).trans ((K236 4 rfl).trans h15))) <| L_op (.plain rfl) rfl (ltb rfl) (X_add rfl rfl) <| L_op (.plain rfl) rfl (ltb rfl) (X_assign (v := (.int .i64 (IntKind.wrap .i64 (x4_1 + 1)))) rfl) <| L_nil <| thn_n ?_
                      obtain rfl := Option.some.inj H
                      exact ⟨_, Nat.lt_succ_self _, IntKind.wrap .i64 (x4_1 + 1), (Kp.upd (Kp.upd (Kp.upd (Kp.upd (Kp.upd (Kp.upd (Kp.upd (Kp.upd (Kp.upd (Kp.upd (Kp.upd (Kp.upd (Kp.upd (Kp.upd (Kp.upd (Kp.upd (Kp.upd (Kp.upd (Kp.upd (Kp.upd (Kp.upd (Kp.upd (Kp.upd (Kp.upd (Kp.upd (Kp.upd (Kp.cut (Kp.cut (Kp.upd (Kp.upd (Kp.upd (Kp.upd (Kp.upd (Kp.upd (Kp.upd (Kp.upd (Kp.upd (Kp.upd (Kp.upd (Kp.upd (Kp.upd (Kp.upd K12 rfl) rfl) rfl) rfl) rfl) rfl) rfl) rfl) rfl) rfl) rfl) rfl) rfl) rfl) K236 rfl) K470 rfl) rfl) rfl) rfl) rfl) rfl) rfl) rfl) rfl) rfl) rfl) rfl) rfl) rfl) rfl) rfl) rfl) rfl) rfl) rfl) rfl) rfl) rfl) rfl) rfl) rfl) rfl), rfl, (Ext.trans (Ext.trans (Ext.trans (Ext.trans (Ext.trans e13 e24) e233) e467) e478) e485), S17⟩
      · refine W_false (congrArg Value.bool q18) <| W_exit <| thn_x <| thn_x <| blk_x <| thn_n ?_
        obtain rfl := Option.some.inj H
        obtain rfl := Option.some.inj S17
        exact ⟨(Kp.upd (Kp.upd (Kp.upd (Kp.upd K12 rfl) rfl) rfl) rfl), e13, rfl⟩
  · rintro s6 w5 ⟨K7, e8, y491⟩
    rw [y491] at C4
    have H := C4
    replace H : _ = some _ := H
    refine thn_n <| W_seq <| W_reg <| L_op (.plain rfl) rfl (ltb rfl) (X_assign (v := (.int .i64 0)) rfl) <| L_op (.plain rfl) rfl (ltb rfl) (X_assign (v := (.int .i64 0)) rfl) <| L_nil <| thn_n <| W_ret <| fin_r ?_
    obtain rfl := Option.some.inj H
    exact fin2 rfl rfl e8
theorem spec_l03Fault.calls {w : World} {a0 : List Rec} {v_a0 : Value} (f_a0 : Rd 5 encRec w v_a0 a0) (h0 : a0.length ≤ 1048576) (h1 : ∀ x ∈ a0, x.path.length ≤ 1048576) :
    Calls Tryd.prog 64 #[v_a0] w (Rt (RP w (.tuple #[.int .i64 ((layerFault a0).1), .int .i64 ((layerFault a0).2)]))) := by
  obtain ⟨k, h⟩ := spec_l03Fault.eq a0 h0 h1
  exact spec_l03Fault.walk f_a0 h
/-! spec.LayerFault -/
theorem spec_LayerFault.walk {w : World} {a0 : List Rec} {v_a0 : Value} (f_a0 : Rd 5 encRec w v_a0 a0) {r : Int × Int} (H : spec_LayerFault.sh a0 = some r) :
    Calls Tryd.prog 34 #[v_a0] w (Rt (RP w (.tuple #[.int .i64 r.1, .int .i64 r.2]))) := by
  unfold spec_LayerFault.sh at H
  refine calls_of_W Tryd.func34 rfl (Nat.le_of_ble_eq_true rfl) Tryd.ntmps34 rfl ?_
  refine W_seq <| W_reg <| L_op (.plain rfl) rfl (ltb rfl) (X_assign (v := (.int .i64 0)) rfl) <| L_op (.plain rfl) rfl (ltb rfl) (X_assign (v := (.int .i64 0)) rfl) <| L_nil <| thn_n <| W_seq <| W_seq <| W_reg <| L_op (.plain rfl) rfl (ltb rfl) (X_move (v := v_a0) rfl) <| L_op (.plain rfl) rfl (ltb rfl) (X_lenR Tryd.underlying48 rfl f_a0) <| L_op (.plain rfl) rfl (ltb rfl) (X_gtr rfl rfl) <| L_nil <| thn_n ?_
  rcases bif_two H with ⟨q1, H⟩ | ⟨q1, H⟩
  · refine W_true (congrArg Value.bool q1) <| W_seq <| W_reg <| L_op (.plain rfl) rfl (ltb rfl) (X_assign (v := (.int .i64 0)) rfl) <| L_op (.plain rfl) rfl (ltb rfl) (X_assign (v := (.int .i64 2)) rfl) <| L_nil <| thn_n <| W_ret <| thn_r <| fin_r ?_
    obtain rfl := Option.some.inj H
    exact fin2 rfl rfl (Ext.refl w)
  · refine W_false (congrArg Value.bool q1) <| W_skip <| thn_n <| W_seq <| W_reg <| L_op (.plain rfl) rfl (ltb rfl) (X_move (v := v_a0) rfl) ?_
    obtain ⟨c2, H⟩ := bif_some H
    obtain ⟨c3, H⟩ := bif_some H
    refine L_callP (.plain rfl) rfl (ltb rfl) rfl Tryd.call64 (spec_l03Fault.calls (w := w) (a0 := a0) f_a0 (of_decide_eq_true c2) (of_decide_eq_true c3)) rfl <| fun w4 e5 => L_op (.plain rfl) rfl (ltb rfl) (X_extract (v := (.int .i64 ((layerFault a0).1))) rfl rfl) <| L_op (.plain rfl) rfl (ltb rfl) (X_extract (v := (.int .i64 ((layerFault a0).2))) rfl rfl) <| L_op (.plain rfl) rfl (ltb rfl) (X_assign (v := (.int .i64 ((layerFault a0).1))) rfl) <| L_op (.plain rfl) rfl (ltb rfl) (X_assign (v := (.int .i64 ((layerFault a0).2))) rfl) <| L_nil <| thn_n <| W_ret <| fin_r ?_
    obtain rfl := Option.some.inj H
    exact fin2 rfl rfl e5
theorem spec_LayerFault.calls {w : World} {a0 : List Rec} {v_a0 : Value} (f_a0 : Rd 5 encRec w v_a0 a0) (h0 : a0.length ≤ 1048576) (h1 : ∀ x ∈ a0, x.path.length ≤ 1048576) :
    Calls Tryd.prog 34 #[v_a0] w (Rt (RP w (.tuple #[.int .i64 ((layerFaultL a0).1), .int .i64 ((layerFaultL a0).2)]))) := spec_LayerFault.walk f_a0 (spec_LayerFault.eq a0 h0 h1)
/-! impl.isLongList(impl.Record) -/
theorem impl_isLongListR.walk {w : World} {a0 : List Rec} {v_a0 : Value} (f_a0 : Rd 5 encRec w v_a0 a0) {r : Bool} (H : impl_isLongListR.sh a0 = some r) :
    Calls Tryd.prog 66 #[v_a0] w (Rt (RP w (.bool r))) := by
  unfold impl_isLongListR.sh at H
  refine calls_of_W Tryd.func66 rfl (Nat.le_of_ble_eq_true rfl) Tryd.ntmps66 rfl ?_
  refine W_seq <| W_reg <| L_op (.plain rfl) rfl (ltb rfl) (X_assign (v := (.bool false)) rfl) <| L_nil <| thn_n <| W_seq <| W_reg <| L_op (.plain rfl) rfl (ltb rfl) (X_move (v := v_a0) rfl) <| L_op (.plain rfl) rfl (ltb rfl) (X_lenR Tryd.underlying48 rfl f_a0) <| L_op (.plain rfl) rfl (ltb rfl) (X_gtr rfl rfl) <| L_op (.plain rfl) rfl (ltb rfl) (X_assign (v := (.bool (decide (4096 < (a0.length : Int))))) rfl) <| L_nil <| thn_n <| W_ret <| fin_r ?_
  obtain rfl := Option.some.inj H
  exact fin1 rfl (Ext.refl w)
theorem impl_isLongListR.calls {w : World} {a0 : List Rec} {v_a0 : Value} (f_a0 : Rd 5 encRec w v_a0 a0) :
    Calls Tryd.prog 66 #[v_a0] w (Rt (RP w (.bool (decide (4096 < a0.length))))) := impl_isLongListR.walk f_a0 (impl_isLongListR.eq a0)
/-! impl.find$1 -/
theorem impl_find_1.walk {w : World} {a0 : Rec} {a1 : List UInt8} {b_a1 : Nat} (k_a1 : Blk w b_a1 #[(S a1)] 9) {r : Bool} (H : impl_find_1.sh a0 a1 = some r) :
    Calls Tryd.prog 91 #[.agg (encRec a0).toArray, .pointer (some ⟨b_a1, 0, none⟩)] w (Rt (RP w (.bool r))) := by
  unfold impl_find_1.sh at H
  refine calls_of_W Tryd.func91 rfl (Nat.le_of_ble_eq_true rfl) Tryd.ntmps91 rfl ?_
  refine W_seq <| W_reg <| L_box (.plain rfl) rfl (ltb rfl) rfl rfl <| fun b1 w2 z3 z4 e5 k6 => L_op (.plain rfl) rfl (ltb rfl) (X_assign (v := (.bool false)) rfl) <| L_nil <| thn_n <| W_seq <| W_reg <| L_op (.plain rfl) rfl (ltb rfl) (X_fieldAddr Tryd.underlying23 rfl Tryd.sizeOf9 rfl rfl) <| L_op (.plain rfl) rfl (ltb rfl) (X_loadB Tryd.isAgg9 k6 rfl rfl) <| L_op (.plain rfl) rfl (ltb rfl) (X_loadB Tryd.isAgg9 (Blk.ext k_a1 e5) rfl rfl) <| L_op (.plain rfl) rfl (ltb rfl) (X_seq rfl rfl) <| L_op (.plain rfl) rfl (ltb rfl) (X_assign (v := (.bool (decide (a0.path = a1)))) rfl) <| L_nil <| thn_n <| W_ret <| fin_r ?_
  obtain rfl := Option.some.inj H
  exact fin1 rfl e5
theorem impl_find_1.calls {w : World} {a0 : Rec} {a1 : List UInt8} {b_a1 : Nat} (k_a1 : Blk w b_a1 #[(S a1)] 9) :
    Calls Tryd.prog 91 #[.agg (encRec a0).toArray, .pointer (some ⟨b_a1, 0, none⟩)] w (Rt (RP w (.bool (decide (a0.path = a1))))) := impl_find_1.walk k_a1 (impl_find_1.eq a0 a1)
/-! slices.IndexFunc(()impl.Record,impl.Record) -/
theorem slices_IndexFuncR.walk {k : Nat} {w : World} {a0 : List Rec} {a1 : Rec → Option Bool} {v_a0 : Value} (f_a0 : Rd 5 encRec w v_a0 a0) {v_a1 : Value} (f_a1 : ∀ (x0 : Rec) (r : Bool), a1 x0 = some r → FnAt Tryd.prog w v_a1 [(.agg (encRec x0).toArray)] (.bool r)) (g_a1 : v_a1.cells = #[v_a1]) {r : Int} (H : slices_IndexFuncR.sh k a0 a1 = some r) :
    Calls Tryd.prog 90 #[v_a0, v_a1] w (Rt (RP w (.int .i64 r))) := by
  unfold slices_IndexFuncR.sh at H
  refine calls_of_W Tryd.func90 rfl (Nat.le_of_ble_eq_true rfl) Tryd.ntmps90 rfl ?_
  refine W_seq <| W_reg <| L_op (.plain rfl) rfl (ltb rfl) (X_assign (v := (.int .i64 0)) rfl) <| L_nil <| thn_n <| W_seq <| W_seq <| W_reg <| L_op (.plain rfl) rfl (ltb rfl) (X_move (v := v_a0) rfl) <| L_op (.plain rfl) rfl (ltb rfl) (X_lenR Tryd.underlying48 rfl f_a0) <| L_op (.plain rfl) rfl (ltb rfl) (X_move (v := (.int .i64 0)) rfl) <| L_nil <| thn_n ?_
  obtain ⟨z2, L3, C4⟩ := bind_some H
  clear H
  refine  W_cutQ (fun s0 s9 w9 => Kp [(4, 6), (8, 19)] s0 s9 ∧ Ext w w9 ∧ z2 = .inr ()) ?_ ?_
  · refine W_block <| W_loopI (fun s0 kk s9 w9 => ∃ (x8_1 : Int), Kp [(4, 6), (8, 19)] s0 s9 ∧ s9 8 = .int .i64 x8_1 ∧ Ext w w9 ∧ loopF (slices_IndexFuncR.b1 a0 a1) kk x8_1 = some z2) k ⟨0, (Kp.refl _ _), rfl, (Ext.refl w), L3⟩ ?_
    rintro k9 s10 w11 ⟨x8_1, K12, h15, e13, L14⟩
    cases k9 with
    | zero => exact absurd L14 (by simp [loopF])
    | succ k9 =>
      obtain ⟨t16, H, S17⟩ := loopF_succ L14
      clear L14
      unfold slices_IndexFuncR.b1 at H
      refine W_seq <| W_reg <| L_op (.plain rfl) rfl (ltb rfl) (X_lss h15 (K12 7 rfl)) <| L_nil <| thn_n <| W_seq ?_
      rcases bif_two H with ⟨q18, H⟩ | ⟨q18, H⟩
      · refine W_true (congrArg Value.bool q18) <| W_skip <| thn_n <| W_seq <| W_block <| W_seq <| W_reg <| L_op (.plain rfl) rfl (ltb rfl) (X_move (v := (.int .i64 x8_1)) h15) <| L_op (.plain rfl) rfl (ltb rfl) (X_assign (v := (.int .i64 x8_1)) rfl) <| L_nil <| thn_n <| W_seq <| W_reg <| L_op (.plain rfl) rfl (ltb rfl) (X_move (v := v_a1) (K12 1 rfl)) <| L_op (.plain rfl) rfl (ltb rfl) (X_move (v := v_a0) (K12 0 rfl)) <| L_op (.plain rfl) rfl (ltb rfl) (X_move (v := (.int .i64 x8_1)) rfl) ?_
        obtain ⟨c19, H⟩ := bif_some H
        refine L_idx (.plain rfl) rfl (ltb rfl) rfl Tryd.underlying48 Tryd.sizeOf23 rfl (Rd.ext f_a0 e13) rfl c19 <| fun p20 h21 => L_op (.plain rfl) rfl (ltb rfl) (X_loadS Tryd.isAgg23 Tryd.sizeOf23 rfl rfl h21) ?_
        obtain ⟨z22, x23, H⟩ := bind_some H
        refine L_callF (.plain rfl) rfl (ltb rfl) rfl rfl (FnAt.ext (f_a1 _ _ x23) e13) rfl <| fun w24 e25 => L_nil <| thn_n ?_
        rcases bif_two H with ⟨q26, H⟩ | ⟨q26, H⟩
        · refine W_true (congrArg Value.bool q26) <| W_seq <| W_reg <| L_op (.plain rfl) rfl (ltb rfl) (X_move (v := (.int .i64 x8_1)) rfl) <| L_op (.plain rfl) rfl (ltb rfl) (X_assign (v := (.int .i64 x8_1)) rfl) <| L_nil <| thn_n <| W_ret <| blk_r <| thn_r <| thn_r <| blk_r <| thn_r <| thn_r <| fin_r ?_
          obtain rfl := Option.some.inj H
          obtain rfl := Option.some.inj S17
          have H := C4
          obtain rfl := Option.some.inj H
          exact fin1 rfl (Ext.trans e13 e25)
        · refine W_false (congrArg Value.bool q26) <| W_skip <| blk_n <| thn_n <| W_reg <| L_op (.plain rfl) rfl (ltb rfl) (X_add h15 rfl) <| L_op (.plain rfl) rfl (ltb rfl) (X_move (v := (.int .i64 (IntKind.wrap .i64 (x8_1 + 1)))) rfl) <| L_nil <| thn_n ?_
          obtain rfl := Option.some.inj H
          exact ⟨_, Nat.lt_succ_self _, IntKind.wrap .i64 (x8_1 + 1), (Kp.upd (Kp.upd (Kp.upd (Kp.upd (Kp.upd (Kp.upd (Kp.upd (Kp.upd (Kp.upd (Kp.upd (Kp.upd K12 rfl) rfl) rfl) rfl) rfl) rfl) rfl) rfl) rfl) rfl) rfl), rfl, (Ext.trans e13 e25), S17⟩
      · refine W_false (congrArg Value.bool q18) <| W_exit <| thn_x <| thn_x <| blk_x <| thn_n ?_
        obtain rfl := Option.some.inj H
        obtain rfl := Option.some.inj S17
        exact ⟨(Kp.upd K12 rfl), e13, rfl⟩
  · rintro s6 w5 ⟨K7, e8, y27⟩
    rw [y27] at C4
    have H := C4
    replace H : _ = some _ := H
    refine thn_n <| W_seq <| W_reg <| L_op (.plain rfl) rfl (ltb rfl) (X_assign (v := (.int .i64 (-1))) rfl) <| L_nil <| thn_n <| W_ret <| fin_r ?_
    obtain rfl := Option.some.inj H
    exact fin1 rfl e8
theorem slices_IndexFuncR.calls {w : World} {a0 : List Rec} {a1 : Rec → Option Bool} {r : Int} {v_a0 : Value} (f_a0 : Rd 5 encRec w v_a0 a0) {v_a1 : Value} (f_a1 : ∀ (x0 : Rec) (r : Bool), a1 x0 = some r → FnAt Tryd.prog w v_a1 [(.agg (encRec x0).toArray)] (.bool r)) (g_a1 : v_a1.cells = #[v_a1]) (h0 : a0.length ≤ 4611686018427387904) (H : (idxO a1 a0) = some r) :
    Calls Tryd.prog 90 #[v_a0, v_a1] w (Rt (RP w (.int .i64 r))) := by
  obtain ⟨k, h⟩ := slices_IndexFuncR.eq a0 a1 h0 H
  exact slices_IndexFuncR.walk f_a0 f_a1 g_a1 h
/-! impl.find -/
theorem impl_find.walk {w : World} {a0 : List Rec} {a1 : List UInt8} {v_a0 : Value} (f_a0 : Rd 5 encRec w v_a0 a0) {r : Int} (H : impl_find.sh a0 a1 = some r) :
    Calls Tryd.prog 70 #[v_a0, S a1] w (Rt (RP w (.int .i64 r))) := by
  unfold impl_find.sh at H
  refine calls_of_W Tryd.func70 rfl (Nat.le_of_ble_eq_true rfl) Tryd.ntmps70 rfl ?_
  refine W_seq <| W_reg <| L_box (.plain rfl) rfl (ltb rfl) rfl rfl <| fun b1 w2 z3 z4 e5 k6 => L_op (.plain rfl) rfl (ltb rfl) (X_assign (v := (.int .i64 0)) rfl) <| L_nil <| thn_n <| W_seq <| W_reg <| L_op (.plain rfl) rfl (ltb rfl) (X_move (v := v_a0) rfl) <| L_op (.plain rfl) rfl (ltb rfl) (X_makeFunc (vs := #[]) (us := #[.pointer (some ⟨b1, 0, none⟩)]) rfl rfl) ?_
  obtain ⟨c9, H⟩ := bif_some H
  obtain ⟨z10, x11, H⟩ := bind_some H
  refine L_callP (.plain rfl) rfl (ltb rfl) rfl Tryd.call90 (slices_IndexFuncR.calls (w := w2) (a0 := a0) (a1 := (fun (x0_ : Rec) => some (decide (x0_.path = a1)))) (Rd.ext f_a0 e5) (fun x0_ r h => by have h := Option.some.inj h; subst h; exact FnAt.mk Tryd.call91 (by rfl) fun w7 k8 => impl_find_1.calls (w := w7) (a0 := x0_) (a1 := a1) (Blk.ext k6 k8)) rfl (of_decide_eq_true c9) x11) rfl <| fun w12 e13 => L_op (.plain rfl) rfl (ltb rfl) (X_assign (v := (.int .i64 z10)) rfl) <| L_nil <| thn_n <| W_ret <| fin_r ?_
  obtain rfl := Option.some.inj H
  exact fin1 rfl (Ext.trans e5 e13)
theorem impl_find.calls {w : World} {a0 : List Rec} {a1 : List UInt8} {v_a0 : Value} (f_a0 : Rd 5 encRec w v_a0 a0) (h0 : a0.length ≤ 1048576) :
    Calls Tryd.prog 70 #[v_a0, S a1] w (Rt (RP w (.int .i64 (findR a0 a1)))) := impl_find.walk f_a0 (impl_find.eq a0 a1 h0)
/-! impl.faultAt -/
theorem impl_faultAt.walk {w : World} {a0 : List Rec} {a1 : Int} (gv : GV 0 w) {v_a0 : Value} (f_a0 : Rd 5 encRec w v_a0 a0) {r : Int} (H : impl_faultAt.sh a0 a1 = some r) :
    Calls Tryd.prog 89 #[v_a0, .int .i64 a1] w (Rt (RP w (.int .i64 r))) := by
  unfold impl_faultAt.sh at H
  refine calls_of_W Tryd.func89 rfl (Nat.le_of_ble_eq_true rfl) Tryd.ntmps89 rfl ?_
  refine W_seq <| W_reg <| L_op (.plain rfl) rfl (ltb rfl) (X_assign (v := (.int .i64 0)) rfl) <| L_nil <| thn_n <| W_seq <| W_reg <| L_op (.plain rfl) rfl (ltb rfl) (X_move (v := v_a0) rfl) <| L_op (.plain rfl) rfl (ltb rfl) (X_move (v := (.int .i64 a1)) rfl) ?_
  obtain ⟨c1, H⟩ := bif_some H
  refine L_idx (.plain rfl) rfl (ltb rfl) rfl Tryd.underlying48 Tryd.sizeOf23 rfl f_a0 rfl c1 <| fun p2 h3 => L_op (.plain rfl) rfl (ltb rfl) (X_loadS Tryd.isAgg23 Tryd.sizeOf23 rfl rfl h3) <| L_alloc (.plain rfl) rfl (ltb rfl) rfl Tryd.zeroValue23 <| fun b4 w5 z6 z7 e8 k9 => L_storeA (.plain rfl) rfl rfl Tryd.sizeOf23 rfl rfl rfl rfl rfl k9 <| fun w10 h11 k12 => L_op (.plain rfl) rfl (ltb rfl) (X_assign (v := (.int .i64 0)) rfl) <| L_nil <| thn_n <| W_seq <| W_seq <| W_reg <| L_op (.plain rfl) rfl (ltb rfl) (X_fieldAddr Tryd.underlying23 rfl Tryd.sizeOf9 rfl rfl) <| L_op (.plain rfl) rfl (ltb rfl) (X_loadB Tryd.isAgg9 k12 rfl rfl) ?_
  obtain ⟨c13, H⟩ := bif_some H
  refine L_callP (.plain rfl) rfl (ltb rfl) rfl Tryd.call53 (impl_parent.calls (w := w10) (a0 := (gt a0 a1).path) (of_decide_eq_true c13)) rfl <| fun w14 e15 => L_op (.plain rfl) rfl (ltb rfl) (X_assign (v := (S (parentP ((gt a0 a1).path)))) rfl) <| L_nil <| thn_n <| W_seq <| W_reg <| L_op (.plain rfl) rfl (ltb rfl) (X_move (v := (S (parentP ((gt a0 a1).path)))) rfl) <| L_op (.plain rfl) rfl (ltb rfl) (X_sne rfl rfl) <| L_nil <| thn_n ?_
  rcases bif_two H with ⟨q16, H⟩ | ⟨q16, H⟩
  · refine W_true (congrArg Value.bool q16) <| W_reg <| L_op (.plain rfl) rfl (ltb rfl) (X_move (v := v_a0) rfl) <| L_op (.plain rfl) rfl (ltb rfl) (X_move (v := (.int .i64 a1)) rfl) ?_
    obtain ⟨c17, H⟩ := bif_some H
    refine L_sub (.plain rfl) rfl (ltb rfl) rfl Tryd.underlying48 Tryd.sizeOf23 rfl (Rd.ext f_a0 (Ext.trans (Below.trans e8 (Wr.below h11 (Nat.le_of_eq z6))) e15)) (l := 0) (h := a1) rfl ⟨_, rfl⟩ c17 <| fun v18 h19 => L_op (.plain rfl) rfl (ltb rfl) (X_move (v := (S (parentP ((gt a0 a1).path)))) rfl) ?_
    obtain ⟨c20, H⟩ := bif_some H
    refine L_callP (.plain rfl) rfl (ltb rfl) rfl Tryd.call70 (impl_find.calls (w := w14) (a0 := sub a0 0 a1) (a1 := (parentP ((gt a0 a1).path))) h19 (of_decide_eq_true c20)) rfl <| fun w21 e22 => L_op (.plain rfl) rfl (ltb rfl) (X_assign (v := (.int .i64 (findR (sub a0 0 a1) (parentP ((gt a0 a1).path))))) rfl) <| L_nil <| thn_n <| W_seq ?_
    obtain ⟨c27, H⟩ := bif_some H
    obtain ⟨c30, H⟩ := bif_some H
    obtain ⟨c35, H⟩ := bif_some H
    obtain ⟨c38, H⟩ := bif_some H
    obtain ⟨c47, H⟩ := bif_some H
    obtain ⟨c56, H⟩ := bif_some H
    refine W_drawM [LEq (.int .i64 a1), LEq (.bool (decide (16 ≤ a1))), LEq (.iface 4 (.bool (decide (16 ≤ a1)))), LEq (.iface 3 (.int .i64 6)), LEq (.iface 4 (.bool true)), LEq (.agg #[(.int .i64 ((gt a0 a1).kind)), (S ((gt a0 a1).path)), (S ((gt a0 a1).body)), (.int .i64 ((gt a0 a1).mode)), (.bool ((gt a0 a1).opq))]), LEq (.bool (decide (recFault (gt a0 a1) = 0))), LEq (.bool (!(decide (recFault (gt a0 a1) = 0)))), LEq (.iface 4 (.bool (!(decide (recFault (gt a0 a1) = 0))))), LEq (.agg #[(.int .i64 ((gt a0 a1).kind)), (S ((gt a0 a1).path)), (S ((gt a0 a1).body)), (.int .i64 ((gt a0 a1).mode)), (.bool ((gt a0 a1).opq))]), LEq (.int .i64 (recFault (gt a0 a1))), LEq (.iface 3 (.int .i64 (recFault (gt a0 a1)))), LEq (.int .i64 a1), LEq (.bool (decide (0 < a1))), LEq (.bool (decide (0 < a1))), LIf (decide (0 < a1)) (LEq v_a0), LIf (decide (0 < a1)) (LEq (.int .i64 a1)), LIf (decide (0 < a1)) (LEq (.int .i64 (IntKind.wrap .i64 (a1 - 1)))), LIf (decide (0 < a1)) (LEq (.int .i64 (if ((IntKind.wrap .i64 (a1 - 1)) < 0 : Prop) then 0 else (IntKind.wrap .i64 (a1 - 1))))), LIf (decide (0 < a1)) (LAt0 (encRec (gt a0 (if ((IntKind.wrap .i64 (a1 - 1)) < 0 : Prop) then 0 else (IntKind.wrap .i64 (a1 - 1)))))), LIf (decide (0 < a1)) (LAt 1 (encRec (gt a0 (if ((IntKind.wrap .i64 (a1 - 1)) < 0 : Prop) then 0 else (IntKind.wrap .i64 (a1 - 1)))))), LIf (decide (0 < a1)) (LEq (S ((gt a0 (if ((IntKind.wrap .i64 (a1 - 1)) < 0 : Prop) then 0 else (IntKind.wrap .i64 (a1 - 1)))).path))), LIf (decide (0 < a1)) (LEq (.pointer (some ⟨b4, 1, none⟩))), LIf (decide (0 < a1)) (LEq (S ((gt a0 a1).path))), LIf (decide (0 < a1)) (LEq (.bool (decide (((gt a0 (if ((IntKind.wrap .i64 (a1 - 1)) < 0 : Prop) then 0 else (IntKind.wrap .i64 (a1 - 1)))).path) = ((gt a0 a1).path))))), LEq (.bool ((decide (0 < a1)) && (decide (((gt a0 (if ((IntKind.wrap .i64 (a1 - 1)) < 0 : Prop) then 0 else (IntKind.wrap .i64 (a1 - 1)))).path) = ((gt a0 a1).path))))), LEq (.iface 4 (.bool ((decide (0 < a1)) && (decide (((gt a0 (if ((IntKind.wrap .i64 (a1 - 1)) < 0 : Prop) then 0 else (IntKind.wrap .i64 (a1 - 1)))).path) = ((gt a0 a1).path)))))), LEq (.iface 3 (.int .i64 18)), LEq (.int .i64 a1), LEq (.bool (decide (0 < a1))), LEq (.bool (decide (0 < a1))), LIf (decide (0 < a1)) (LEq v_a0), LIf (decide (0 < a1)) (LEq (.int .i64 a1)), LIf (decide (0 < a1)) (LEq (.int .i64 (IntKind.wrap .i64 (a1 - 1)))), LIf (decide (0 < a1)) (LEq (.int .i64 (if ((IntKind.wrap .i64 (a1 - 1)) < 0 : Prop) then 0 else (IntKind.wrap .i64 (a1 - 1))))), LIf (decide (0 < a1)) (LAt0 (encRec (gt a0 (if ((IntKind.wrap .i64 (a1 - 1)) < 0 : Prop) then 0 else (IntKind.wrap .i64 (a1 - 1)))))), LIf (decide (0 < a1)) (LAt 1 (encRec (gt a0 (if ((IntKind.wrap .i64 (a1 - 1)) < 0 : Prop) then 0 else (IntKind.wrap .i64 (a1 - 1)))))), LIf (decide (0 < a1)) (LEq (S ((gt a0 (if ((IntKind.wrap .i64 (a1 - 1)) < 0 : Prop) then 0 else (IntKind.wrap .i64 (a1 - 1)))).path))), LIf (decide (0 < a1)) (LEq (.pointer (some ⟨b4, 1, none⟩))), LIf (decide (0 < a1)) (LEq (S ((gt a0 a1).path))), LIf (decide (0 < a1)) (LEq (.bool (pathLess ((gt a0 (if ((IntKind.wrap .i64 (a1 - 1)) < 0 : Prop) then 0 else (IntKind.wrap .i64 (a1 - 1)))).path) ((gt a0 a1).path)))), LIf (decide (0 < a1)) (LEq (.bool (!(pathLess ((gt a0 (if ((IntKind.wrap .i64 (a1 - 1)) < 0 : Prop) then 0 else (IntKind.wrap .i64 (a1 - 1)))).path) ((gt a0 a1).path))))), LEq (.bool ((decide (0 < a1)) && (!(pathLess ((gt a0 (if ((IntKind.wrap .i64 (a1 - 1)) < 0 : Prop) then 0 else (IntKind.wrap .i64 (a1 - 1)))).path) ((gt a0 a1).path))))), LEq (.iface 4 (.bool ((decide (0 < a1)) && (!(pathLess ((gt a0 (if ((IntKind.wrap .i64 (a1 - 1)) < 0 : Prop) then 0 else (IntKind.wrap .i64 (a1 - 1)))).path) ((gt a0 a1).path)))))), LEq (.iface 3 (.int .i64 11)), LEq (.int .i64 (findR (sub a0 0 a1) (parentP ((gt a0 a1).path)))), LEq (.bool (decide ((findR (sub a0 0 a1) (parentP ((gt a0 a1).path))) < 0))), LEq (.iface 4 (.bool (decide ((findR (sub a0 0 a1) (parentP ((gt a0 a1).path))) < 0)))), LEq (.iface 3 (.int .i64 12)), LEq (.pointer (some ⟨b4, 1, none⟩)), LEq (S ((gt a0 a1).path)), LEq (S (parentP ((gt a0 a1).path))), LEq (.bool (!decide ((parentP ((gt a0 a1).path)) = ([] : List UInt8)))), LEq (.bool (!decide ((parentP ((gt a0 a1).path)) = ([] : List UInt8)))), LIf (!decide ((parentP ((gt a0 a1).path)) = ([] : List UInt8))) (LEq v_a0), LIf (!decide ((parentP ((gt a0 a1).path)) = ([] : List UInt8))) (LEq (.int .i64 (findR (sub a0 0 a1) (parentP ((gt a0 a1).path))))), LIf (!decide ((parentP ((gt a0 a1).path)) = ([] : List UInt8))) (LEq (.int .i64 (if ((findR (sub a0 0 a1) (parentP ((gt a0 a1).path))) < 0 : Prop) then 0 else (findR (sub a0 0 a1) (parentP ((gt a0 a1).path)))))), LIf (!decide ((parentP ((gt a0 a1).path)) = ([] : List UInt8))) (LAt0 (encRec (gt a0 (if ((findR (sub a0 0 a1) (parentP ((gt a0 a1).path))) < 0 : Prop) then 0 else (findR (sub a0 0 a1) (parentP ((gt a0 a1).path))))))), LIf (!decide ((parentP ((gt a0 a1).path)) = ([] : List UInt8))) (LAt 0 (encRec (gt a0 (if ((findR (sub a0 0 a1) (parentP ((gt a0 a1).path))) < 0 : Prop) then 0 else (findR (sub a0 0 a1) (parentP ((gt a0 a1).path))))))), LIf (!decide ((parentP ((gt a0 a1).path)) = ([] : List UInt8))) (LEq (.int .i64 ((gt a0 (if ((findR (sub a0 0 a1) (parentP ((gt a0 a1).path))) < 0 : Prop) then 0 else (findR (sub a0 0 a1) (parentP ((gt a0 a1).path))))).kind))), LIf (!decide ((parentP ((gt a0 a1).path)) = ([] : List UInt8))) (LEq (.bool (!decide (((gt a0 (if ((findR (sub a0 0 a1) (parentP ((gt a0 a1).path))) < 0 : Prop) then 0 else (findR (sub a0 0 a1) (parentP ((gt a0 a1).path))))).kind) = 3)))), LEq (.bool ((!decide ((parentP ((gt a0 a1).path)) = ([] : List UInt8))) && (!decide (((gt a0 (if ((findR (sub a0 0 a1) (parentP ((gt a0 a1).path))) < 0 : Prop) then 0 else (findR (sub a0 0 a1) (parentP ((gt a0 a1).path))))).kind) = 3)))), LEq (.iface 4 (.bool ((!decide ((parentP ((gt a0 a1).path)) = ([] : List UInt8))) && (!decide (((gt a0 (if ((findR (sub a0 0 a1) (parentP ((gt a0 a1).path))) < 0 : Prop) then 0 else (findR (sub a0 0 a1) (parentP ((gt a0 a1).path))))).kind) = 3))))), LEq (.iface 3 (.int .i64 13)), LRd 1 (encAny 4 3) ([.inl (!(decide (recFault (gt a0 a1) = 0))), .inr (recFault (gt a0 a1)), .inl ((decide (0 < a1)) && (decide (((gt a0 (if ((IntKind.wrap .i64 (a1 - 1)) < 0 : Prop) then 0 else (IntKind.wrap .i64 (a1 - 1)))).path) = ((gt a0 a1).path)))), .inr 18, .inl ((decide (0 < a1)) && (!(pathLess ((gt a0 (if ((IntKind.wrap .i64 (a1 - 1)) < 0 : Prop) then 0 else (IntKind.wrap .i64 (a1 - 1)))).path) ((gt a0 a1).path)))), .inr 11, .inl (decide ((findR (sub a0 0 a1) (parentP ((gt a0 a1).path))) < 0)), .inr 12, .inl ((!decide ((parentP ((gt a0 a1).path)) = ([] : List UInt8))) && (!decide (((gt a0 (if ((findR (sub a0 0 a1) (parentP ((gt a0 a1).path))) < 0 : Prop) then 0 else (findR (sub a0 0 a1) (parentP ((gt a0 a1).path))))).kind) = 3))), .inr 13] : List (Bool ⊕ Int)), LEq (.int .i64 (firstOf ([.inl (!(decide (recFault (gt a0 a1) = 0))), .inr (recFault (gt a0 a1)), .inl ((decide (0 < a1)) && (decide (((gt a0 (if ((IntKind.wrap .i64 (a1 - 1)) < 0 : Prop) then 0 else (IntKind.wrap .i64 (a1 - 1)))).path) = ((gt a0 a1).path)))), .inr 18, .inl ((decide (0 < a1)) && (!(pathLess ((gt a0 (if ((IntKind.wrap .i64 (a1 - 1)) < 0 : Prop) then 0 else (IntKind.wrap .i64 (a1 - 1)))).path) ((gt a0 a1).path)))), .inr 11, .inl (decide ((findR (sub a0 0 a1) (parentP ((gt a0 a1).path))) < 0)), .inr 12, .inl ((!decide ((parentP ((gt a0 a1).path)) = ([] : List UInt8))) && (!decide (((gt a0 (if ((findR (sub a0 0 a1) (parentP ((gt a0 a1).path))) < 0 : Prop) then 0 else (findR (sub a0 0 a1) (parentP ((gt a0 a1).path))))).kind) = 3))), .inr 13] : List (Bool ⊕ Int)))), LEq (.iface 3 (.int .i64 (firstOf ([.inl (!(decide (recFault (gt a0 a1) = 0))), .inr (recFault (gt a0 a1)), .inl ((decide (0 < a1)) && (decide (((gt a0 (if ((IntKind.wrap .i64 (a1 - 1)) < 0 : Prop) then 0 else (IntKind.wrap .i64 (a1 - 1)))).path) = ((gt a0 a1).path)))), .inr 18, .inl ((decide (0 < a1)) && (!(pathLess ((gt a0 (if ((IntKind.wrap .i64 (a1 - 1)) < 0 : Prop) then 0 else (IntKind.wrap .i64 (a1 - 1)))).path) ((gt a0 a1).path)))), .inr 11, .inl (decide ((findR (sub a0 0 a1) (parentP ((gt a0 a1).path))) < 0)), .inr 12, .inl ((!decide ((parentP ((gt a0 a1).path)) = ([] : List UInt8))) && (!decide (((gt a0 (if ((findR (sub a0 0 a1) (parentP ((gt a0 a1).path))) < 0 : Prop) then 0 else (findR (sub a0 0 a1) (parentP ((gt a0 a1).path))))).kind) = 3))), .inr 13] : List (Bool ⊕ Int))))), LRd 1 (encAny 4 3) ([.inl (decide (16 ≤ a1)), .inr 6, .inl true, .inr (firstOf ([.inl (!(decide (recFault (gt a0 a1) = 0))), .inr (recFault (gt a0 a1)), .inl ((decide (0 < a1)) && (decide (((gt a0 (if ((IntKind.wrap .i64 (a1 - 1)) < 0 : Prop) then 0 else (IntKind.wrap .i64 (a1 - 1)))).path) = ((gt a0 a1).path)))), .inr 18, .inl ((decide (0 < a1)) && (!(pathLess ((gt a0 (if ((IntKind.wrap .i64 (a1 - 1)) < 0 : Prop) then 0 else (IntKind.wrap .i64 (a1 - 1)))).path) ((gt a0 a1).path)))), .inr 11, .inl (decide ((findR (sub a0 0 a1) (parentP ((gt a0 a1).path))) < 0)), .inr 12, .inl ((!decide ((parentP ((gt a0 a1).path)) = ([] : List UInt8))) && (!decide (((gt a0 (if ((findR (sub a0 0 a1) (parentP ((gt a0 a1).path))) < 0 : Prop) then 0 else (findR (sub a0 0 a1) (parentP ((gt a0 a1).path))))).kind) = 3))), .inr 13] : List (Bool ⊕ Int)))] : List (Bool ⊕ Int)), LEq (.int .i64 (firstOf ([.inl (decide (16 ≤ a1)), .inr 6, .inl true, .inr (firstOf ([.inl (!(decide (recFault (gt a0 a1) = 0))), .inr (recFault (gt a0 a1)), .inl ((decide (0 < a1)) && (decide (((gt a0 (if ((IntKind.wrap .i64 (a1 - 1)) < 0 : Prop) then 0 else (IntKind.wrap .i64 (a1 - 1)))).path) = ((gt a0 a1).path)))), .inr 18, .inl ((decide (0 < a1)) && (!(pathLess ((gt a0 (if ((IntKind.wrap .i64 (a1 - 1)) < 0 : Prop) then 0 else (IntKind.wrap .i64 (a1 - 1)))).path) ((gt a0 a1).path)))), .inr 11, .inl (decide ((findR (sub a0 0 a1) (parentP ((gt a0 a1).path))) < 0)), .inr 12, .inl ((!decide ((parentP ((gt a0 a1).path)) = ([] : List UInt8))) && (!decide (((gt a0 (if ((findR (sub a0 0 a1) (parentP ((gt a0 a1).path))) < 0 : Prop) then 0 else (findR (sub a0 0 a1) (parentP ((gt a0 a1).path))))).kind) = 3))), .inr 13] : List (Bool ⊕ Int)))] : List (Bool ⊕ Int)))), LEq (.int .i64 (firstOf ([.inl (decide (16 ≤ a1)), .inr 6, .inl true, .inr (firstOf ([.inl (!(decide (recFault (gt a0 a1) = 0))), .inr (recFault (gt a0 a1)), .inl ((decide (0 < a1)) && (decide (((gt a0 (if ((IntKind.wrap .i64 (a1 - 1)) < 0 : Prop) then 0 else (IntKind.wrap .i64 (a1 - 1)))).path) = ((gt a0 a1).path)))), .inr 18, .inl ((decide (0 < a1)) && (!(pathLess ((gt a0 (if ((IntKind.wrap .i64 (a1 - 1)) < 0 : Prop) then 0 else (IntKind.wrap .i64 (a1 - 1)))).path) ((gt a0 a1).path)))), .inr 11, .inl (decide ((findR (sub a0 0 a1) (parentP ((gt a0 a1).path))) < 0)), .inr 12, .inl ((!decide ((parentP ((gt a0 a1).path)) = ([] : List UInt8))) && (!decide (((gt a0 (if ((findR (sub a0 0 a1) (parentP ((gt a0 a1).path))) < 0 : Prop) then 0 else (findR (sub a0 0 a1) (parentP ((gt a0 a1).path))))).kind) = 3))), .inr 13] : List (Bool ⊕ Int)))] : List (Bool ⊕ Int))))] (by kernel_rfl) (by kernel_rfl) ⟨LEq.mono, LEq.mono, LEq.mono, LEq.mono, LEq.mono, LEq.mono, LEq.mono, LEq.mono, LEq.mono, LEq.mono, LEq.mono, LEq.mono, LEq.mono, LEq.mono, LEq.mono, (LIf.mono LEq.mono), (LIf.mono LEq.mono), (LIf.mono LEq.mono), (LIf.mono LEq.mono), (LIf.mono LAt0.mono), (LIf.mono LAt.mono), (LIf.mono LEq.mono), (LIf.mono LEq.mono), (LIf.mono LEq.mono), (LIf.mono LEq.mono), LEq.mono, LEq.mono, LEq.mono, LEq.mono, LEq.mono, LEq.mono, (LIf.mono LEq.mono), (LIf.mono LEq.mono), (LIf.mono LEq.mono), (LIf.mono LEq.mono), (LIf.mono LAt0.mono), (LIf.mono LAt.mono), (LIf.mono LEq.mono), (LIf.mono LEq.mono), (LIf.mono LEq.mono), (LIf.mono LEq.mono), (LIf.mono LEq.mono), LEq.mono, LEq.mono, LEq.mono, LEq.mono, LEq.mono, LEq.mono, LEq.mono, LEq.mono, LEq.mono, LEq.mono, LEq.mono, LEq.mono, (LIf.mono LEq.mono), (LIf.mono LEq.mono), (LIf.mono LEq.mono), (LIf.mono LAt0.mono), (LIf.mono LAt.mono), (LIf.mono LEq.mono), (LIf.mono LEq.mono), LEq.mono, LEq.mono, LEq.mono, LRd.mono, LEq.mono, LEq.mono, LRd.mono, LEq.mono, LEq.mono, trivial⟩ ⟨?_, ?_, ?_, ?_, ?_, ?_, ?_, ?_, ?_, ?_, ?_, ?_, ?_, ?_, ?_, ?_, ?_, ?_, ?_, ?_, ?_, ?_, ?_, ?_, ?_, ?_, ?_, ?_, ?_, ?_, ?_, ?_, ?_, ?_, ?_, ?_, ?_, ?_, ?_, ?_, ?_, ?_, ?_, ?_, ?_, ?_, ?_, ?_, ?_, ?_, ?_, ?_, ?_, ?_, ?_, ?_, ?_, ?_, ?_, ?_, ?_, ?_, ?_, ?_, ?_, ?_, ?_, ?_, ?_, ?_, trivial⟩ ?_
    · intro s59 w60 e61 hf62 hd63 hu64
      exact L_op (.plain rfl) rfl (ltb rfl) (X_move (v := (.int .i64 a1)) (hf62 1 rfl)) <| L_nil <| stepEnd rfl rfl (Ext.refl w60) rfl
    · intro s65 w66 e67 hf68 hd69 hu70
      have d71 : s65 22 = (.int .i64 a1) := (hd69 0 rfl)
      exact L_op (.plain rfl) rfl (ltb rfl) (X_geq d71 rfl) <| L_nil <| stepEnd rfl rfl (Ext.refl w66) rfl
    · intro s72 w73 e74 hf75 hd76 hu77
      have d78 : s72 23 = (.bool (decide (16 ≤ a1))) := (hd76 1 rfl)
      exact L_op (.plain rfl) rfl (ltb rfl) (X_mkiface Tryd.underlying4 rfl d78) <| L_nil <| stepEnd rfl rfl (Ext.refl w73) rfl
    · intro s79 w80 e81 hf82 hd83 hu84
      exact L_op (.plain rfl) rfl (ltb rfl) (X_mkiface Tryd.underlying3 rfl rfl) <| L_nil <| stepEnd rfl rfl (Ext.refl w80) rfl
    · intro s85 w86 e87 hf88 hd89 hu90
      exact L_op (.plain rfl) rfl (ltb rfl) (X_mkiface Tryd.underlying4 rfl rfl) <| L_nil <| stepEnd rfl rfl (Ext.refl w86) rfl
    · intro s91 w92 e93 hf94 hd95 hu96
      exact L_op (.plain rfl) rfl (ltb rfl) (X_loadS Tryd.isAgg23 Tryd.sizeOf23 rfl (hf94 5 rfl) (Blk.at0 (Blk.ext k12 (Ext.trans (Ext.trans e15 e22) e93)))) <| L_nil <| stepEnd rfl rfl (Ext.refl w92) rfl
    · intro s97 w98 e99 hf100 hd101 hu102
      have d103 : s97 27 = (.agg #[(.int .i64 ((gt a0 a1).kind)), (S ((gt a0 a1).path)), (S ((gt a0 a1).body)), (.int .i64 ((gt a0 a1).mode)), (.bool ((gt a0 a1).opq))]) := (hd101 5 rfl)
      exact L_callP (.plain rfl) rfl (ltb rfl) rfl Tryd.call85 (impl_RecordOK.calls (w := w98) (a0 := (gt a0 a1)) (GV.ext gv (Ext.trans (Ext.trans (Ext.trans (Below.trans e8 (Wr.below h11 (Nat.le_of_eq z6))) e15) e22) e99))) (cons2 d103 rfl) <| fun w104 e105 => L_nil <| stepEnd rfl rfl e105 rfl
    · intro s106 w107 e108 hf109 hd110 hu111
      have d112 : s106 28 = (.bool (decide (recFault (gt a0 a1) = 0))) := (hd110 6 rfl)
      exact L_op (.plain rfl) rfl (ltb rfl) (X_not d112) <| L_nil <| stepEnd rfl rfl (Ext.refl w107) rfl
    · intro s113 w114 e115 hf116 hd117 hu118
      have d119 : s113 29 = (.bool (!(decide (recFault (gt a0 a1) = 0)))) := (hd117 7 rfl)
      exact L_op (.plain rfl) rfl (ltb rfl) (X_mkiface Tryd.underlying4 rfl d119) <| L_nil <| stepEnd rfl rfl (Ext.refl w114) rfl
    · intro s120 w121 e122 hf123 hd124 hu125
      exact L_op (.plain rfl) rfl (ltb rfl) (X_loadS Tryd.isAgg23 Tryd.sizeOf23 rfl (hf123 5 rfl) (Blk.at0 (Blk.ext k12 (Ext.trans (Ext.trans e15 e22) e122)))) <| L_nil <| stepEnd rfl rfl (Ext.refl w121) rfl
    · intro s126 w127 e128 hf129 hd130 hu131
      have d132 : s126 31 = (.agg #[(.int .i64 ((gt a0 a1).kind)), (S ((gt a0 a1).path)), (S ((gt a0 a1).body)), (.int .i64 ((gt a0 a1).mode)), (.bool ((gt a0 a1).opq))]) := (hd130 9 rfl)
      exact L_callP (.plain rfl) rfl (ltb rfl) rfl Tryd.call74 (impl_RecordFault.calls (w := w127) (a0 := (gt a0 a1)) (GV.ext gv (Ext.trans (Ext.trans (Ext.trans (Below.trans e8 (Wr.below h11 (Nat.le_of_eq z6))) e15) e22) e128))) (cons2 d132 rfl) <| fun w133 e134 => L_nil <| stepEnd rfl rfl e134 rfl
    · intro s135 w136 e137 hf138 hd139 hu140
      have d141 : s135 32 = (.int .i64 (recFault (gt a0 a1))) := (hd139 10 rfl)
      exact L_op (.plain rfl) rfl (ltb rfl) (X_mkiface Tryd.underlying3 rfl d141) <| L_nil <| stepEnd rfl rfl (Ext.refl w136) rfl
    · intro s142 w143 e144 hf145 hd146 hu147
      exact L_op (.plain rfl) rfl (ltb rfl) (X_move (v := (.int .i64 a1)) (hf145 1 rfl)) <| L_nil <| stepEnd rfl rfl (Ext.refl w143) rfl
    · intro s148 w149 e150 hf151 hd152 hu153
      have d154 : s148 34 = (.int .i64 a1) := (hd152 12 rfl)
      exact L_op (.plain rfl) rfl (ltb rfl) (X_gtr d154 rfl) <| L_nil <| stepEnd rfl rfl (Ext.refl w149) rfl
    · intro s155 w156 e157 hf158 hd159 hu160
      have d161 : s155 35 = (.bool (decide (0 < a1))) := (hd159 13 rfl)
      exact L_op (.plain rfl) rfl (ltb rfl) (X_move (v := (.bool (decide (0 < a1)))) d161) <| L_nil <| stepEnd rfl rfl (Ext.refl w156) rfl
    · intro s162 w163 e164 hf165 hd166 hu167
      rcases bool_two (decide (0 < a1)) with b168 | b168
      · have g169 : (decide (0 < a1)) = true := b168
        have d170 : s162 36 = (.bool (decide (0 < a1))) := (hd166 14 rfl)
        have d171 : s162 36 = (.bool (decide (0 < a1))) := (hd166 14 rfl)
        exact L_op (.guard 14 true 36 rfl rfl (ltb rfl) (d170.trans (congrArg Value.bool g169))) rfl (ltb rfl) (X_move (v := v_a0) (hf165 0 rfl)) <| L_nil <| stepEnd rfl rfl (Ext.refl w163) ⟨fun _ => rfl, fun h => absurd (b168.symm.trans h) (by decide)⟩
      · have d172 : s162 36 = (.bool (decide (0 < a1))) := (hd166 14 rfl)
        have g173 : (decide (0 < a1)) = false := b168
        exact L_skip rfl rfl (ltb rfl) (d172.trans (congrArg Value.bool g173)) rfl rfl (ltb rfl) <| L_nil <| stepEnd rfl rfl (Ext.refl w163) ⟨fun h => absurd (b168.symm.trans h) (by decide), fun _ => rfl⟩
    · intro s174 w175 e176 hf177 hd178 hu179
      rcases bool_two (decide (0 < a1)) with b180 | b180
      · have g181 : (decide (0 < a1)) = true := b180
        have d182 : s174 36 = (.bool (decide (0 < a1))) := (hd178 14 rfl)
        have d183 : s174 36 = (.bool (decide (0 < a1))) := (hd178 14 rfl)
        exact L_op (.guard 14 true 36 rfl rfl (ltb rfl) (d182.trans (congrArg Value.bool g181))) rfl (ltb rfl) (X_move (v := (.int .i64 a1)) (hf177 1 rfl)) <| L_nil <| stepEnd rfl rfl (Ext.refl w175) ⟨fun _ => rfl, fun h => absurd (b180.symm.trans h) (by decide)⟩
      · have d184 : s174 36 = (.bool (decide (0 < a1))) := (hd178 14 rfl)
        have g185 : (decide (0 < a1)) = false := b180
        exact L_skip rfl rfl (ltb rfl) (d184.trans (congrArg Value.bool g185)) rfl rfl (ltb rfl) <| L_nil <| stepEnd rfl rfl (Ext.refl w175) ⟨fun h => absurd (b180.symm.trans h) (by decide), fun _ => rfl⟩
    · intro s186 w187 e188 hf189 hd190 hu191
      rcases bool_two (decide (0 < a1)) with b192 | b192
      · have g193 : (decide (0 < a1)) = true := b192
        have d194 : s186 36 = (.bool (decide (0 < a1))) := (hd190 14 rfl)
        have d195 : s186 36 = (.bool (decide (0 < a1))) := (hd190 14 rfl)
        have d196 : s186 38 = (.int .i64 a1) := ((hd190 16 rfl).1 b192)
        exact L_op (.guard 14 true 36 rfl rfl (ltb rfl) (d194.trans (congrArg Value.bool g193))) rfl (ltb rfl) (X_sub d196 rfl) <| L_nil <| stepEnd rfl rfl (Ext.refl w187) ⟨fun _ => rfl, fun h => absurd (b192.symm.trans h) (by decide)⟩
      · have d197 : s186 36 = (.bool (decide (0 < a1))) := (hd190 14 rfl)
        have g198 : (decide (0 < a1)) = false := b192
        exact L_skip rfl rfl (ltb rfl) (d197.trans (congrArg Value.bool g198)) rfl rfl (ltb rfl) <| L_nil <| stepEnd rfl rfl (Ext.refl w187) ⟨fun h => absurd (b192.symm.trans h) (by decide), fun _ => rfl⟩
    · intro s199 w200 e201 hf202 hd203 hu204
      rcases bool_two (decide (0 < a1)) with b205 | b205
      · have g206 : (decide (0 < a1)) = true := b205
        have d207 : s199 36 = (.bool (decide (0 < a1))) := (hd203 14 rfl)
        have d208 : s199 36 = (.bool (decide (0 < a1))) := (hd203 14 rfl)
        have d209 : s199 39 = (.int .i64 (IntKind.wrap .i64 (a1 - 1))) := ((hd203 17 rfl).1 b205)
        exact L_op (.guard 14 true 36 rfl rfl (ltb rfl) (d207.trans (congrArg Value.bool g206))) rfl (ltb rfl) (X_max d209 rfl) <| L_nil <| stepEnd rfl rfl (Ext.refl w200) ⟨fun _ => rfl, fun h => absurd (b205.symm.trans h) (by decide)⟩
      · have d210 : s199 36 = (.bool (decide (0 < a1))) := (hd203 14 rfl)
        have g211 : (decide (0 < a1)) = false := b205
        exact L_skip rfl rfl (ltb rfl) (d210.trans (congrArg Value.bool g211)) rfl rfl (ltb rfl) <| L_nil <| stepEnd rfl rfl (Ext.refl w200) ⟨fun h => absurd (b205.symm.trans h) (by decide), fun _ => rfl⟩
    · intro s212 w213 e214 hf215 hd216 hu217
      rcases bool_two (decide (0 < a1)) with b218 | b218
      · have g219 : (decide (0 < a1)) = true := b218
        have d220 : s212 36 = (.bool (decide (0 < a1))) := (hd216 14 rfl)
        have d221 : s212 36 = (.bool (decide (0 < a1))) := (hd216 14 rfl)
        have d222 : s212 37 = v_a0 := ((hd216 15 rfl).1 b218)
        have d223 : s212 40 = (.int .i64 (if ((IntKind.wrap .i64 (a1 - 1)) < 0 : Prop) then 0 else (IntKind.wrap .i64 (a1 - 1)))) := ((hd216 18 rfl).1 b218)
        have c224 := imp_take b218 c30
        exact L_idx (.guard 14 true 36 rfl rfl (ltb rfl) (d220.trans (congrArg Value.bool g219))) rfl (ltb rfl) rfl Tryd.underlying48 Tryd.sizeOf23 d222 (Rd.ext f_a0 (Ext.trans (Ext.trans (Ext.trans (Below.trans e8 (Wr.below h11 (Nat.le_of_eq z6))) e15) e22) e214)) d223 c224 <| fun p225 h226 => L_nil <| stepEnd rfl rfl (Ext.refl w213) ⟨fun _ => ⟨_, rfl, h226⟩, fun h => absurd (b218.symm.trans h) (by decide)⟩
      · have d227 : s212 36 = (.bool (decide (0 < a1))) := (hd216 14 rfl)
        have g228 : (decide (0 < a1)) = false := b218
        exact L_skip rfl rfl (ltb rfl) (d227.trans (congrArg Value.bool g228)) rfl rfl (ltb rfl) <| L_nil <| stepEnd rfl rfl (Ext.refl w213) ⟨fun h => absurd (b218.symm.trans h) (by decide), fun _ => rfl⟩
    · intro s229 w230 e231 hf232 hd233 hu234
      rcases bool_two (decide (0 < a1)) with b235 | b235
      · have g236 : (decide (0 < a1)) = true := b235
        have d237 : s229 36 = (.bool (decide (0 < a1))) := (hd233 14 rfl)
        have d238 : s229 36 = (.bool (decide (0 < a1))) := (hd233 14 rfl)
        obtain ⟨p239, h240, h241⟩ := ((hd233 19 rfl).1 b235)
        exact L_op (.guard 14 true 36 rfl rfl (ltb rfl) (d237.trans (congrArg Value.bool g236))) rfl (ltb rfl) (X_fieldAddr Tryd.underlying23 rfl Tryd.sizeOf9 rfl h240) <| L_nil <| stepEnd rfl rfl (Ext.refl w230) ⟨fun _ => ⟨_, rfl, h241⟩, fun h => absurd (b235.symm.trans h) (by decide)⟩
      · have d242 : s229 36 = (.bool (decide (0 < a1))) := (hd233 14 rfl)
        have g243 : (decide (0 < a1)) = false := b235
        exact L_skip rfl rfl (ltb rfl) (d242.trans (congrArg Value.bool g243)) rfl rfl (ltb rfl) <| L_nil <| stepEnd rfl rfl (Ext.refl w230) ⟨fun h => absurd (b235.symm.trans h) (by decide), fun _ => rfl⟩
    · intro s244 w245 e246 hf247 hd248 hu249
      rcases bool_two (decide (0 < a1)) with b250 | b250
      · have g251 : (decide (0 < a1)) = true := b250
        have d252 : s244 36 = (.bool (decide (0 < a1))) := (hd248 14 rfl)
        have d253 : s244 36 = (.bool (decide (0 < a1))) := (hd248 14 rfl)
        obtain ⟨p254, h255, h256⟩ := ((hd248 20 rfl).1 b250)
        exact L_op (.guard 14 true 36 rfl rfl (ltb rfl) (d252.trans (congrArg Value.bool g251))) rfl (ltb rfl) (X_loadF Tryd.isAgg9 (j := 1) h256 h255 rfl) <| L_nil <| stepEnd rfl rfl (Ext.refl w245) ⟨fun _ => rfl, fun h => absurd (b250.symm.trans h) (by decide)⟩
      · have d257 : s244 36 = (.bool (decide (0 < a1))) := (hd248 14 rfl)
        have g258 : (decide (0 < a1)) = false := b250
        exact L_skip rfl rfl (ltb rfl) (d257.trans (congrArg Value.bool g258)) rfl rfl (ltb rfl) <| L_nil <| stepEnd rfl rfl (Ext.refl w245) ⟨fun h => absurd (b250.symm.trans h) (by decide), fun _ => rfl⟩
    · intro s259 w260 e261 hf262 hd263 hu264
      rcases bool_two (decide (0 < a1)) with b265 | b265
      · have g266 : (decide (0 < a1)) = true := b265
        have d267 : s259 36 = (.bool (decide (0 < a1))) := (hd263 14 rfl)
        have d268 : s259 36 = (.bool (decide (0 < a1))) := (hd263 14 rfl)
        exact L_op (.guard 14 true 36 rfl rfl (ltb rfl) (d267.trans (congrArg Value.bool g266))) rfl (ltb rfl) (X_fieldAddr Tryd.underlying23 rfl Tryd.sizeOf9 rfl (hf262 5 rfl)) <| L_nil <| stepEnd rfl rfl (Ext.refl w260) ⟨fun _ => rfl, fun h => absurd (b265.symm.trans h) (by decide)⟩
      · have d269 : s259 36 = (.bool (decide (0 < a1))) := (hd263 14 rfl)
        have g270 : (decide (0 < a1)) = false := b265
        exact L_skip rfl rfl (ltb rfl) (d269.trans (congrArg Value.bool g270)) rfl rfl (ltb rfl) <| L_nil <| stepEnd rfl rfl (Ext.refl w260) ⟨fun h => absurd (b265.symm.trans h) (by decide), fun _ => rfl⟩
    · intro s271 w272 e273 hf274 hd275 hu276
      rcases bool_two (decide (0 < a1)) with b277 | b277
      · have g278 : (decide (0 < a1)) = true := b277
        have d279 : s271 36 = (.bool (decide (0 < a1))) := (hd275 14 rfl)
        have d280 : s271 36 = (.bool (decide (0 < a1))) := (hd275 14 rfl)
        have d281 : s271 44 = (.pointer (some ⟨b4, 1, none⟩)) := ((hd275 22 rfl).1 b277)
        exact L_op (.guard 14 true 36 rfl rfl (ltb rfl) (d279.trans (congrArg Value.bool g278))) rfl (ltb rfl) (X_loadB Tryd.isAgg9 (Blk.ext k12 (Ext.trans (Ext.trans e15 e22) e273)) d281 rfl) <| L_nil <| stepEnd rfl rfl (Ext.refl w272) ⟨fun _ => rfl, fun h => absurd (b277.symm.trans h) (by decide)⟩
      · have d282 : s271 36 = (.bool (decide (0 < a1))) := (hd275 14 rfl)
        have g283 : (decide (0 < a1)) = false := b277
        exact L_skip rfl rfl (ltb rfl) (d282.trans (congrArg Value.bool g283)) rfl rfl (ltb rfl) <| L_nil <| stepEnd rfl rfl (Ext.refl w272) ⟨fun h => absurd (b277.symm.trans h) (by decide), fun _ => rfl⟩
    · intro s284 w285 e286 hf287 hd288 hu289
      rcases bool_two (decide (0 < a1)) with b290 | b290
      · have g291 : (decide (0 < a1)) = true := b290
        have d292 : s284 36 = (.bool (decide (0 < a1))) := (hd288 14 rfl)
        have d293 : s284 36 = (.bool (decide (0 < a1))) := (hd288 14 rfl)
        have d294 : s284 43 = (S ((gt a0 (if ((IntKind.wrap .i64 (a1 - 1)) < 0 : Prop) then 0 else (IntKind.wrap .i64 (a1 - 1)))).path)) := ((hd288 21 rfl).1 b290)
        have d295 : s284 45 = (S ((gt a0 a1).path)) := ((hd288 23 rfl).1 b290)
        exact L_op (.guard 14 true 36 rfl rfl (ltb rfl) (d292.trans (congrArg Value.bool g291))) rfl (ltb rfl) (X_seq d294 d295) <| L_nil <| stepEnd rfl rfl (Ext.refl w285) ⟨fun _ => rfl, fun h => absurd (b290.symm.trans h) (by decide)⟩
      · have d296 : s284 36 = (.bool (decide (0 < a1))) := (hd288 14 rfl)
        have g297 : (decide (0 < a1)) = false := b290
        exact L_skip rfl rfl (ltb rfl) (d296.trans (congrArg Value.bool g297)) rfl rfl (ltb rfl) <| L_nil <| stepEnd rfl rfl (Ext.refl w285) ⟨fun h => absurd (b290.symm.trans h) (by decide), fun _ => rfl⟩
    · intro s298 w299 e300 hf301 hd302 hu303
      rcases bool_two (decide (0 < a1)) with b304 | b304
      · have d305 : s298 36 = (.bool (decide (0 < a1))) := (hd302 14 rfl)
        have d306 : s298 46 = (.bool (decide (((gt a0 (if ((IntKind.wrap .i64 (a1 - 1)) < 0 : Prop) then 0 else (IntKind.wrap .i64 (a1 - 1)))).path) = ((gt a0 a1).path)))) := ((hd302 24 rfl).1 b304)
        exact L_op (.plain rfl) rfl (ltb rfl) (X_pick (b := true) (v := (.bool (decide (((gt a0 (if ((IntKind.wrap .i64 (a1 - 1)) < 0 : Prop) then 0 else (IntKind.wrap .i64 (a1 - 1)))).path) = ((gt a0 a1).path))))) (d305.trans (congrArg Value.bool b304)) d306) <| L_nil <| stepEnd rfl rfl (Ext.refl w299) (by show _ = _; rw [b304]; rfl)
      · have d307 : s298 36 = (.bool (decide (0 < a1))) := (hd302 14 rfl)
        exact L_op (.plain rfl) rfl (ltb rfl) (X_pick (b := false) (v := (.bool false)) (d307.trans (congrArg Value.bool b304)) rfl) <| L_nil <| stepEnd rfl rfl (Ext.refl w299) (by show _ = _; rw [b304]; rfl)
    · intro s308 w309 e310 hf311 hd312 hu313
      have d314 : s308 47 = (.bool ((decide (0 < a1)) && (decide (((gt a0 (if ((IntKind.wrap .i64 (a1 - 1)) < 0 : Prop) then 0 else (IntKind.wrap .i64 (a1 - 1)))).path) = ((gt a0 a1).path))))) := (hd312 25 rfl)
      exact L_op (.plain rfl) rfl (ltb rfl) (X_mkiface Tryd.underlying4 rfl d314) <| L_nil <| stepEnd rfl rfl (Ext.refl w309) rfl
    · intro s315 w316 e317 hf318 hd319 hu320
      exact L_op (.plain rfl) rfl (ltb rfl) (X_mkiface Tryd.underlying3 rfl rfl) <| L_nil <| stepEnd rfl rfl (Ext.refl w316) rfl
    · intro s321 w322 e323 hf324 hd325 hu326
      exact L_op (.plain rfl) rfl (ltb rfl) (X_move (v := (.int .i64 a1)) (hf324 1 rfl)) <| L_nil <| stepEnd rfl rfl (Ext.refl w322) rfl
    · intro s327 w328 e329 hf330 hd331 hu332
      have d333 : s327 50 = (.int .i64 a1) := (hd331 28 rfl)
      exact L_op (.plain rfl) rfl (ltb rfl) (X_gtr d333 rfl) <| L_nil <| stepEnd rfl rfl (Ext.refl w328) rfl
    · intro s334 w335 e336 hf337 hd338 hu339
      have d340 : s334 51 = (.bool (decide (0 < a1))) := (hd338 29 rfl)
      exact L_op (.plain rfl) rfl (ltb rfl) (X_move (v := (.bool (decide (0 < a1)))) d340) <| L_nil <| stepEnd rfl rfl (Ext.refl w335) rfl
    · intro s341 w342 e343 hf344 hd345 hu346
      rcases bool_two (decide (0 < a1)) with b347 | b347
      · have g348 : (decide (0 < a1)) = true := b347
        have d349 : s341 52 = (.bool (decide (0 < a1))) := (hd345 30 rfl)
        have d350 : s341 52 = (.bool (decide (0 < a1))) := (hd345 30 rfl)
        exact L_op (.guard 30 true 52 rfl rfl (ltb rfl) (d349.trans (congrArg Value.bool g348))) rfl (ltb rfl) (X_move (v := v_a0) (hf344 0 rfl)) <| L_nil <| stepEnd rfl rfl (Ext.refl w342) ⟨fun _ => rfl, fun h => absurd (b347.symm.trans h) (by decide)⟩
      · have d351 : s341 52 = (.bool (decide (0 < a1))) := (hd345 30 rfl)
        have g352 : (decide (0 < a1)) = false := b347
        exact L_skip rfl rfl (ltb rfl) (d351.trans (congrArg Value.bool g352)) rfl rfl (ltb rfl) <| L_nil <| stepEnd rfl rfl (Ext.refl w342) ⟨fun h => absurd (b347.symm.trans h) (by decide), fun _ => rfl⟩
    · intro s353 w354 e355 hf356 hd357 hu358
      rcases bool_two (decide (0 < a1)) with b359 | b359
      · have g360 : (decide (0 < a1)) = true := b359
        have d361 : s353 52 = (.bool (decide (0 < a1))) := (hd357 30 rfl)
        have d362 : s353 52 = (.bool (decide (0 < a1))) := (hd357 30 rfl)
        exact L_op (.guard 30 true 52 rfl rfl (ltb rfl) (d361.trans (congrArg Value.bool g360))) rfl (ltb rfl) (X_move (v := (.int .i64 a1)) (hf356 1 rfl)) <| L_nil <| stepEnd rfl rfl (Ext.refl w354) ⟨fun _ => rfl, fun h => absurd (b359.symm.trans h) (by decide)⟩
      · have d363 : s353 52 = (.bool (decide (0 < a1))) := (hd357 30 rfl)
        have g364 : (decide (0 < a1)) = false := b359
        exact L_skip rfl rfl (ltb rfl) (d363.trans (congrArg Value.bool g364)) rfl rfl (ltb rfl) <| L_nil <| stepEnd rfl rfl (Ext.refl w354) ⟨fun h => absurd (b359.symm.trans h) (by decide), fun _ => rfl⟩
    · intro s365 w366 e367 hf368 hd369 hu370
      rcases bool_two (decide (0 < a1)) with b371 | b371
      · have g372 : (decide (0 < a1)) = true := b371
        have d373 : s365 52 = (.bool (decide (0 < a1))) := (hd369 30 rfl)
        have d374 : s365 52 = (.bool (decide (0 < a1))) := (hd369 30 rfl)
        have d375 : s365 54 = (.int .i64 a1) := ((hd369 32 rfl).1 b371)
        exact L_op (.guard 30 true 52 rfl rfl (ltb rfl) (d373.trans (congrArg Value.bool g372))) rfl (ltb rfl) (X_sub d375 rfl) <| L_nil <| stepEnd rfl rfl (Ext.refl w366) ⟨fun _ => rfl, fun h => absurd (b371.symm.trans h) (by decide)⟩
      · have d376 : s365 52 = (.bool (decide (0 < a1))) := (hd369 30 rfl)
        have g377 : (decide (0 < a1)) = false := b371
        exact L_skip rfl rfl (ltb rfl) (d376.trans (congrArg Value.bool g377)) rfl rfl (ltb rfl) <| L_nil <| stepEnd rfl rfl (Ext.refl w366) ⟨fun h => absurd (b371.symm.trans h) (by decide), fun _ => rfl⟩
    · intro s378 w379 e380 hf381 hd382 hu383
      rcases bool_two (decide (0 < a1)) with b384 | b384
      · have g385 : (decide (0 < a1)) = true := b384
        have d386 : s378 52 = (.bool (decide (0 < a1))) := (hd382 30 rfl)
        have d387 : s378 52 = (.bool (decide (0 < a1))) := (hd382 30 rfl)
        have d388 : s378 55 = (.int .i64 (IntKind.wrap .i64 (a1 - 1))) := ((hd382 33 rfl).1 b384)
        exact L_op (.guard 30 true 52 rfl rfl (ltb rfl) (d386.trans (congrArg Value.bool g385))) rfl (ltb rfl) (X_max d388 rfl) <| L_nil <| stepEnd rfl rfl (Ext.refl w379) ⟨fun _ => rfl, fun h => absurd (b384.symm.trans h) (by decide)⟩
      · have d389 : s378 52 = (.bool (decide (0 < a1))) := (hd382 30 rfl)
        have g390 : (decide (0 < a1)) = false := b384
        exact L_skip rfl rfl (ltb rfl) (d389.trans (congrArg Value.bool g390)) rfl rfl (ltb rfl) <| L_nil <| stepEnd rfl rfl (Ext.refl w379) ⟨fun h => absurd (b384.symm.trans h) (by decide), fun _ => rfl⟩
    · intro s391 w392 e393 hf394 hd395 hu396
      rcases bool_two (decide (0 < a1)) with b397 | b397
      · have g398 : (decide (0 < a1)) = true := b397
        have d399 : s391 52 = (.bool (decide (0 < a1))) := (hd395 30 rfl)
        have d400 : s391 52 = (.bool (decide (0 < a1))) := (hd395 30 rfl)
        have d401 : s391 53 = v_a0 := ((hd395 31 rfl).1 b397)
        have d402 : s391 56 = (.int .i64 (if ((IntKind.wrap .i64 (a1 - 1)) < 0 : Prop) then 0 else (IntKind.wrap .i64 (a1 - 1)))) := ((hd395 34 rfl).1 b397)
        have c403 := imp_take b397 c30
        exact L_idx (.guard 30 true 52 rfl rfl (ltb rfl) (d399.trans (congrArg Value.bool g398))) rfl (ltb rfl) rfl Tryd.underlying48 Tryd.sizeOf23 d401 (Rd.ext f_a0 (Ext.trans (Ext.trans (Ext.trans (Below.trans e8 (Wr.below h11 (Nat.le_of_eq z6))) e15) e22) e393)) d402 c403 <| fun p404 h405 => L_nil <| stepEnd rfl rfl (Ext.refl w392) ⟨fun _ => ⟨_, rfl, h405⟩, fun h => absurd (b397.symm.trans h) (by decide)⟩
      · have d406 : s391 52 = (.bool (decide (0 < a1))) := (hd395 30 rfl)
        have g407 : (decide (0 < a1)) = false := b397
        exact L_skip rfl rfl (ltb rfl) (d406.trans (congrArg Value.bool g407)) rfl rfl (ltb rfl) <| L_nil <| stepEnd rfl rfl (Ext.refl w392) ⟨fun h => absurd (b397.symm.trans h) (by decide), fun _ => rfl⟩
    · intro s408 w409 e410 hf411 hd412 hu413
      rcases bool_two (decide (0 < a1)) with b414 | b414
      · have g415 : (decide (0 < a1)) = true := b414
        have d416 : s408 52 = (.bool (decide (0 < a1))) := (hd412 30 rfl)
        have d417 : s408 52 = (.bool (decide (0 < a1))) := (hd412 30 rfl)
        obtain ⟨p418, h419, h420⟩ := ((hd412 35 rfl).1 b414)
        exact L_op (.guard 30 true 52 rfl rfl (ltb rfl) (d416.trans (congrArg Value.bool g415))) rfl (ltb rfl) (X_fieldAddr Tryd.underlying23 rfl Tryd.sizeOf9 rfl h419) <| L_nil <| stepEnd rfl rfl (Ext.refl w409) ⟨fun _ => ⟨_, rfl, h420⟩, fun h => absurd (b414.symm.trans h) (by decide)⟩
      · have d421 : s408 52 = (.bool (decide (0 < a1))) := (hd412 30 rfl)
        have g422 : (decide (0 < a1)) = false := b414
        exact L_skip rfl rfl (ltb rfl) (d421.trans (congrArg Value.bool g422)) rfl rfl (ltb rfl) <| L_nil <| stepEnd rfl rfl (Ext.refl w409) ⟨fun h => absurd (b414.symm.trans h) (by decide), fun _ => rfl⟩
    · intro s423 w424 e425 hf426 hd427 hu428
      rcases bool_two (decide (0 < a1)) with b429 | b429
      · have g430 : (decide (0 < a1)) = true := b429
        have d431 : s423 52 = (.bool (decide (0 < a1))) := (hd427 30 rfl)
        have d432 : s423 52 = (.bool (decide (0 < a1))) := (hd427 30 rfl)
        obtain ⟨p433, h434, h435⟩ := ((hd427 36 rfl).1 b429)
        exact L_op (.guard 30 true 52 rfl rfl (ltb rfl) (d431.trans (congrArg Value.bool g430))) rfl (ltb rfl) (X_loadF Tryd.isAgg9 (j := 1) h435 h434 rfl) <| L_nil <| stepEnd rfl rfl (Ext.refl w424) ⟨fun _ => rfl, fun h => absurd (b429.symm.trans h) (by decide)⟩
      · have d436 : s423 52 = (.bool (decide (0 < a1))) := (hd427 30 rfl)
        have g437 : (decide (0 < a1)) = false := b429
        exact L_skip rfl rfl (ltb rfl) (d436.trans (congrArg Value.bool g437)) rfl rfl (ltb rfl) <| L_nil <| stepEnd rfl rfl (Ext.refl w424) ⟨fun h => absurd (b429.symm.trans h) (by decide), fun _ => rfl⟩
    · intro s438 w439 e440 hf441 hd442 hu443
      rcases bool_two (decide (0 < a1)) with b444 | b444
      · have g445 : (decide (0 < a1)) = true := b444
        have d446 : s438 52 = (.bool (decide (0 < a1))) := (hd442 30 rfl)
        have d447 : s438 52 = (.bool (decide (0 < a1))) := (hd442 30 rfl)
        exact L_op (.guard 30 true 52 rfl rfl (ltb rfl) (d446.trans (congrArg Value.bool g445))) rfl (ltb rfl) (X_fieldAddr Tryd.underlying23 rfl Tryd.sizeOf9 rfl (hf441 5 rfl)) <| L_nil <| stepEnd rfl rfl (Ext.refl w439) ⟨fun _ => rfl, fun h => absurd (b444.symm.trans h) (by decide)⟩
      · have d448 : s438 52 = (.bool (decide (0 < a1))) := (hd442 30 rfl)
        have g449 : (decide (0 < a1)) = false := b444
        exact L_skip rfl rfl (ltb rfl) (d448.trans (congrArg Value.bool g449)) rfl rfl (ltb rfl) <| L_nil <| stepEnd rfl rfl (Ext.refl w439) ⟨fun h => absurd (b444.symm.trans h) (by decide), fun _ => rfl⟩
    · intro s450 w451 e452 hf453 hd454 hu455
      rcases bool_two (decide (0 < a1)) with b456 | b456
      · have g457 : (decide (0 < a1)) = true := b456
        have d458 : s450 52 = (.bool (decide (0 < a1))) := (hd454 30 rfl)
        have d459 : s450 52 = (.bool (decide (0 < a1))) := (hd454 30 rfl)
        have d460 : s450 60 = (.pointer (some ⟨b4, 1, none⟩)) := ((hd454 38 rfl).1 b456)
        exact L_op (.guard 30 true 52 rfl rfl (ltb rfl) (d458.trans (congrArg Value.bool g457))) rfl (ltb rfl) (X_loadB Tryd.isAgg9 (Blk.ext k12 (Ext.trans (Ext.trans e15 e22) e452)) d460 rfl) <| L_nil <| stepEnd rfl rfl (Ext.refl w451) ⟨fun _ => rfl, fun h => absurd (b456.symm.trans h) (by decide)⟩
      · have d461 : s450 52 = (.bool (decide (0 < a1))) := (hd454 30 rfl)
        have g462 : (decide (0 < a1)) = false := b456
        exact L_skip rfl rfl (ltb rfl) (d461.trans (congrArg Value.bool g462)) rfl rfl (ltb rfl) <| L_nil <| stepEnd rfl rfl (Ext.refl w451) ⟨fun h => absurd (b456.symm.trans h) (by decide), fun _ => rfl⟩
    · intro s463 w464 e465 hf466 hd467 hu468
      rcases bool_two (decide (0 < a1)) with b469 | b469
      · have g470 : (decide (0 < a1)) = true := b469
        have d471 : s463 52 = (.bool (decide (0 < a1))) := (hd467 30 rfl)
        have d472 : s463 52 = (.bool (decide (0 < a1))) := (hd467 30 rfl)
        have d473 : s463 59 = (S ((gt a0 (if ((IntKind.wrap .i64 (a1 - 1)) < 0 : Prop) then 0 else (IntKind.wrap .i64 (a1 - 1)))).path)) := ((hd467 37 rfl).1 b469)
        have d474 : s463 61 = (S ((gt a0 a1).path)) := ((hd467 39 rfl).1 b469)
        exact L_callP (.guard 30 true 52 rfl rfl (ltb rfl) (d471.trans (congrArg Value.bool g470))) rfl (ltb rfl) rfl Tryd.call58 (impl_PathLess.calls (w := w464) (a0 := (gt a0 (if ((IntKind.wrap .i64 (a1 - 1)) < 0 : Prop) then 0 else (IntKind.wrap .i64 (a1 - 1)))).path) (a1 := (gt a0 a1).path) (GV.ext gv (Ext.trans (Ext.trans (Ext.trans (Below.trans e8 (Wr.below h11 (Nat.le_of_eq z6))) e15) e22) e465))) (cons2 d473 (cons2 d474 rfl)) <| fun w475 e476 => L_nil <| stepEnd rfl rfl e476 ⟨fun _ => rfl, fun h => absurd (b469.symm.trans h) (by decide)⟩
      · have d477 : s463 52 = (.bool (decide (0 < a1))) := (hd467 30 rfl)
        have g478 : (decide (0 < a1)) = false := b469
        exact L_skip rfl rfl (ltb rfl) (d477.trans (congrArg Value.bool g478)) rfl rfl (ltb rfl) <| L_nil <| stepEnd rfl rfl (Ext.refl w464) ⟨fun h => absurd (b469.symm.trans h) (by decide), fun _ => rfl⟩
    · intro s479 w480 e481 hf482 hd483 hu484
      rcases bool_two (decide (0 < a1)) with b485 | b485
      · have g486 : (decide (0 < a1)) = true := b485
        have d487 : s479 52 = (.bool (decide (0 < a1))) := (hd483 30 rfl)
        have d488 : s479 52 = (.bool (decide (0 < a1))) := (hd483 30 rfl)
        have d489 : s479 62 = (.bool (pathLess ((gt a0 (if ((IntKind.wrap .i64 (a1 - 1)) < 0 : Prop) then 0 else (IntKind.wrap .i64 (a1 - 1)))).path) ((gt a0 a1).path))) := ((hd483 40 rfl).1 b485)
        exact L_op (.guard 30 true 52 rfl rfl (ltb rfl) (d487.trans (congrArg Value.bool g486))) rfl (ltb rfl) (X_not d489) <| L_nil <| stepEnd rfl rfl (Ext.refl w480) ⟨fun _ => rfl, fun h => absurd (b485.symm.trans h) (by decide)⟩
      · have d490 : s479 52 = (.bool (decide (0 < a1))) := (hd483 30 rfl)
        have g491 : (decide (0 < a1)) = false := b485
        exact L_skip rfl rfl (ltb rfl) (d490.trans (congrArg Value.bool g491)) rfl rfl (ltb rfl) <| L_nil <| stepEnd rfl rfl (Ext.refl w480) ⟨fun h => absurd (b485.symm.trans h) (by decide), fun _ => rfl⟩
    · intro s492 w493 e494 hf495 hd496 hu497
      rcases bool_two (decide (0 < a1)) with b498 | b498
      · have d499 : s492 52 = (.bool (decide (0 < a1))) := (hd496 30 rfl)
        have d500 : s492 63 = (.bool (!(pathLess ((gt a0 (if ((IntKind.wrap .i64 (a1 - 1)) < 0 : Prop) then 0 else (IntKind.wrap .i64 (a1 - 1)))).path) ((gt a0 a1).path)))) := ((hd496 41 rfl).1 b498)
        exact L_op (.plain rfl) rfl (ltb rfl) (X_pick (b := true) (v := (.bool (!(pathLess ((gt a0 (if ((IntKind.wrap .i64 (a1 - 1)) < 0 : Prop) then 0 else (IntKind.wrap .i64 (a1 - 1)))).path) ((gt a0 a1).path))))) (d499.trans (congrArg Value.bool b498)) d500) <| L_nil <| stepEnd rfl rfl (Ext.refl w493) (by show _ = _; rw [b498]; rfl)
      · have d501 : s492 52 = (.bool (decide (0 < a1))) := (hd496 30 rfl)
        exact L_op (.plain rfl) rfl (ltb rfl) (X_pick (b := false) (v := (.bool false)) (d501.trans (congrArg Value.bool b498)) rfl) <| L_nil <| stepEnd rfl rfl (Ext.refl w493) (by show _ = _; rw [b498]; rfl)
    · intro s502 w503 e504 hf505 hd506 hu507
      have d508 : s502 64 = (.bool ((decide (0 < a1)) && (!(pathLess ((gt a0 (if ((IntKind.wrap .i64 (a1 - 1)) < 0 : Prop) then 0 else (IntKind.wrap .i64 (a1 - 1)))).path) ((gt a0 a1).path))))) := (hd506 42 rfl)
      exact L_op (.plain rfl) rfl (ltb rfl) (X_mkiface Tryd.underlying4 rfl d508) <| L_nil <| stepEnd rfl rfl (Ext.refl w503) rfl
    · intro s509 w510 e511 hf512 hd513 hu514
      exact L_op (.plain rfl) rfl (ltb rfl) (X_mkiface Tryd.underlying3 rfl rfl) <| L_nil <| stepEnd rfl rfl (Ext.refl w510) rfl
    · intro s515 w516 e517 hf518 hd519 hu520
      exact L_op (.plain rfl) rfl (ltb rfl) (X_move (v := (.int .i64 (findR (sub a0 0 a1) (parentP ((gt a0 a1).path))))) (hf518 6 rfl)) <| L_nil <| stepEnd rfl rfl (Ext.refl w516) rfl
    · intro s521 w522 e523 hf524 hd525 hu526
      have d527 : s521 67 = (.int .i64 (findR (sub a0 0 a1) (parentP ((gt a0 a1).path)))) := (hd525 45 rfl)
      exact L_op (.plain rfl) rfl (ltb rfl) (X_lss d527 rfl) <| L_nil <| stepEnd rfl rfl (Ext.refl w522) rfl
    · intro s528 w529 e530 hf531 hd532 hu533
      have d534 : s528 68 = (.bool (decide ((findR (sub a0 0 a1) (parentP ((gt a0 a1).path))) < 0))) := (hd532 46 rfl)
      exact L_op (.plain rfl) rfl (ltb rfl) (X_mkiface Tryd.underlying4 rfl d534) <| L_nil <| stepEnd rfl rfl (Ext.refl w529) rfl
    · intro s535 w536 e537 hf538 hd539 hu540
      exact L_op (.plain rfl) rfl (ltb rfl) (X_mkiface Tryd.underlying3 rfl rfl) <| L_nil <| stepEnd rfl rfl (Ext.refl w536) rfl
    · intro s541 w542 e543 hf544 hd545 hu546
      exact L_op (.plain rfl) rfl (ltb rfl) (X_fieldAddr Tryd.underlying23 rfl Tryd.sizeOf9 rfl (hf544 5 rfl)) <| L_nil <| stepEnd rfl rfl (Ext.refl w542) rfl
    · intro s547 w548 e549 hf550 hd551 hu552
      have d553 : s547 71 = (.pointer (some ⟨b4, 1, none⟩)) := (hd551 49 rfl)
      exact L_op (.plain rfl) rfl (ltb rfl) (X_loadB Tryd.isAgg9 (Blk.ext k12 (Ext.trans (Ext.trans e15 e22) e549)) d553 rfl) <| L_nil <| stepEnd rfl rfl (Ext.refl w548) rfl
    · intro s554 w555 e556 hf557 hd558 hu559
      have d560 : s554 72 = (S ((gt a0 a1).path)) := (hd558 50 rfl)
      have c561 := c35
      exact L_callP (.plain rfl) rfl (ltb rfl) rfl Tryd.call53 (impl_parent.calls (w := w555) (a0 := (gt a0 a1).path) (of_decide_eq_true c561)) (cons2 d560 rfl) <| fun w562 e563 => L_nil <| stepEnd rfl rfl e563 rfl
    · intro s564 w565 e566 hf567 hd568 hu569
      have d570 : s564 73 = (S (parentP ((gt a0 a1).path))) := (hd568 51 rfl)
      exact L_op (.plain rfl) rfl (ltb rfl) (X_sne d570 rfl) <| L_nil <| stepEnd rfl rfl (Ext.refl w565) rfl
    · intro s571 w572 e573 hf574 hd575 hu576
      have d577 : s571 74 = (.bool (!decide ((parentP ((gt a0 a1).path)) = ([] : List UInt8)))) := (hd575 52 rfl)
      exact L_op (.plain rfl) rfl (ltb rfl) (X_move (v := (.bool (!decide ((parentP ((gt a0 a1).path)) = ([] : List UInt8))))) d577) <| L_nil <| stepEnd rfl rfl (Ext.refl w572) rfl
    · intro s578 w579 e580 hf581 hd582 hu583
      rcases bool_two (!decide ((parentP ((gt a0 a1).path)) = ([] : List UInt8))) with b584 | b584
      · have g585 : (!decide ((parentP ((gt a0 a1).path)) = ([] : List UInt8))) = true := b584
        have d586 : s578 75 = (.bool (!decide ((parentP ((gt a0 a1).path)) = ([] : List UInt8)))) := (hd582 53 rfl)
        have d587 : s578 75 = (.bool (!decide ((parentP ((gt a0 a1).path)) = ([] : List UInt8)))) := (hd582 53 rfl)
        exact L_op (.guard 53 true 75 rfl rfl (ltb rfl) (d586.trans (congrArg Value.bool g585))) rfl (ltb rfl) (X_move (v := v_a0) (hf581 0 rfl)) <| L_nil <| stepEnd rfl rfl (Ext.refl w579) ⟨fun _ => rfl, fun h => absurd (b584.symm.trans h) (by decide)⟩
      · have d588 : s578 75 = (.bool (!decide ((parentP ((gt a0 a1).path)) = ([] : List UInt8)))) := (hd582 53 rfl)
        have g589 : (!decide ((parentP ((gt a0 a1).path)) = ([] : List UInt8))) = false := b584
        exact L_skip rfl rfl (ltb rfl) (d588.trans (congrArg Value.bool g589)) rfl rfl (ltb rfl) <| L_nil <| stepEnd rfl rfl (Ext.refl w579) ⟨fun h => absurd (b584.symm.trans h) (by decide), fun _ => rfl⟩
    · intro s590 w591 e592 hf593 hd594 hu595
      rcases bool_two (!decide ((parentP ((gt a0 a1).path)) = ([] : List UInt8))) with b596 | b596
      · have g597 : (!decide ((parentP ((gt a0 a1).path)) = ([] : List UInt8))) = true := b596
        have d598 : s590 75 = (.bool (!decide ((parentP ((gt a0 a1).path)) = ([] : List UInt8)))) := (hd594 53 rfl)
        have d599 : s590 75 = (.bool (!decide ((parentP ((gt a0 a1).path)) = ([] : List UInt8)))) := (hd594 53 rfl)
        exact L_op (.guard 53 true 75 rfl rfl (ltb rfl) (d598.trans (congrArg Value.bool g597))) rfl (ltb rfl) (X_move (v := (.int .i64 (findR (sub a0 0 a1) (parentP ((gt a0 a1).path))))) (hf593 6 rfl)) <| L_nil <| stepEnd rfl rfl (Ext.refl w591) ⟨fun _ => rfl, fun h => absurd (b596.symm.trans h) (by decide)⟩
      · have d600 : s590 75 = (.bool (!decide ((parentP ((gt a0 a1).path)) = ([] : List UInt8)))) := (hd594 53 rfl)
        have g601 : (!decide ((parentP ((gt a0 a1).path)) = ([] : List UInt8))) = false := b596
        exact L_skip rfl rfl (ltb rfl) (d600.trans (congrArg Value.bool g601)) rfl rfl (ltb rfl) <| L_nil <| stepEnd rfl rfl (Ext.refl w591) ⟨fun h => absurd (b596.symm.trans h) (by decide), fun _ => rfl⟩
    · intro s602 w603 e604 hf605 hd606 hu607
      rcases bool_two (!decide ((parentP ((gt a0 a1).path)) = ([] : List UInt8))) with b608 | b608
      · have g609 : (!decide ((parentP ((gt a0 a1).path)) = ([] : List UInt8))) = true := b608
        have d610 : s602 75 = (.bool (!decide ((parentP ((gt a0 a1).path)) = ([] : List UInt8)))) := (hd606 53 rfl)
        have d611 : s602 75 = (.bool (!decide ((parentP ((gt a0 a1).path)) = ([] : List UInt8)))) := (hd606 53 rfl)
        have d612 : s602 77 = (.int .i64 (findR (sub a0 0 a1) (parentP ((gt a0 a1).path)))) := ((hd606 55 rfl).1 b608)
        exact L_op (.guard 53 true 75 rfl rfl (ltb rfl) (d610.trans (congrArg Value.bool g609))) rfl (ltb rfl) (X_max d612 rfl) <| L_nil <| stepEnd rfl rfl (Ext.refl w603) ⟨fun _ => rfl, fun h => absurd (b608.symm.trans h) (by decide)⟩
      · have d613 : s602 75 = (.bool (!decide ((parentP ((gt a0 a1).path)) = ([] : List UInt8)))) := (hd606 53 rfl)
        have g614 : (!decide ((parentP ((gt a0 a1).path)) = ([] : List UInt8))) = false := b608
        exact L_skip rfl rfl (ltb rfl) (d613.trans (congrArg Value.bool g614)) rfl rfl (ltb rfl) <| L_nil <| stepEnd rfl rfl (Ext.refl w603) ⟨fun h => absurd (b608.symm.trans h) (by decide), fun _ => rfl⟩
    · intro s615 w616 e617 hf618 hd619 hu620
      rcases bool_two (!decide ((parentP ((gt a0 a1).path)) = ([] : List UInt8))) with b621 | b621
      · have g622 : (!decide ((parentP ((gt a0 a1).path)) = ([] : List UInt8))) = true := b621
        have d623 : s615 75 = (.bool (!decide ((parentP ((gt a0 a1).path)) = ([] : List UInt8)))) := (hd619 53 rfl)
        have d624 : s615 75 = (.bool (!decide ((parentP ((gt a0 a1).path)) = ([] : List UInt8)))) := (hd619 53 rfl)
        have d625 : s615 76 = v_a0 := ((hd619 54 rfl).1 b621)
        have d626 : s615 78 = (.int .i64 (if ((findR (sub a0 0 a1) (parentP ((gt a0 a1).path))) < 0 : Prop) then 0 else (findR (sub a0 0 a1) (parentP ((gt a0 a1).path))))) := ((hd619 56 rfl).1 b621)
        have c627 := imp_take b621 c38
        exact L_idx (.guard 53 true 75 rfl rfl (ltb rfl) (d623.trans (congrArg Value.bool g622))) rfl (ltb rfl) rfl Tryd.underlying48 Tryd.sizeOf23 d625 (Rd.ext f_a0 (Ext.trans (Ext.trans (Ext.trans (Below.trans e8 (Wr.below h11 (Nat.le_of_eq z6))) e15) e22) e617)) d626 c627 <| fun p628 h629 => L_nil <| stepEnd rfl rfl (Ext.refl w616) ⟨fun _ => ⟨_, rfl, h629⟩, fun h => absurd (b621.symm.trans h) (by decide)⟩
      · have d630 : s615 75 = (.bool (!decide ((parentP ((gt a0 a1).path)) = ([] : List UInt8)))) := (hd619 53 rfl)
        have g631 : (!decide ((parentP ((gt a0 a1).path)) = ([] : List UInt8))) = false := b621
        exact L_skip rfl rfl (ltb rfl) (d630.trans (congrArg Value.bool g631)) rfl rfl (ltb rfl) <| L_nil <| stepEnd rfl rfl (Ext.refl w616) ⟨fun h => absurd (b621.symm.trans h) (by decide), fun _ => rfl⟩
    · intro s632 w633 e634 hf635 hd636 hu637
      rcases bool_two (!decide ((parentP ((gt a0 a1).path)) = ([] : List UInt8))) with b638 | b638
      · have g639 : (!decide ((parentP ((gt a0 a1).path)) = ([] : List UInt8))) = true := b638
        have d640 : s632 75 = (.bool (!decide ((parentP ((gt a0 a1).path)) = ([] : List UInt8)))) := (hd636 53 rfl)
        have d641 : s632 75 = (.bool (!decide ((parentP ((gt a0 a1).path)) = ([] : List UInt8)))) := (hd636 53 rfl)
        obtain ⟨p642, h643, h644⟩ := ((hd636 57 rfl).1 b638)
        exact L_op (.guard 53 true 75 rfl rfl (ltb rfl) (d640.trans (congrArg Value.bool g639))) rfl (ltb rfl) (X_fieldAddr Tryd.underlying23 rfl Tryd.sizeOf3 rfl h643) <| L_nil <| stepEnd rfl rfl (Ext.refl w633) ⟨fun _ => ⟨_, rfl, h644⟩, fun h => absurd (b638.symm.trans h) (by decide)⟩
      · have d645 : s632 75 = (.bool (!decide ((parentP ((gt a0 a1).path)) = ([] : List UInt8)))) := (hd636 53 rfl)
        have g646 : (!decide ((parentP ((gt a0 a1).path)) = ([] : List UInt8))) = false := b638
        exact L_skip rfl rfl (ltb rfl) (d645.trans (congrArg Value.bool g646)) rfl rfl (ltb rfl) <| L_nil <| stepEnd rfl rfl (Ext.refl w633) ⟨fun h => absurd (b638.symm.trans h) (by decide), fun _ => rfl⟩
    · intro s647 w648 e649 hf650 hd651 hu652
      rcases bool_two (!decide ((parentP ((gt a0 a1).path)) = ([] : List UInt8))) with b653 | b653
      · have g654 : (!decide ((parentP ((gt a0 a1).path)) = ([] : List UInt8))) = true := b653
        have d655 : s647 75 = (.bool (!decide ((parentP ((gt a0 a1).path)) = ([] : List UInt8)))) := (hd651 53 rfl)
        have d656 : s647 75 = (.bool (!decide ((parentP ((gt a0 a1).path)) = ([] : List UInt8)))) := (hd651 53 rfl)
        obtain ⟨p657, h658, h659⟩ := ((hd651 58 rfl).1 b653)
        exact L_op (.guard 53 true 75 rfl rfl (ltb rfl) (d655.trans (congrArg Value.bool g654))) rfl (ltb rfl) (X_loadF Tryd.isAgg3 (j := 0) h659 h658 rfl) <| L_nil <| stepEnd rfl rfl (Ext.refl w648) ⟨fun _ => rfl, fun h => absurd (b653.symm.trans h) (by decide)⟩
      · have d660 : s647 75 = (.bool (!decide ((parentP ((gt a0 a1).path)) = ([] : List UInt8)))) := (hd651 53 rfl)
        have g661 : (!decide ((parentP ((gt a0 a1).path)) = ([] : List UInt8))) = false := b653
        exact L_skip rfl rfl (ltb rfl) (d660.trans (congrArg Value.bool g661)) rfl rfl (ltb rfl) <| L_nil <| stepEnd rfl rfl (Ext.refl w648) ⟨fun h => absurd (b653.symm.trans h) (by decide), fun _ => rfl⟩
    · intro s662 w663 e664 hf665 hd666 hu667
      rcases bool_two (!decide ((parentP ((gt a0 a1).path)) = ([] : List UInt8))) with b668 | b668
      · have g669 : (!decide ((parentP ((gt a0 a1).path)) = ([] : List UInt8))) = true := b668
        have d670 : s662 75 = (.bool (!decide ((parentP ((gt a0 a1).path)) = ([] : List UInt8)))) := (hd666 53 rfl)
        have d671 : s662 75 = (.bool (!decide ((parentP ((gt a0 a1).path)) = ([] : List UInt8)))) := (hd666 53 rfl)
        have d672 : s662 81 = (.int .i64 ((gt a0 (if ((findR (sub a0 0 a1) (parentP ((gt a0 a1).path))) < 0 : Prop) then 0 else (findR (sub a0 0 a1) (parentP ((gt a0 a1).path))))).kind)) := ((hd666 59 rfl).1 b668)
        exact L_op (.guard 53 true 75 rfl rfl (ltb rfl) (d670.trans (congrArg Value.bool g669))) rfl (ltb rfl) (X_neq d672 rfl) <| L_nil <| stepEnd rfl rfl (Ext.refl w663) ⟨fun _ => rfl, fun h => absurd (b668.symm.trans h) (by decide)⟩
      · have d673 : s662 75 = (.bool (!decide ((parentP ((gt a0 a1).path)) = ([] : List UInt8)))) := (hd666 53 rfl)
        have g674 : (!decide ((parentP ((gt a0 a1).path)) = ([] : List UInt8))) = false := b668
        exact L_skip rfl rfl (ltb rfl) (d673.trans (congrArg Value.bool g674)) rfl rfl (ltb rfl) <| L_nil <| stepEnd rfl rfl (Ext.refl w663) ⟨fun h => absurd (b668.symm.trans h) (by decide), fun _ => rfl⟩
    · intro s675 w676 e677 hf678 hd679 hu680
      rcases bool_two (!decide ((parentP ((gt a0 a1).path)) = ([] : List UInt8))) with b681 | b681
      · have d682 : s675 75 = (.bool (!decide ((parentP ((gt a0 a1).path)) = ([] : List UInt8)))) := (hd679 53 rfl)
        have d683 : s675 82 = (.bool (!decide (((gt a0 (if ((findR (sub a0 0 a1) (parentP ((gt a0 a1).path))) < 0 : Prop) then 0 else (findR (sub a0 0 a1) (parentP ((gt a0 a1).path))))).kind) = 3))) := ((hd679 60 rfl).1 b681)
        exact L_op (.plain rfl) rfl (ltb rfl) (X_pick (b := true) (v := (.bool (!decide (((gt a0 (if ((findR (sub a0 0 a1) (parentP ((gt a0 a1).path))) < 0 : Prop) then 0 else (findR (sub a0 0 a1) (parentP ((gt a0 a1).path))))).kind) = 3)))) (d682.trans (congrArg Value.bool b681)) d683) <| L_nil <| stepEnd rfl rfl (Ext.refl w676) (by show _ = _; rw [b681]; rfl)
      · have d684 : s675 75 = (.bool (!decide ((parentP ((gt a0 a1).path)) = ([] : List UInt8)))) := (hd679 53 rfl)
        exact L_op (.plain rfl) rfl (ltb rfl) (X_pick (b := false) (v := (.bool false)) (d684.trans (congrArg Value.bool b681)) rfl) <| L_nil <| stepEnd rfl rfl (Ext.refl w676) (by show _ = _; rw [b681]; rfl)
    · intro s685 w686 e687 hf688 hd689 hu690
      have d691 : s685 83 = (.bool ((!decide ((parentP ((gt a0 a1).path)) = ([] : List UInt8))) && (!decide (((gt a0 (if ((findR (sub a0 0 a1) (parentP ((gt a0 a1).path))) < 0 : Prop) then 0 else (findR (sub a0 0 a1) (parentP ((gt a0 a1).path))))).kind) = 3)))) := (hd689 61 rfl)
      exact L_op (.plain rfl) rfl (ltb rfl) (X_mkiface Tryd.underlying4 rfl d691) <| L_nil <| stepEnd rfl rfl (Ext.refl w686) rfl
    · intro s692 w693 e694 hf695 hd696 hu697
      exact L_op (.plain rfl) rfl (ltb rfl) (X_mkiface Tryd.underlying3 rfl rfl) <| L_nil <| stepEnd rfl rfl (Ext.refl w693) rfl
    · intro s698 w699 e700 hf701 hd702 hu703
      have d704 : s698 30 = (.iface 4 (.bool (!(decide (recFault (gt a0 a1) = 0))))) := (hd702 8 rfl)
      have d705 : s698 33 = (.iface 3 (.int .i64 (recFault (gt a0 a1)))) := (hd702 11 rfl)
      have d706 : s698 48 = (.iface 4 (.bool ((decide (0 < a1)) && (decide (((gt a0 (if ((IntKind.wrap .i64 (a1 - 1)) < 0 : Prop) then 0 else (IntKind.wrap .i64 (a1 - 1)))).path) = ((gt a0 a1).path)))))) := (hd702 26 rfl)
      have d707 : s698 49 = (.iface 3 (.int .i64 18)) := (hd702 27 rfl)
      have d708 : s698 65 = (.iface 4 (.bool ((decide (0 < a1)) && (!(pathLess ((gt a0 (if ((IntKind.wrap .i64 (a1 - 1)) < 0 : Prop) then 0 else (IntKind.wrap .i64 (a1 - 1)))).path) ((gt a0 a1).path)))))) := (hd702 43 rfl)
      have d709 : s698 66 = (.iface 3 (.int .i64 11)) := (hd702 44 rfl)
      have d710 : s698 69 = (.iface 4 (.bool (decide ((findR (sub a0 0 a1) (parentP ((gt a0 a1).path))) < 0)))) := (hd702 47 rfl)
      have d711 : s698 70 = (.iface 3 (.int .i64 12)) := (hd702 48 rfl)
      have d712 : s698 84 = (.iface 4 (.bool ((!decide ((parentP ((gt a0 a1).path)) = ([] : List UInt8))) && (!decide (((gt a0 (if ((findR (sub a0 0 a1) (parentP ((gt a0 a1).path))) < 0 : Prop) then 0 else (findR (sub a0 0 a1) (parentP ((gt a0 a1).path))))).kind) = 3))))) := (hd702 62 rfl)
      have d713 : s698 85 = (.iface 3 (.int .i64 13)) := (hd702 63 rfl)
      exact L_lit (.plain rfl) rfl (ltb rfl) rfl Tryd.underlying74 Tryd.sizeOf20 Tryd.zeroValue20 rfl rfl rfl (vs := [(.iface 4 (.bool (!(decide (recFault (gt a0 a1) = 0))))), (.iface 3 (.int .i64 (recFault (gt a0 a1)))), (.iface 4 (.bool ((decide (0 < a1)) && (decide (((gt a0 (if ((IntKind.wrap .i64 (a1 - 1)) < 0 : Prop) then 0 else (IntKind.wrap .i64 (a1 - 1)))).path) = ((gt a0 a1).path)))))), (.iface 3 (.int .i64 18)), (.iface 4 (.bool ((decide (0 < a1)) && (!(pathLess ((gt a0 (if ((IntKind.wrap .i64 (a1 - 1)) < 0 : Prop) then 0 else (IntKind.wrap .i64 (a1 - 1)))).path) ((gt a0 a1).path)))))), (.iface 3 (.int .i64 11)), (.iface 4 (.bool (decide ((findR (sub a0 0 a1) (parentP ((gt a0 a1).path))) < 0)))), (.iface 3 (.int .i64 12)), (.iface 4 (.bool ((!decide ((parentP ((gt a0 a1).path)) = ([] : List UInt8))) && (!decide (((gt a0 (if ((findR (sub a0 0 a1) (parentP ((gt a0 a1).path))) < 0 : Prop) then 0 else (findR (sub a0 0 a1) (parentP ((gt a0 a1).path))))).kind) = 3))))), (.iface 3 (.int .i64 13))]) (cons2 d704 (cons2 d705 (cons2 d706 (cons2 d707 (cons2 d708 (cons2 d709 (cons2 d710 (cons2 d711 (cons2 d712 (cons2 d713 rfl)))))))))) (lit_all rfl) <| fun b714 w715 z716 z717 e718 k719 => L_nil <| stepEnd rfl rfl e718 (Own.rd (Own.new (xs := [.inl (!(decide (recFault (gt a0 a1) = 0))), .inr (recFault (gt a0 a1)), .inl ((decide (0 < a1)) && (decide (((gt a0 (if ((IntKind.wrap .i64 (a1 - 1)) < 0 : Prop) then 0 else (IntKind.wrap .i64 (a1 - 1)))).path) = ((gt a0 a1).path)))), .inr 18, .inl ((decide (0 < a1)) && (!(pathLess ((gt a0 (if ((IntKind.wrap .i64 (a1 - 1)) < 0 : Prop) then 0 else (IntKind.wrap .i64 (a1 - 1)))).path) ((gt a0 a1).path)))), .inr 11, .inl (decide ((findR (sub a0 0 a1) (parentP ((gt a0 a1).path))) < 0)), .inr 12, .inl ((!decide ((parentP ((gt a0 a1).path)) = ([] : List UInt8))) && (!decide (((gt a0 (if ((findR (sub a0 0 a1) (parentP ((gt a0 a1).path))) < 0 : Prop) then 0 else (findR (sub a0 0 a1) (parentP ((gt a0 a1).path))))).kind) = 3))), .inr 13]) (sz := 1) (enc := (encAny 4 3)) (base := w699.heap.size) k719 (Nat.le_of_eq z716) rfl (fun _ _ => by first | rfl | exact encAny_len _ _ _) (Nat.le_of_ble_eq_true rfl)))
    · intro s720 w721 e722 hf723 hd724 hu725
      have d726 : Rd 1 (encAny 4 3) w721 (s720 86) ([.inl (!(decide (recFault (gt a0 a1) = 0))), .inr (recFault (gt a0 a1)), .inl ((decide (0 < a1)) && (decide (((gt a0 (if ((IntKind.wrap .i64 (a1 - 1)) < 0 : Prop) then 0 else (IntKind.wrap .i64 (a1 - 1)))).path) = ((gt a0 a1).path)))), .inr 18, .inl ((decide (0 < a1)) && (!(pathLess ((gt a0 (if ((IntKind.wrap .i64 (a1 - 1)) < 0 : Prop) then 0 else (IntKind.wrap .i64 (a1 - 1)))).path) ((gt a0 a1).path)))), .inr 11, .inl (decide ((findR (sub a0 0 a1) (parentP ((gt a0 a1).path))) < 0)), .inr 12, .inl ((!decide ((parentP ((gt a0 a1).path)) = ([] : List UInt8))) && (!decide (((gt a0 (if ((findR (sub a0 0 a1) (parentP ((gt a0 a1).path))) < 0 : Prop) then 0 else (findR (sub a0 0 a1) (parentP ((gt a0 a1).path))))).kind) = 3))), .inr 13] : List (Bool ⊕ Int)) := (hd724 64 rfl)
      have c727 := c47
      exact L_callP (.plain rfl) rfl (ltb rfl) rfl Tryd.call50 (impl_first.calls (w := w721) (a0 := ([.inl (!(decide (recFault (gt a0 a1) = 0))), .inr (recFault (gt a0 a1)), .inl ((decide (0 < a1)) && (decide (((gt a0 (if ((IntKind.wrap .i64 (a1 - 1)) < 0 : Prop) then 0 else (IntKind.wrap .i64 (a1 - 1)))).path) = ((gt a0 a1).path)))), .inr 18, .inl ((decide (0 < a1)) && (!(pathLess ((gt a0 (if ((IntKind.wrap .i64 (a1 - 1)) < 0 : Prop) then 0 else (IntKind.wrap .i64 (a1 - 1)))).path) ((gt a0 a1).path)))), .inr 11, .inl (decide ((findR (sub a0 0 a1) (parentP ((gt a0 a1).path))) < 0)), .inr 12, .inl ((!decide ((parentP ((gt a0 a1).path)) = ([] : List UInt8))) && (!decide (((gt a0 (if ((findR (sub a0 0 a1) (parentP ((gt a0 a1).path))) < 0 : Prop) then 0 else (findR (sub a0 0 a1) (parentP ((gt a0 a1).path))))).kind) = 3))), .inr 13] : List (Bool ⊕ Int))) d726 (of_decide_eq_true c727)) rfl <| fun w728 e729 => L_nil <| stepEnd rfl rfl e729 rfl
    · intro s730 w731 e732 hf733 hd734 hu735
      have d736 : s730 87 = (.int .i64 (firstOf ([.inl (!(decide (recFault (gt a0 a1) = 0))), .inr (recFault (gt a0 a1)), .inl ((decide (0 < a1)) && (decide (((gt a0 (if ((IntKind.wrap .i64 (a1 - 1)) < 0 : Prop) then 0 else (IntKind.wrap .i64 (a1 - 1)))).path) = ((gt a0 a1).path)))), .inr 18, .inl ((decide (0 < a1)) && (!(pathLess ((gt a0 (if ((IntKind.wrap .i64 (a1 - 1)) < 0 : Prop) then 0 else (IntKind.wrap .i64 (a1 - 1)))).path) ((gt a0 a1).path)))), .inr 11, .inl (decide ((findR (sub a0 0 a1) (parentP ((gt a0 a1).path))) < 0)), .inr 12, .inl ((!decide ((parentP ((gt a0 a1).path)) = ([] : List UInt8))) && (!decide (((gt a0 (if ((findR (sub a0 0 a1) (parentP ((gt a0 a1).path))) < 0 : Prop) then 0 else (findR (sub a0 0 a1) (parentP ((gt a0 a1).path))))).kind) = 3))), .inr 13] : List (Bool ⊕ Int)))) := (hd734 65 rfl)
      exact L_op (.plain rfl) rfl (ltb rfl) (X_mkiface Tryd.underlying3 rfl d736) <| L_nil <| stepEnd rfl rfl (Ext.refl w731) rfl
    · intro s737 w738 e739 hf740 hd741 hu742
      have d743 : s737 24 = (.iface 4 (.bool (decide (16 ≤ a1)))) := (hd741 2 rfl)
      have d744 : s737 25 = (.iface 3 (.int .i64 6)) := (hd741 3 rfl)
      have d745 : s737 26 = (.iface 4 (.bool true)) := (hd741 4 rfl)
      have d746 : s737 88 = (.iface 3 (.int .i64 (firstOf ([.inl (!(decide (recFault (gt a0 a1) = 0))), .inr (recFault (gt a0 a1)), .inl ((decide (0 < a1)) && (decide (((gt a0 (if ((IntKind.wrap .i64 (a1 - 1)) < 0 : Prop) then 0 else (IntKind.wrap .i64 (a1 - 1)))).path) = ((gt a0 a1).path)))), .inr 18, .inl ((decide (0 < a1)) && (!(pathLess ((gt a0 (if ((IntKind.wrap .i64 (a1 - 1)) < 0 : Prop) then 0 else (IntKind.wrap .i64 (a1 - 1)))).path) ((gt a0 a1).path)))), .inr 11, .inl (decide ((findR (sub a0 0 a1) (parentP ((gt a0 a1).path))) < 0)), .inr 12, .inl ((!decide ((parentP ((gt a0 a1).path)) = ([] : List UInt8))) && (!decide (((gt a0 (if ((findR (sub a0 0 a1) (parentP ((gt a0 a1).path))) < 0 : Prop) then 0 else (findR (sub a0 0 a1) (parentP ((gt a0 a1).path))))).kind) = 3))), .inr 13] : List (Bool ⊕ Int))))) := (hd741 66 rfl)
      exact L_lit (.plain rfl) rfl (ltb rfl) rfl Tryd.underlying74 Tryd.sizeOf20 Tryd.zeroValue20 rfl rfl rfl (vs := [(.iface 4 (.bool (decide (16 ≤ a1)))), (.iface 3 (.int .i64 6)), (.iface 4 (.bool true)), (.iface 3 (.int .i64 (firstOf ([.inl (!(decide (recFault (gt a0 a1) = 0))), .inr (recFault (gt a0 a1)), .inl ((decide (0 < a1)) && (decide (((gt a0 (if ((IntKind.wrap .i64 (a1 - 1)) < 0 : Prop) then 0 else (IntKind.wrap .i64 (a1 - 1)))).path) = ((gt a0 a1).path)))), .inr 18, .inl ((decide (0 < a1)) && (!(pathLess ((gt a0 (if ((IntKind.wrap .i64 (a1 - 1)) < 0 : Prop) then 0 else (IntKind.wrap .i64 (a1 - 1)))).path) ((gt a0 a1).path)))), .inr 11, .inl (decide ((findR (sub a0 0 a1) (parentP ((gt a0 a1).path))) < 0)), .inr 12, .inl ((!decide ((parentP ((gt a0 a1).path)) = ([] : List UInt8))) && (!decide (((gt a0 (if ((findR (sub a0 0 a1) (parentP ((gt a0 a1).path))) < 0 : Prop) then 0 else (findR (sub a0 0 a1) (parentP ((gt a0 a1).path))))).kind) = 3))), .inr 13] : List (Bool ⊕ Int)))))]) (cons2 d743 (cons2 d744 (cons2 d745 (cons2 d746 rfl)))) (lit_all rfl) <| fun b747 w748 z749 z750 e751 k752 => L_nil <| stepEnd rfl rfl e751 (Own.rd (Own.new (xs := [.inl (decide (16 ≤ a1)), .inr 6, .inl true, .inr (firstOf ([.inl (!(decide (recFault (gt a0 a1) = 0))), .inr (recFault (gt a0 a1)), .inl ((decide (0 < a1)) && (decide (((gt a0 (if ((IntKind.wrap .i64 (a1 - 1)) < 0 : Prop) then 0 else (IntKind.wrap .i64 (a1 - 1)))).path) = ((gt a0 a1).path)))), .inr 18, .inl ((decide (0 < a1)) && (!(pathLess ((gt a0 (if ((IntKind.wrap .i64 (a1 - 1)) < 0 : Prop) then 0 else (IntKind.wrap .i64 (a1 - 1)))).path) ((gt a0 a1).path)))), .inr 11, .inl (decide ((findR (sub a0 0 a1) (parentP ((gt a0 a1).path))) < 0)), .inr 12, .inl ((!decide ((parentP ((gt a0 a1).path)) = ([] : List UInt8))) && (!decide (((gt a0 (if ((findR (sub a0 0 a1) (parentP ((gt a0 a1).path))) < 0 : Prop) then 0 else (findR (sub a0 0 a1) (parentP ((gt a0 a1).path))))).kind) = 3))), .inr 13] : List (Bool ⊕ Int)))]) (sz := 1) (enc := (encAny 4 3)) (base := w738.heap.size) k752 (Nat.le_of_eq z749) rfl (fun _ _ => by first | rfl | exact encAny_len _ _ _) (Nat.le_of_ble_eq_true rfl)))
    · intro s753 w754 e755 hf756 hd757 hu758
      have d759 : Rd 1 (encAny 4 3) w754 (s753 89) ([.inl (decide (16 ≤ a1)), .inr 6, .inl true, .inr (firstOf ([.inl (!(decide (recFault (gt a0 a1) = 0))), .inr (recFault (gt a0 a1)), .inl ((decide (0 < a1)) && (decide (((gt a0 (if ((IntKind.wrap .i64 (a1 - 1)) < 0 : Prop) then 0 else (IntKind.wrap .i64 (a1 - 1)))).path) = ((gt a0 a1).path)))), .inr 18, .inl ((decide (0 < a1)) && (!(pathLess ((gt a0 (if ((IntKind.wrap .i64 (a1 - 1)) < 0 : Prop) then 0 else (IntKind.wrap .i64 (a1 - 1)))).path) ((gt a0 a1).path)))), .inr 11, .inl (decide ((findR (sub a0 0 a1) (parentP ((gt a0 a1).path))) < 0)), .inr 12, .inl ((!decide ((parentP ((gt a0 a1).path)) = ([] : List UInt8))) && (!decide (((gt a0 (if ((findR (sub a0 0 a1) (parentP ((gt a0 a1).path))) < 0 : Prop) then 0 else (findR (sub a0 0 a1) (parentP ((gt a0 a1).path))))).kind) = 3))), .inr 13] : List (Bool ⊕ Int)))] : List (Bool ⊕ Int)) := (hd757 67 rfl)
      have c760 := c56
      exact L_callP (.plain rfl) rfl (ltb rfl) rfl Tryd.call50 (impl_first.calls (w := w754) (a0 := ([.inl (decide (16 ≤ a1)), .inr 6, .inl true, .inr (firstOf ([.inl (!(decide (recFault (gt a0 a1) = 0))), .inr (recFault (gt a0 a1)), .inl ((decide (0 < a1)) && (decide (((gt a0 (if ((IntKind.wrap .i64 (a1 - 1)) < 0 : Prop) then 0 else (IntKind.wrap .i64 (a1 - 1)))).path) = ((gt a0 a1).path)))), .inr 18, .inl ((decide (0 < a1)) && (!(pathLess ((gt a0 (if ((IntKind.wrap .i64 (a1 - 1)) < 0 : Prop) then 0 else (IntKind.wrap .i64 (a1 - 1)))).path) ((gt a0 a1).path)))), .inr 11, .inl (decide ((findR (sub a0 0 a1) (parentP ((gt a0 a1).path))) < 0)), .inr 12, .inl ((!decide ((parentP ((gt a0 a1).path)) = ([] : List UInt8))) && (!decide (((gt a0 (if ((findR (sub a0 0 a1) (parentP ((gt a0 a1).path))) < 0 : Prop) then 0 else (findR (sub a0 0 a1) (parentP ((gt a0 a1).path))))).kind) = 3))), .inr 13] : List (Bool ⊕ Int)))] : List (Bool ⊕ Int))) d759 (of_decide_eq_true c760)) rfl <| fun w761 e762 => L_nil <| stepEnd rfl rfl e762 rfl
    · intro s763 w764 e765 hf766 hd767 hu768
      have d769 : s763 90 = (.int .i64 (firstOf ([.inl (decide (16 ≤ a1)), .inr 6, .inl true, .inr (firstOf ([.inl (!(decide (recFault (gt a0 a1) = 0))), .inr (recFault (gt a0 a1)), .inl ((decide (0 < a1)) && (decide (((gt a0 (if ((IntKind.wrap .i64 (a1 - 1)) < 0 : Prop) then 0 else (IntKind.wrap .i64 (a1 - 1)))).path) = ((gt a0 a1).path)))), .inr 18, .inl ((decide (0 < a1)) && (!(pathLess ((gt a0 (if ((IntKind.wrap .i64 (a1 - 1)) < 0 : Prop) then 0 else (IntKind.wrap .i64 (a1 - 1)))).path) ((gt a0 a1).path)))), .inr 11, .inl (decide ((findR (sub a0 0 a1) (parentP ((gt a0 a1).path))) < 0)), .inr 12, .inl ((!decide ((parentP ((gt a0 a1).path)) = ([] : List UInt8))) && (!decide (((gt a0 (if ((findR (sub a0 0 a1) (parentP ((gt a0 a1).path))) < 0 : Prop) then 0 else (findR (sub a0 0 a1) (parentP ((gt a0 a1).path))))).kind) = 3))), .inr 13] : List (Bool ⊕ Int)))] : List (Bool ⊕ Int)))) := (hd767 68 rfl)
      exact L_op (.plain rfl) rfl (ltb rfl) (X_assign d769) <| L_nil <| stepEnd rfl rfl (Ext.refl w764) rfl
    intro s770 w771 e772 hf773 ha774
    have K775 := Kp.ofD (kp := [(4, 5), (22, 91)]) rfl hf773
    have d776 : s770 4 = (.int .i64 (firstOf ([.inl (decide (16 ≤ a1)), .inr 6, .inl true, .inr (firstOf ([.inl (!(decide (recFault (gt a0 a1) = 0))), .inr (recFault (gt a0 a1)), .inl ((decide (0 < a1)) && (decide (((gt a0 (if ((IntKind.wrap .i64 (a1 - 1)) < 0 : Prop) then 0 else (IntKind.wrap .i64 (a1 - 1)))).path) = ((gt a0 a1).path)))), .inr 18, .inl ((decide (0 < a1)) && (!(pathLess ((gt a0 (if ((IntKind.wrap .i64 (a1 - 1)) < 0 : Prop) then 0 else (IntKind.wrap .i64 (a1 - 1)))).path) ((gt a0 a1).path)))), .inr 11, .inl (decide ((findR (sub a0 0 a1) (parentP ((gt a0 a1).path))) < 0)), .inr 12, .inl ((!decide ((parentP ((gt a0 a1).path)) = ([] : List UInt8))) && (!decide (((gt a0 (if ((findR (sub a0 0 a1) (parentP ((gt a0 a1).path))) < 0 : Prop) then 0 else (findR (sub a0 0 a1) (parentP ((gt a0 a1).path))))).kind) = 3))), .inr 13] : List (Bool ⊕ Int)))] : List (Bool ⊕ Int)))) := ha774 69 rfl
    clear ha774 hf773
    refine thn_n <| W_ret <| fin_r ?_
    obtain rfl := Option.some.inj H
    exact fin1 d776 (Ext.trans (Ext.trans (Ext.trans (Below.trans e8 (Wr.below h11 (Nat.le_of_eq z6))) e15) e22) e772)
  · refine W_false (congrArg Value.bool q16) <| W_skip <| thn_n <| W_seq ?_
    obtain ⟨c781, H⟩ := bif_some H
    obtain ⟨c784, H⟩ := bif_some H
    obtain ⟨c789, H⟩ := bif_some H
    obtain ⟨c792, H⟩ := bif_some H
    obtain ⟨c801, H⟩ := bif_some H
    obtain ⟨c810, H⟩ := bif_some H
    refine W_drawM [LEq (.int .i64 a1), LEq (.bool (decide (16 ≤ a1))), LEq (.iface 4 (.bool (decide (16 ≤ a1)))), LEq (.iface 3 (.int .i64 6)), LEq (.iface 4 (.bool true)), LEq (.agg #[(.int .i64 ((gt a0 a1).kind)), (S ((gt a0 a1).path)), (S ((gt a0 a1).body)), (.int .i64 ((gt a0 a1).mode)), (.bool ((gt a0 a1).opq))]), LEq (.bool (decide (recFault (gt a0 a1) = 0))), LEq (.bool (!(decide (recFault (gt a0 a1) = 0)))), LEq (.iface 4 (.bool (!(decide (recFault (gt a0 a1) = 0))))), LEq (.agg #[(.int .i64 ((gt a0 a1).kind)), (S ((gt a0 a1).path)), (S ((gt a0 a1).body)), (.int .i64 ((gt a0 a1).mode)), (.bool ((gt a0 a1).opq))]), LEq (.int .i64 (recFault (gt a0 a1))), LEq (.iface 3 (.int .i64 (recFault (gt a0 a1)))), LEq (.int .i64 a1), LEq (.bool (decide (0 < a1))), LEq (.bool (decide (0 < a1))), LIf (decide (0 < a1)) (LEq v_a0), LIf (decide (0 < a1)) (LEq (.int .i64 a1)), LIf (decide (0 < a1)) (LEq (.int .i64 (IntKind.wrap .i64 (a1 - 1)))), LIf (decide (0 < a1)) (LEq (.int .i64 (if ((IntKind.wrap .i64 (a1 - 1)) < 0 : Prop) then 0 else (IntKind.wrap .i64 (a1 - 1))))), LIf (decide (0 < a1)) (LAt0 (encRec (gt a0 (if ((IntKind.wrap .i64 (a1 - 1)) < 0 : Prop) then 0 else (IntKind.wrap .i64 (a1 - 1)))))), LIf (decide (0 < a1)) (LAt 1 (encRec (gt a0 (if ((IntKind.wrap .i64 (a1 - 1)) < 0 : Prop) then 0 else (IntKind.wrap .i64 (a1 - 1)))))), LIf (decide (0 < a1)) (LEq (S ((gt a0 (if ((IntKind.wrap .i64 (a1 - 1)) < 0 : Prop) then 0 else (IntKind.wrap .i64 (a1 - 1)))).path))), LIf (decide (0 < a1)) (LEq (.pointer (some ⟨b4, 1, none⟩))), LIf (decide (0 < a1)) (LEq (S ((gt a0 a1).path))), LIf (decide (0 < a1)) (LEq (.bool (decide (((gt a0 (if ((IntKind.wrap .i64 (a1 - 1)) < 0 : Prop) then 0 else (IntKind.wrap .i64 (a1 - 1)))).path) = ((gt a0 a1).path))))), LEq (.bool ((decide (0 < a1)) && (decide (((gt a0 (if ((IntKind.wrap .i64 (a1 - 1)) < 0 : Prop) then 0 else (IntKind.wrap .i64 (a1 - 1)))).path) = ((gt a0 a1).path))))), LEq (.iface 4 (.bool ((decide (0 < a1)) && (decide (((gt a0 (if ((IntKind.wrap .i64 (a1 - 1)) < 0 : Prop) then 0 else (IntKind.wrap .i64 (a1 - 1)))).path) = ((gt a0 a1).path)))))), LEq (.iface 3 (.int .i64 18)), LEq (.int .i64 a1), LEq (.bool (decide (0 < a1))), LEq (.bool (decide (0 < a1))), LIf (decide (0 < a1)) (LEq v_a0), LIf (decide (0 < a1)) (LEq (.int .i64 a1)), LIf (decide (0 < a1)) (LEq (.int .i64 (IntKind.wrap .i64 (a1 - 1)))), LIf (decide (0 < a1)) (LEq (.int .i64 (if ((IntKind.wrap .i64 (a1 - 1)) < 0 : Prop) then 0 else (IntKind.wrap .i64 (a1 - 1))))), LIf (decide (0 < a1)) (LAt0 (encRec (gt a0 (if ((IntKind.wrap .i64 (a1 - 1)) < 0 : Prop) then 0 else (IntKind.wrap .i64 (a1 - 1)))))), LIf (decide (0 < a1)) (LAt 1 (encRec (gt a0 (if ((IntKind.wrap .i64 (a1 - 1)) < 0 : Prop) then 0 else (IntKind.wrap .i64 (a1 - 1)))))), LIf (decide (0 < a1)) (LEq (S ((gt a0 (if ((IntKind.wrap .i64 (a1 - 1)) < 0 : Prop) then 0 else (IntKind.wrap .i64 (a1 - 1)))).path))), LIf (decide (0 < a1)) (LEq (.pointer (some ⟨b4, 1, none⟩))), LIf (decide (0 < a1)) (LEq (S ((gt a0 a1).path))), LIf (decide (0 < a1)) (LEq (.bool (pathLess ((gt a0 (if ((IntKind.wrap .i64 (a1 - 1)) < 0 : Prop) then 0 else (IntKind.wrap .i64 (a1 - 1)))).path) ((gt a0 a1).path)))), LIf (decide (0 < a1)) (LEq (.bool (!(pathLess ((gt a0 (if ((IntKind.wrap .i64 (a1 - 1)) < 0 : Prop) then 0 else (IntKind.wrap .i64 (a1 - 1)))).path) ((gt a0 a1).path))))), LEq (.bool ((decide (0 < a1)) && (!(pathLess ((gt a0 (if ((IntKind.wrap .i64 (a1 - 1)) < 0 : Prop) then 0 else (IntKind.wrap .i64 (a1 - 1)))).path) ((gt a0 a1).path))))), LEq (.iface 4 (.bool ((decide (0 < a1)) && (!(pathLess ((gt a0 (if ((IntKind.wrap .i64 (a1 - 1)) < 0 : Prop) then 0 else (IntKind.wrap .i64 (a1 - 1)))).path) ((gt a0 a1).path)))))), LEq (.iface 3 (.int .i64 11)), LEq (.int .i64 0), LEq (.bool (decide ((0 : Int) < 0))), LEq (.iface 4 (.bool (decide ((0 : Int) < 0)))), LEq (.iface 3 (.int .i64 12)), LEq (.pointer (some ⟨b4, 1, none⟩)), LEq (S ((gt a0 a1).path)), LEq (S (parentP ((gt a0 a1).path))), LEq (.bool (!decide ((parentP ((gt a0 a1).path)) = ([] : List UInt8)))), LEq (.bool (!decide ((parentP ((gt a0 a1).path)) = ([] : List UInt8)))), LIf (!decide ((parentP ((gt a0 a1).path)) = ([] : List UInt8))) (LEq v_a0), LIf (!decide ((parentP ((gt a0 a1).path)) = ([] : List UInt8))) (LEq (.int .i64 0)), LIf (!decide ((parentP ((gt a0 a1).path)) = ([] : List UInt8))) (LEq (.int .i64 (if (0 < 0 : Prop) then 0 else 0))), LIf (!decide ((parentP ((gt a0 a1).path)) = ([] : List UInt8))) (LAt0 (encRec (gt a0 (if (0 < 0 : Prop) then 0 else 0)))), LIf (!decide ((parentP ((gt a0 a1).path)) = ([] : List UInt8))) (LAt 0 (encRec (gt a0 (if (0 < 0 : Prop) then 0 else 0)))), LIf (!decide ((parentP ((gt a0 a1).path)) = ([] : List UInt8))) (LEq (.int .i64 ((gt a0 (if (0 < 0 : Prop) then 0 else 0)).kind))), LIf (!decide ((parentP ((gt a0 a1).path)) = ([] : List UInt8))) (LEq (.bool (!decide (((gt a0 (if (0 < 0 : Prop) then 0 else 0)).kind) = 3)))), LEq (.bool ((!decide ((parentP ((gt a0 a1).path)) = ([] : List UInt8))) && (!decide (((gt a0 (if (0 < 0 : Prop) then 0 else 0)).kind) = 3)))), LEq (.iface 4 (.bool ((!decide ((parentP ((gt a0 a1).path)) = ([] : List UInt8))) && (!decide (((gt a0 (if (0 < 0 : Prop) then 0 else 0)).kind) = 3))))), LEq (.iface 3 (.int .i64 13)), LRd 1 (encAny 4 3) ([.inl (!(decide (recFault (gt a0 a1) = 0))), .inr (recFault (gt a0 a1)), .inl ((decide (0 < a1)) && (decide (((gt a0 (if ((IntKind.wrap .i64 (a1 - 1)) < 0 : Prop) then 0 else (IntKind.wrap .i64 (a1 - 1)))).path) = ((gt a0 a1).path)))), .inr 18, .inl ((decide (0 < a1)) && (!(pathLess ((gt a0 (if ((IntKind.wrap .i64 (a1 - 1)) < 0 : Prop) then 0 else (IntKind.wrap .i64 (a1 - 1)))).path) ((gt a0 a1).path)))), .inr 11, .inl (decide ((0 : Int) < 0)), .inr 12, .inl ((!decide ((parentP ((gt a0 a1).path)) = ([] : List UInt8))) && (!decide (((gt a0 (if (0 < 0 : Prop) then 0 else 0)).kind) = 3))), .inr 13] : List (Bool ⊕ Int)), LEq (.int .i64 (firstOf ([.inl (!(decide (recFault (gt a0 a1) = 0))), .inr (recFault (gt a0 a1)), .inl ((decide (0 < a1)) && (decide (((gt a0 (if ((IntKind.wrap .i64 (a1 - 1)) < 0 : Prop) then 0 else (IntKind.wrap .i64 (a1 - 1)))).path) = ((gt a0 a1).path)))), .inr 18, .inl ((decide (0 < a1)) && (!(pathLess ((gt a0 (if ((IntKind.wrap .i64 (a1 - 1)) < 0 : Prop) then 0 else (IntKind.wrap .i64 (a1 - 1)))).path) ((gt a0 a1).path)))), .inr 11, .inl (decide ((0 : Int) < 0)), .inr 12, .inl ((!decide ((parentP ((gt a0 a1).path)) = ([] : List UInt8))) && (!decide (((gt a0 (if (0 < 0 : Prop) then 0 else 0)).kind) = 3))), .inr 13] : List (Bool ⊕ Int)))), LEq (.iface 3 (.int .i64 (firstOf ([.inl (!(decide (recFault (gt a0 a1) = 0))), .inr (recFault (gt a0 a1)), .inl ((decide (0 < a1)) && (decide (((gt a0 (if ((IntKind.wrap .i64 (a1 - 1)) < 0 : Prop) then 0 else (IntKind.wrap .i64 (a1 - 1)))).path) = ((gt a0 a1).path)))), .inr 18, .inl ((decide (0 < a1)) && (!(pathLess ((gt a0 (if ((IntKind.wrap .i64 (a1 - 1)) < 0 : Prop) then 0 else (IntKind.wrap .i64 (a1 - 1)))).path) ((gt a0 a1).path)))), .inr 11, .inl (decide ((0 : Int) < 0)), .inr 12, .inl ((!decide ((parentP ((gt a0 a1).path)) = ([] : List UInt8))) && (!decide (((gt a0 (if (0 < 0 : Prop) then 0 else 0)).kind) = 3))), .inr 13] : List (Bool ⊕ Int))))), LRd 1 (encAny 4 3) ([.inl (decide (16 ≤ a1)), .inr 6, .inl true, .inr (firstOf ([.inl (!(decide (recFault (gt a0 a1) = 0))), .inr (recFault (gt a0 a1)), .inl ((decide (0 < a1)) && (decide (((gt a0 (if ((IntKind.wrap .i64 (a1 - 1)) < 0 : Prop) then 0 else (IntKind.wrap .i64 (a1 - 1)))).path) = ((gt a0 a1).path)))), .inr 18, .inl ((decide (0 < a1)) && (!(pathLess ((gt a0 (if ((IntKind.wrap .i64 (a1 - 1)) < 0 : Prop) then 0 else (IntKind.wrap .i64 (a1 - 1)))).path) ((gt a0 a1).path)))), .inr 11, .inl (decide ((0 : Int) < 0)), .inr 12, .inl ((!decide ((parentP ((gt a0 a1).path)) = ([] : List UInt8))) && (!decide (((gt a0 (if (0 < 0 : Prop) then 0 else 0)).kind) = 3))), .inr 13] : List (Bool ⊕ Int)))] : List (Bool ⊕ Int)), LEq (.int .i64 (firstOf ([.inl (decide (16 ≤ a1)), .inr 6, .inl true, .inr (firstOf ([.inl (!(decide (recFault (gt a0 a1) = 0))), .inr (recFault (gt a0 a1)), .inl ((decide (0 < a1)) && (decide (((gt a0 (if ((IntKind.wrap .i64 (a1 - 1)) < 0 : Prop) then 0 else (IntKind.wrap .i64 (a1 - 1)))).path) = ((gt a0 a1).path)))), .inr 18, .inl ((decide (0 < a1)) && (!(pathLess ((gt a0 (if ((IntKind.wrap .i64 (a1 - 1)) < 0 : Prop) then 0 else (IntKind.wrap .i64 (a1 - 1)))).path) ((gt a0 a1).path)))), .inr 11, .inl (decide ((0 : Int) < 0)), .inr 12, .inl ((!decide ((parentP ((gt a0 a1).path)) = ([] : List UInt8))) && (!decide (((gt a0 (if (0 < 0 : Prop) then 0 else 0)).kind) = 3))), .inr 13] : List (Bool ⊕ Int)))] : List (Bool ⊕ Int)))), LEq (.int .i64 (firstOf ([.inl (decide (16 ≤ a1)), .inr 6, .inl true, .inr (firstOf ([.inl (!(decide (recFault (gt a0 a1) = 0))), .inr (recFault (gt a0 a1)), .inl ((decide (0 < a1)) && (decide (((gt a0 (if ((IntKind.wrap .i64 (a1 - 1)) < 0 : Prop) then 0 else (IntKind.wrap .i64 (a1 - 1)))).path) = ((gt a0 a1).path)))), .inr 18, .inl ((decide (0 < a1)) && (!(pathLess ((gt a0 (if ((IntKind.wrap .i64 (a1 - 1)) < 0 : Prop) then 0 else (IntKind.wrap .i64 (a1 - 1)))).path) ((gt a0 a1).path)))), .inr 11, .inl (decide ((0 : Int) < 0)), .inr 12, .inl ((!decide ((parentP ((gt a0 a1).path)) = ([] : List UInt8))) && (!decide (((gt a0 (if (0 < 0 : Prop) then 0 else 0)).kind) = 3))), .inr 13] : List (Bool ⊕ Int)))] : List (Bool ⊕ Int))))] (by kernel_rfl) (by kernel_rfl) ⟨LEq.mono, LEq.mono, LEq.mono, LEq.mono, LEq.mono, LEq.mono, LEq.mono, LEq.mono, LEq.mono, LEq.mono, LEq.mono, LEq.mono, LEq.mono, LEq.mono, LEq.mono, (LIf.mono LEq.mono), (LIf.mono LEq.mono), (LIf.mono LEq.mono), (LIf.mono LEq.mono), (LIf.mono LAt0.mono), (LIf.mono LAt.mono), (LIf.mono LEq.mono), (LIf.mono LEq.mono), (LIf.mono LEq.mono), (LIf.mono LEq.mono), LEq.mono, LEq.mono, LEq.mono, LEq.mono, LEq.mono, LEq.mono, (LIf.mono LEq.mono), (LIf.mono LEq.mono), (LIf.mono LEq.mono), (LIf.mono LEq.mono), (LIf.mono LAt0.mono), (LIf.mono LAt.mono), (LIf.mono LEq.mono), (LIf.mono LEq.mono), (LIf.mono LEq.mono), (LIf.mono LEq.mono), (LIf.mono LEq.mono), LEq.mono, LEq.mono, LEq.mono, LEq.mono, LEq.mono, LEq.mono, LEq.mono, LEq.mono, LEq.mono, LEq.mono, LEq.mono, LEq.mono, (LIf.mono LEq.mono), (LIf.mono LEq.mono), (LIf.mono LEq.mono), (LIf.mono LAt0.mono), (LIf.mono LAt.mono), (LIf.mono LEq.mono), (LIf.mono LEq.mono), LEq.mono, LEq.mono, LEq.mono, LRd.mono, LEq.mono, LEq.mono, LRd.mono, LEq.mono, LEq.mono, trivial⟩ ⟨?_, ?_, ?_, ?_, ?_, ?_, ?_, ?_, ?_, ?_, ?_, ?_, ?_, ?_, ?_, ?_, ?_, ?_, ?_, ?_, ?_, ?_, ?_, ?_, ?_, ?_, ?_, ?_, ?_, ?_, ?_, ?_, ?_, ?_, ?_, ?_, ?_, ?_, ?_, ?_, ?_, ?_, ?_, ?_, ?_, ?_, ?_, ?_, ?_, ?_, ?_, ?_, ?_, ?_, ?_, ?_, ?_, ?_, ?_, ?_, ?_, ?_, ?_, ?_, ?_, ?_, ?_, ?_, ?_, ?_, trivial⟩ ?_
    · intro s813 w814 e815 hf816 hd817 hu818
      exact L_op (.plain rfl) rfl (ltb rfl) (X_move (v := (.int .i64 a1)) (hf816 1 rfl)) <| L_nil <| stepEnd rfl rfl (Ext.refl w814) rfl
    · intro s819 w820 e821 hf822 hd823 hu824
      have d825 : s819 22 = (.int .i64 a1) := (hd823 0 rfl)
      exact L_op (.plain rfl) rfl (ltb rfl) (X_geq d825 rfl) <| L_nil <| stepEnd rfl rfl (Ext.refl w820) rfl
    · intro s826 w827 e828 hf829 hd830 hu831
      have d832 : s826 23 = (.bool (decide (16 ≤ a1))) := (hd830 1 rfl)
      exact L_op (.plain rfl) rfl (ltb rfl) (X_mkiface Tryd.underlying4 rfl d832) <| L_nil <| stepEnd rfl rfl (Ext.refl w827) rfl
    · intro s833 w834 e835 hf836 hd837 hu838
      exact L_op (.plain rfl) rfl (ltb rfl) (X_mkiface Tryd.underlying3 rfl rfl) <| L_nil <| stepEnd rfl rfl (Ext.refl w834) rfl
    · intro s839 w840 e841 hf842 hd843 hu844
      exact L_op (.plain rfl) rfl (ltb rfl) (X_mkiface Tryd.underlying4 rfl rfl) <| L_nil <| stepEnd rfl rfl (Ext.refl w840) rfl
    · intro s845 w846 e847 hf848 hd849 hu850
      exact L_op (.plain rfl) rfl (ltb rfl) (X_loadS Tryd.isAgg23 Tryd.sizeOf23 rfl (hf848 5 rfl) (Blk.at0 (Blk.ext k12 (Ext.trans e15 e847)))) <| L_nil <| stepEnd rfl rfl (Ext.refl w846) rfl
    · intro s851 w852 e853 hf854 hd855 hu856
      have d857 : s851 27 = (.agg #[(.int .i64 ((gt a0 a1).kind)), (S ((gt a0 a1).path)), (S ((gt a0 a1).body)), (.int .i64 ((gt a0 a1).mode)), (.bool ((gt a0 a1).opq))]) := (hd855 5 rfl)
      exact L_callP (.plain rfl) rfl (ltb rfl) rfl Tryd.call85 (impl_RecordOK.calls (w := w852) (a0 := (gt a0 a1)) (GV.ext gv (Ext.trans (Ext.trans (Below.trans e8 (Wr.below h11 (Nat.le_of_eq z6))) e15) e853))) (cons2 d857 rfl) <| fun w858 e859 => L_nil <| stepEnd rfl rfl e859 rfl
    · intro s860 w861 e862 hf863 hd864 hu865
      have d866 : s860 28 = (.bool (decide (recFault (gt a0 a1) = 0))) := (hd864 6 rfl)
      exact L_op (.plain rfl) rfl (ltb rfl) (X_not d866) <| L_nil <| stepEnd rfl rfl (Ext.refl w861) rfl
    · intro s867 w868 e869 hf870 hd871 hu872
      have d873 : s867 29 = (.bool (!(decide (recFault (gt a0 a1) = 0)))) := (hd871 7 rfl)
      exact L_op (.plain rfl) rfl (ltb rfl) (X_mkiface Tryd.underlying4 rfl d873) <| L_nil <| stepEnd rfl rfl (Ext.refl w868) rfl
    · intro s874 w875 e876 hf877 hd878 hu879
      exact L_op (.plain rfl) rfl (ltb rfl) (X_loadS Tryd.isAgg23 Tryd.sizeOf23 rfl (hf877 5 rfl) (Blk.at0 (Blk.ext k12 (Ext.trans e15 e876)))) <| L_nil <| stepEnd rfl rfl (Ext.refl w875) rfl
    · intro s880 w881 e882 hf883 hd884 hu885
      have d886 : s880 31 = (.agg #[(.int .i64 ((gt a0 a1).kind)), (S ((gt a0 a1).path)), (S ((gt a0 a1).body)), (.int .i64 ((gt a0 a1).mode)), (.bool ((gt a0 a1).opq))]) := (hd884 9 rfl)
      exact L_callP (.plain rfl) rfl (ltb rfl) rfl Tryd.call74 (impl_RecordFault.calls (w := w881) (a0 := (gt a0 a1)) (GV.ext gv (Ext.trans (Ext.trans (Below.trans e8 (Wr.below h11 (Nat.le_of_eq z6))) e15) e882))) (cons2 d886 rfl) <| fun w887 e888 => L_nil <| stepEnd rfl rfl e888 rfl
    · intro s889 w890 e891 hf892 hd893 hu894
      have d895 : s889 32 = (.int .i64 (recFault (gt a0 a1))) := (hd893 10 rfl)
      exact L_op (.plain rfl) rfl (ltb rfl) (X_mkiface Tryd.underlying3 rfl d895) <| L_nil <| stepEnd rfl rfl (Ext.refl w890) rfl
    · intro s896 w897 e898 hf899 hd900 hu901
      exact L_op (.plain rfl) rfl (ltb rfl) (X_move (v := (.int .i64 a1)) (hf899 1 rfl)) <| L_nil <| stepEnd rfl rfl (Ext.refl w897) rfl
    · intro s902 w903 e904 hf905 hd906 hu907
      have d908 : s902 34 = (.int .i64 a1) := (hd906 12 rfl)
      exact L_op (.plain rfl) rfl (ltb rfl) (X_gtr d908 rfl) <| L_nil <| stepEnd rfl rfl (Ext.refl w903) rfl
    · intro s909 w910 e911 hf912 hd913 hu914
      have d915 : s909 35 = (.bool (decide (0 < a1))) := (hd913 13 rfl)
      exact L_op (.plain rfl) rfl (ltb rfl) (X_move (v := (.bool (decide (0 < a1)))) d915) <| L_nil <| stepEnd rfl rfl (Ext.refl w910) rfl
    · intro s916 w917 e918 hf919 hd920 hu921
      rcases bool_two (decide (0 < a1)) with b922 | b922
      · have g923 : (decide (0 < a1)) = true := b922
        have d924 : s916 36 = (.bool (decide (0 < a1))) := (hd920 14 rfl)
        have d925 : s916 36 = (.bool (decide (0 < a1))) := (hd920 14 rfl)
        exact L_op (.guard 14 true 36 rfl rfl (ltb rfl) (d924.trans (congrArg Value.bool g923))) rfl (ltb rfl) (X_move (v := v_a0) (hf919 0 rfl)) <| L_nil <| stepEnd rfl rfl (Ext.refl w917) ⟨fun _ => rfl, fun h => absurd (b922.symm.trans h) (by decide)⟩
      · have d926 : s916 36 = (.bool (decide (0 < a1))) := (hd920 14 rfl)
        have g927 : (decide (0 < a1)) = false := b922
        exact L_skip rfl rfl (ltb rfl) (d926.trans (congrArg Value.bool g927)) rfl rfl (ltb rfl) <| L_nil <| stepEnd rfl rfl (Ext.refl w917) ⟨fun h => absurd (b922.symm.trans h) (by decide), fun _ => rfl⟩
    · intro s928 w929 e930 hf931 hd932 hu933
      rcases bool_two (decide (0 < a1)) with b934 | b934
      · have g935 : (decide (0 < a1)) = true := b934
        have d936 : s928 36 = (.bool (decide (0 < a1))) := (hd932 14 rfl)
        have d937 : s928 36 = (.bool (decide (0 < a1))) := (hd932 14 rfl)
        exact L_op (.guard 14 true 36 rfl rfl (ltb rfl) (d936.trans (congrArg Value.bool g935))) rfl (ltb rfl) (X_move (v := (.int .i64 a1)) (hf931 1 rfl)) <| L_nil <| stepEnd rfl rfl (Ext.refl w929) ⟨fun _ => rfl, fun h => absurd (b934.symm.trans h) (by decide)⟩
      · have d938 : s928 36 = (.bool (decide (0 < a1))) := (hd932 14 rfl)
        have g939 : (decide (0 < a1)) = false := b934
        exact L_skip rfl rfl (ltb rfl) (d938.trans (congrArg Value.bool g939)) rfl rfl (ltb rfl) <| L_nil <| stepEnd rfl rfl (Ext.refl w929) ⟨fun h => absurd (b934.symm.trans h) (by decide), fun _ => rfl⟩
    · intro s940 w941 e942 hf943 hd944 hu945
      rcases bool_two (decide (0 < a1)) with b946 | b946
      · have g947 : (decide (0 < a1)) = true := b946
        have d948 : s940 36 = (.bool (decide (0 < a1))) := (hd944 14 rfl)
        have d949 : s940 36 = (.bool (decide (0 < a1))) := (hd944 14 rfl)
        have d950 : s940 38 = (.int .i64 a1) := ((hd944 16 rfl).1 b946)
        exact L_op (.guard 14 true 36 rfl rfl (ltb rfl) (d948.trans (congrArg Value.bool g947))) rfl (ltb rfl) (X_sub d950 rfl) <| L_nil <| stepEnd rfl rfl (Ext.refl w941) ⟨fun _ => rfl, fun h => absurd (b946.symm.trans h) (by decide)⟩
      · have d951 : s940 36 = (.bool (decide (0 < a1))) := (hd944 14 rfl)
        have g952 : (decide (0 < a1)) = false := b946
        exact L_skip rfl rfl (ltb rfl) (d951.trans (congrArg Value.bool g952)) rfl rfl (ltb rfl) <| L_nil <| stepEnd rfl rfl (Ext.refl w941) ⟨fun h => absurd (b946.symm.trans h) (by decide), fun _ => rfl⟩
    · intro s953 w954 e955 hf956 hd957 hu958
      rcases bool_two (decide (0 < a1)) with b959 | b959
      · have g960 : (decide (0 < a1)) = true := b959
        have d961 : s953 36 = (.bool (decide (0 < a1))) := (hd957 14 rfl)
        have d962 : s953 36 = (.bool (decide (0 < a1))) := (hd957 14 rfl)
        have d963 : s953 39 = (.int .i64 (IntKind.wrap .i64 (a1 - 1))) := ((hd957 17 rfl).1 b959)
        exact L_op (.guard 14 true 36 rfl rfl (ltb rfl) (d961.trans (congrArg Value.bool g960))) rfl (ltb rfl) (X_max d963 rfl) <| L_nil <| stepEnd rfl rfl (Ext.refl w954) ⟨fun _ => rfl, fun h => absurd (b959.symm.trans h) (by decide)⟩
      · have d964 : s953 36 = (.bool (decide (0 < a1))) := (hd957 14 rfl)
        have g965 : (decide (0 < a1)) = false := b959
        exact L_skip rfl rfl (ltb rfl) (d964.trans (congrArg Value.bool g965)) rfl rfl (ltb rfl) <| L_nil <| stepEnd rfl rfl (Ext.refl w954) ⟨fun h => absurd (b959.symm.trans h) (by decide), fun _ => rfl⟩
    · intro s966 w967 e968 hf969 hd970 hu971
      rcases bool_two (decide (0 < a1)) with b972 | b972
      · have g973 : (decide (0 < a1)) = true := b972
        have d974 : s966 36 = (.bool (decide (0 < a1))) := (hd970 14 rfl)
        have d975 : s966 36 = (.bool (decide (0 < a1))) := (hd970 14 rfl)
        have d976 : s966 37 = v_a0 := ((hd970 15 rfl).1 b972)
        have d977 : s966 40 = (.int .i64 (if ((IntKind.wrap .i64 (a1 - 1)) < 0 : Prop) then 0 else (IntKind.wrap .i64 (a1 - 1)))) := ((hd970 18 rfl).1 b972)
        have c978 := imp_take b972 c784
        exact L_idx (.guard 14 true 36 rfl rfl (ltb rfl) (d974.trans (congrArg Value.bool g973))) rfl (ltb rfl) rfl Tryd.underlying48 Tryd.sizeOf23 d976 (Rd.ext f_a0 (Ext.trans (Ext.trans (Below.trans e8 (Wr.below h11 (Nat.le_of_eq z6))) e15) e968)) d977 c978 <| fun p979 h980 => L_nil <| stepEnd rfl rfl (Ext.refl w967) ⟨fun _ => ⟨_, rfl, h980⟩, fun h => absurd (b972.symm.trans h) (by decide)⟩
      · have d981 : s966 36 = (.bool (decide (0 < a1))) := (hd970 14 rfl)
        have g982 : (decide (0 < a1)) = false := b972
        exact L_skip rfl rfl (ltb rfl) (d981.trans (congrArg Value.bool g982)) rfl rfl (ltb rfl) <| L_nil <| stepEnd rfl rfl (Ext.refl w967) ⟨fun h => absurd (b972.symm.trans h) (by decide), fun _ => rfl⟩
    · intro s983 w984 e985 hf986 hd987 hu988
      rcases bool_two (decide (0 < a1)) with b989 | b989
      · have g990 : (decide (0 < a1)) = true := b989
        have d991 : s983 36 = (.bool (decide (0 < a1))) := (hd987 14 rfl)
        have d992 : s983 36 = (.bool (decide (0 < a1))) := (hd987 14 rfl)
        obtain ⟨p993, h994, h995⟩ := ((hd987 19 rfl).1 b989)
        exact L_op (.guard 14 true 36 rfl rfl (ltb rfl) (d991.trans (congrArg Value.bool g990))) rfl (ltb rfl) (X_fieldAddr Tryd.underlying23 rfl Tryd.sizeOf9 rfl h994) <| L_nil <| stepEnd rfl rfl (Ext.refl w984) ⟨fun _ => ⟨_, rfl, h995⟩, fun h => absurd (b989.symm.trans h) (by decide)⟩
      · have d996 : s983 36 = (.bool (decide (0 < a1))) := (hd987 14 rfl)
        have g997 : (decide (0 < a1)) = false := b989
        exact L_skip rfl rfl (ltb rfl) (d996.trans (congrArg Value.bool g997)) rfl rfl (ltb rfl) <| L_nil <| stepEnd rfl rfl (Ext.refl w984) ⟨fun h => absurd (b989.symm.trans h) (by decide), fun _ => rfl⟩
    · intro s998 w999 e1000 hf1001 hd1002 hu1003
      rcases bool_two (decide (0 < a1)) with b1004 | b1004
      · have g1005 : (decide (0 < a1)) = true := b1004
        have d1006 : s998 36 = (.bool (decide (0 < a1))) := (hd1002 14 rfl)
        have d1007 : s998 36 = (.bool (decide (0 < a1))) := (hd1002 14 rfl)
        obtain ⟨p1008, h1009, h1010⟩ := ((hd1002 20 rfl).1 b1004)
        exact L_op (.guard 14 true 36 rfl rfl (ltb rfl) (d1006.trans (congrArg Value.bool g1005))) rfl (ltb rfl) (X_loadF Tryd.isAgg9 (j := 1) h1010 h1009 rfl) <| L_nil <| stepEnd rfl rfl (Ext.refl w999) ⟨fun _ => rfl, fun h => absurd (b1004.symm.trans h) (by decide)⟩
      · have d1011 : s998 36 = (.bool (decide (0 < a1))) := (hd1002 14 rfl)
        have g1012 : (decide (0 < a1)) = false := b1004
        exact L_skip rfl rfl (ltb rfl) (d1011.trans (congrArg Value.bool g1012)) rfl rfl (ltb rfl) <| L_nil <| stepEnd rfl rfl (Ext.refl w999) ⟨fun h => absurd (b1004.symm.trans h) (by decide), fun _ => rfl⟩
    · intro s1013 w1014 e1015 hf1016 hd1017 hu1018
      rcases bool_two (decide (0 < a1)) with b1019 | b1019
      · have g1020 : (decide (0 < a1)) = true := b1019
        have d1021 : s1013 36 = (.bool (decide (0 < a1))) := (hd1017 14 rfl)
        have d1022 : s1013 36 = (.bool (decide (0 < a1))) := (hd1017 14 rfl)
        exact L_op (.guard 14 true 36 rfl rfl (ltb rfl) (d1021.trans (congrArg Value.bool g1020))) rfl (ltb rfl) (X_fieldAddr Tryd.underlying23 rfl Tryd.sizeOf9 rfl (hf1016 5 rfl)) <| L_nil <| stepEnd rfl rfl (Ext.refl w1014) ⟨fun _ => rfl, fun h => absurd (b1019.symm.trans h) (by decide)⟩
      · have d1023 : s1013 36 = (.bool (decide (0 < a1))) := (hd1017 14 rfl)
        have g1024 : (decide (0 < a1)) = false := b1019
        exact L_skip rfl rfl (ltb rfl) (d1023.trans (congrArg Value.bool g1024)) rfl rfl (ltb rfl) <| L_nil <| stepEnd rfl rfl (Ext.refl w1014) ⟨fun h => absurd (b1019.symm.trans h) (by decide), fun _ => rfl⟩
    · intro s1025 w1026 e1027 hf1028 hd1029 hu1030
      rcases bool_two (decide (0 < a1)) with b1031 | b1031
      · have g1032 : (decide (0 < a1)) = true := b1031
        have d1033 : s1025 36 = (.bool (decide (0 < a1))) := (hd1029 14 rfl)
        have d1034 : s1025 36 = (.bool (decide (0 < a1))) := (hd1029 14 rfl)
        have d1035 : s1025 44 = (.pointer (some ⟨b4, 1, none⟩)) := ((hd1029 22 rfl).1 b1031)
        exact L_op (.guard 14 true 36 rfl rfl (ltb rfl) (d1033.trans (congrArg Value.bool g1032))) rfl (ltb rfl) (X_loadB Tryd.isAgg9 (Blk.ext k12 (Ext.trans e15 e1027)) d1035 rfl) <| L_nil <| stepEnd rfl rfl (Ext.refl w1026) ⟨fun _ => rfl, fun h => absurd (b1031.symm.trans h) (by decide)⟩
      · have d1036 : s1025 36 = (.bool (decide (0 < a1))) := (hd1029 14 rfl)
        have g1037 : (decide (0 < a1)) = false := b1031
        exact L_skip rfl rfl (ltb rfl) (d1036.trans (congrArg Value.bool g1037)) rfl rfl (ltb rfl) <| L_nil <| stepEnd rfl rfl (Ext.refl w1026) ⟨fun h => absurd (b1031.symm.trans h) (by decide), fun _ => rfl⟩
    · intro s1038 w1039 e1040 hf1041 hd1042 hu1043
      rcases bool_two (decide (0 < a1)) with b1044 | b1044
      · have g1045 : (decide (0 < a1)) = true := b1044
        have d1046 : s1038 36 = (.bool (decide (0 < a1))) := (hd1042 14 rfl)
        have d1047 : s1038 36 = (.bool (decide (0 < a1))) := (hd1042 14 rfl)
        have d1048 : s1038 43 = (S ((gt a0 (if ((IntKind.wrap .i64 (a1 - 1)) < 0 : Prop) then 0 else (IntKind.wrap .i64 (a1 - 1)))).path)) := ((hd1042 21 rfl).1 b1044)
        have d1049 : s1038 45 = (S ((gt a0 a1).path)) := ((hd1042 23 rfl).1 b1044)
        exact L_op (.guard 14 true 36 rfl rfl (ltb rfl) (d1046.trans (congrArg Value.bool g1045))) rfl (ltb rfl) (X_seq d1048 d1049) <| L_nil <| stepEnd rfl rfl (Ext.refl w1039) ⟨fun _ => rfl, fun h => absurd (b1044.symm.trans h) (by decide)⟩
      · have d1050 : s1038 36 = (.bool (decide (0 < a1))) := (hd1042 14 rfl)
        have g1051 : (decide (0 < a1)) = false := b1044
        exact L_skip rfl rfl (ltb rfl) (d1050.trans (congrArg Value.bool g1051)) rfl rfl (ltb rfl) <| L_nil <| stepEnd rfl rfl (Ext.refl w1039) ⟨fun h => absurd (b1044.symm.trans h) (by decide), fun _ => rfl⟩
    · intro s1052 w1053 e1054 hf1055 hd1056 hu1057
      rcases bool_two (decide (0 < a1)) with b1058 | b1058
      · have d1059 : s1052 36 = (.bool (decide (0 < a1))) := (hd1056 14 rfl)
        have d1060 : s1052 46 = (.bool (decide (((gt a0 (if ((IntKind.wrap .i64 (a1 - 1)) < 0 : Prop) then 0 else (IntKind.wrap .i64 (a1 - 1)))).path) = ((gt a0 a1).path)))) := ((hd1056 24 rfl).1 b1058)
        exact L_op (.plain rfl) rfl (ltb rfl) (X_pick (b := true) (v := (.bool (decide (((gt a0 (if ((IntKind.wrap .i64 (a1 - 1)) < 0 : Prop) then 0 else (IntKind.wrap .i64 (a1 - 1)))).path) = ((gt a0 a1).path))))) (d1059.trans (congrArg Value.bool b1058)) d1060) <| L_nil <| stepEnd rfl rfl (Ext.refl w1053) (by show _ = _; rw [b1058]; rfl)
      · have d1061 : s1052 36 = (.bool (decide (0 < a1))) := (hd1056 14 rfl)
        exact L_op (.plain rfl) rfl (ltb rfl) (X_pick (b := false) (v := (.bool false)) (d1061.trans (congrArg Value.bool b1058)) rfl) <| L_nil <| stepEnd rfl rfl (Ext.refl w1053) (by show _ = _; rw [b1058]; rfl)
    · intro s1062 w1063 e1064 hf1065 hd1066 hu1067
      have d1068 : s1062 47 = (.bool ((decide (0 < a1)) && (decide (((gt a0 (if ((IntKind.wrap .i64 (a1 - 1)) < 0 : Prop) then 0 else (IntKind.wrap .i64 (a1 - 1)))).path) = ((gt a0 a1).path))))) := (hd1066 25 rfl)
      exact L_op (.plain rfl) rfl (ltb rfl) (X_mkiface Tryd.underlying4 rfl d1068) <| L_nil <| stepEnd rfl rfl (Ext.refl w1063) rfl
    · intro s1069 w1070 e1071 hf1072 hd1073 hu1074
      exact L_op (.plain rfl) rfl (ltb rfl) (X_mkiface Tryd.underlying3 rfl rfl) <| L_nil <| stepEnd rfl rfl (Ext.refl w1070) rfl
    · intro s1075 w1076 e1077 hf1078 hd1079 hu1080
      exact L_op (.plain rfl) rfl (ltb rfl) (X_move (v := (.int .i64 a1)) (hf1078 1 rfl)) <| L_nil <| stepEnd rfl rfl (Ext.refl w1076) rfl
    · intro s1081 w1082 e1083 hf1084 hd1085 hu1086
      have d1087 : s1081 50 = (.int .i64 a1) := (hd1085 28 rfl)
      exact L_op (.plain rfl) rfl (ltb rfl) (X_gtr d1087 rfl) <| L_nil <| stepEnd rfl rfl (Ext.refl w1082) rfl
    · intro s1088 w1089 e1090 hf1091 hd1092 hu1093
      have d1094 : s1088 51 = (.bool (decide (0 < a1))) := (hd1092 29 rfl)
      exact L_op (.plain rfl) rfl (ltb rfl) (X_move (v := (.bool (decide (0 < a1)))) d1094) <| L_nil <| stepEnd rfl rfl (Ext.refl w1089) rfl
    · intro s1095 w1096 e1097 hf1098 hd1099 hu1100
      rcases bool_two (decide (0 < a1)) with b1101 | b1101
      · have g1102 : (decide (0 < a1)) = true := b1101
        have d1103 : s1095 52 = (.bool (decide (0 < a1))) := (hd1099 30 rfl)
        have d1104 : s1095 52 = (.bool (decide (0 < a1))) := (hd1099 30 rfl)
        exact L_op (.guard 30 true 52 rfl rfl (ltb rfl) (d1103.trans (congrArg Value.bool g1102))) rfl (ltb rfl) (X_move (v := v_a0) (hf1098 0 rfl)) <| L_nil <| stepEnd rfl rfl (Ext.refl w1096) ⟨fun _ => rfl, fun h => absurd (b1101.symm.trans h) (by decide)⟩
      · have d1105 : s1095 52 = (.bool (decide (0 < a1))) := (hd1099 30 rfl)
        have g1106 : (decide (0 < a1)) = false := b1101
        exact L_skip rfl rfl (ltb rfl) (d1105.trans (congrArg Value.bool g1106)) rfl rfl (ltb rfl) <| L_nil <| stepEnd rfl rfl (Ext.refl w1096) ⟨fun h => absurd (b1101.symm.trans h) (by decide), fun _ => rfl⟩
    · intro s1107 w1108 e1109 hf1110 hd1111 hu1112
      rcases bool_two (decide (0 < a1)) with b1113 | b1113
      · have g1114 : (decide (0 < a1)) = true := b1113
        have d1115 : s1107 52 = (.bool (decide (0 < a1))) := (hd1111 30 rfl)
        have d1116 : s1107 52 = (.bool (decide (0 < a1))) := (hd1111 30 rfl)
        exact L_op (.guard 30 true 52 rfl rfl (ltb rfl) (d1115.trans (congrArg Value.bool g1114))) rfl (ltb rfl) (X_move (v := (.int .i64 a1)) (hf1110 1 rfl)) <| L_nil <| stepEnd rfl rfl (Ext.refl w1108) ⟨fun _ => rfl, fun h => absurd (b1113.symm.trans h) (by decide)⟩
      · have d1117 : s1107 52 = (.bool (decide (0 < a1))) := (hd1111 30 rfl)
        have g1118 : (decide (0 < a1)) = false := b1113
        exact L_skip rfl rfl (ltb rfl) (d1117.trans (congrArg Value.bool g1118)) rfl rfl (ltb rfl) <| L_nil <| stepEnd rfl rfl (Ext.refl w1108) ⟨fun h => absurd (b1113.symm.trans h) (by decide), fun _ => rfl⟩
    · intro s1119 w1120 e1121 hf1122 hd1123 hu1124
      rcases bool_two (decide (0 < a1)) with b1125 | b1125
      · have g1126 : (decide (0 < a1)) = true := b1125
        have d1127 : s1119 52 = (.bool (decide (0 < a1))) := (hd1123 30 rfl)
        have d1128 : s1119 52 = (.bool (decide (0 < a1))) := (hd1123 30 rfl)
        have d1129 : s1119 54 = (.int .i64 a1) := ((hd1123 32 rfl).1 b1125)
        exact L_op (.guard 30 true 52 rfl rfl (ltb rfl) (d1127.trans (congrArg Value.bool g1126))) rfl (ltb rfl) (X_sub d1129 rfl) <| L_nil <| stepEnd rfl rfl (Ext.refl w1120) ⟨fun _ => rfl, fun h => absurd (b1125.symm.trans h) (by decide)⟩
      · have d1130 : s1119 52 = (.bool (decide (0 < a1))) := (hd1123 30 rfl)
        have g1131 : (decide (0 < a1)) = false := b1125
        exact L_skip rfl rfl (ltb rfl) (d1130.trans (congrArg Value.bool g1131)) rfl rfl (ltb rfl) <| L_nil <| stepEnd rfl rfl (Ext.refl w1120) ⟨fun h => absurd (b1125.symm.trans h) (by decide), fun _ => rfl⟩
    · intro s1132 w1133 e1134 hf1135 hd1136 hu1137
      rcases bool_two (decide (0 < a1)) with b1138 | b1138
      · have g1139 : (decide (0 < a1)) = true := b1138
        have d1140 : s1132 52 = (.bool (decide (0 < a1))) := (hd1136 30 rfl)
        have d1141 : s1132 52 = (.bool (decide (0 < a1))) := (hd1136 30 rfl)
        have d1142 : s1132 55 = (.int .i64 (IntKind.wrap .i64 (a1 - 1))) := ((hd1136 33 rfl).1 b1138)
        exact L_op (.guard 30 true 52 rfl rfl (ltb rfl) (d1140.trans (congrArg Value.bool g1139))) rfl (ltb rfl) (X_max d1142 rfl) <| L_nil <| stepEnd rfl rfl (Ext.refl w1133) ⟨fun _ => rfl, fun h => absurd (b1138.symm.trans h) (by decide)⟩
      · have d1143 : s1132 52 = (.bool (decide (0 < a1))) := (hd1136 30 rfl)
        have g1144 : (decide (0 < a1)) = false := b1138
        exact L_skip rfl rfl (ltb rfl) (d1143.trans (congrArg Value.bool g1144)) rfl rfl (ltb rfl) <| L_nil <| stepEnd rfl rfl (Ext.refl w1133) ⟨fun h => absurd (b1138.symm.trans h) (by decide), fun _ => rfl⟩
    · intro s1145 w1146 e1147 hf1148 hd1149 hu1150
      rcases bool_two (decide (0 < a1)) with b1151 | b1151
      · have g1152 : (decide (0 < a1)) = true := b1151
        have d1153 : s1145 52 = (.bool (decide (0 < a1))) := (hd1149 30 rfl)
        have d1154 : s1145 52 = (.bool (decide (0 < a1))) := (hd1149 30 rfl)
        have d1155 : s1145 53 = v_a0 := ((hd1149 31 rfl).1 b1151)
        have d1156 : s1145 56 = (.int .i64 (if ((IntKind.wrap .i64 (a1 - 1)) < 0 : Prop) then 0 else (IntKind.wrap .i64 (a1 - 1)))) := ((hd1149 34 rfl).1 b1151)
        have c1157 := imp_take b1151 c784
        exact L_idx (.guard 30 true 52 rfl rfl (ltb rfl) (d1153.trans (congrArg Value.bool g1152))) rfl (ltb rfl) rfl Tryd.underlying48 Tryd.sizeOf23 d1155 (Rd.ext f_a0 (Ext.trans (Ext.trans (Below.trans e8 (Wr.below h11 (Nat.le_of_eq z6))) e15) e1147)) d1156 c1157 <| fun p1158 h1159 => L_nil <| stepEnd rfl rfl (Ext.refl w1146) ⟨fun _ => ⟨_, rfl, h1159⟩, fun h => absurd (b1151.symm.trans h) (by decide)⟩
      · have d1160 : s1145 52 = (.bool (decide (0 < a1))) := (hd1149 30 rfl)
        have g1161 : (decide (0 < a1)) = false := b1151
        exact L_skip rfl rfl (ltb rfl) (d1160.trans (congrArg Value.bool g1161)) rfl rfl (ltb rfl) <| L_nil <| stepEnd rfl rfl (Ext.refl w1146) ⟨fun h => absurd (b1151.symm.trans h) (by decide), fun _ => rfl⟩
    · intro s1162 w1163 e1164 hf1165 hd1166 hu1167
      rcases bool_two (decide (0 < a1)) with b1168 | b1168
      · have g1169 : (decide (0 < a1)) = true := b1168
        have d1170 : s1162 52 = (.bool (decide (0 < a1))) := (hd1166 30 rfl)
        have d1171 : s1162 52 = (.bool (decide (0 < a1))) := (hd1166 30 rfl)
        obtain ⟨p1172, h1173, h1174⟩ := ((hd1166 35 rfl).1 b1168)
        exact L_op (.guard 30 true 52 rfl rfl (ltb rfl) (d1170.trans (congrArg Value.bool g1169))) rfl (ltb rfl) (X_fieldAddr Tryd.underlying23 rfl Tryd.sizeOf9 rfl h1173) <| L_nil <| stepEnd rfl rfl (Ext.refl w1163) ⟨fun _ => ⟨_, rfl, h1174⟩, fun h => absurd (b1168.symm.trans h) (by decide)⟩
      · have d1175 : s1162 52 = (.bool (decide (0 < a1))) := (hd1166 30 rfl)
        have g1176 : (decide (0 < a1)) = false := b1168
        exact L_skip rfl rfl (ltb rfl) (d1175.trans (congrArg Value.bool g1176)) rfl rfl (ltb rfl) <| L_nil <| stepEnd rfl rfl (Ext.refl w1163) ⟨fun h => absurd (b1168.symm.trans h) (by decide), fun _ => rfl⟩
    · intro s1177 w1178 e1179 hf1180 hd1181 hu1182
      rcases bool_two (decide (0 < a1)) with b1183 | b1183
      · have g1184 : (decide (0 < a1)) = true := b1183
        have d1185 : s1177 52 = (.bool (decide (0 < a1))) := (hd1181 30 rfl)
        have d1186 : s1177 52 = (.bool (decide (0 < a1))) := (hd1181 30 rfl)
        obtain ⟨p1187, h1188, h1189⟩ := ((hd1181 36 rfl).1 b1183)
        exact L_op (.guard 30 true 52 rfl rfl (ltb rfl) (d1185.trans (congrArg Value.bool g1184))) rfl (ltb rfl) (X_loadF Tryd.isAgg9 (j := 1) h1189 h1188 rfl) <| L_nil <| stepEnd rfl rfl (Ext.refl w1178) ⟨fun _ => rfl, fun h => absurd (b1183.symm.trans h) (by decide)⟩
      · have d1190 : s1177 52 = (.bool (decide (0 < a1))) := (hd1181 30 rfl)
        have g1191 : (decide (0 < a1)) = false := b1183
        exact L_skip rfl rfl (ltb rfl) (d1190.trans (congrArg Value.bool g1191)) rfl rfl (ltb rfl) <| L_nil <| stepEnd rfl rfl (Ext.refl w1178) ⟨fun h => absurd (b1183.symm.trans h) (by decide), fun _ => rfl⟩
    · intro s1192 w1193 e1194 hf1195 hd1196 hu1197
      rcases bool_two (decide (0 < a1)) with b1198 | b1198
      · have g1199 : (decide (0 < a1)) = true := b1198
        have d1200 : s1192 52 = (.bool (decide (0 < a1))) := (hd1196 30 rfl)
        have d1201 : s1192 52 = (.bool (decide (0 < a1))) := (hd1196 30 rfl)
        exact L_op (.guard 30 true 52 rfl rfl (ltb rfl) (d1200.trans (congrArg Value.bool g1199))) rfl (ltb rfl) (X_fieldAddr Tryd.underlying23 rfl Tryd.sizeOf9 rfl (hf1195 5 rfl)) <| L_nil <| stepEnd rfl rfl (Ext.refl w1193) ⟨fun _ => rfl, fun h => absurd (b1198.symm.trans h) (by decide)⟩
      · have d1202 : s1192 52 = (.bool (decide (0 < a1))) := (hd1196 30 rfl)
        have g1203 : (decide (0 < a1)) = false := b1198
        exact L_skip rfl rfl (ltb rfl) (d1202.trans (congrArg Value.bool g1203)) rfl rfl (ltb rfl) <| L_nil <| stepEnd rfl rfl (Ext.refl w1193) ⟨fun h => absurd (b1198.symm.trans h) (by decide), fun _ => rfl⟩
    · intro s1204 w1205 e1206 hf1207 hd1208 hu1209
      rcases bool_two (decide (0 < a1)) with b1210 | b1210
      · have g1211 : (decide (0 < a1)) = true := b1210
        have d1212 : s1204 52 = (.bool (decide (0 < a1))) := (hd1208 30 rfl)
        have d1213 : s1204 52 = (.bool (decide (0 < a1))) := (hd1208 30 rfl)
        have d1214 : s1204 60 = (.pointer (some ⟨b4, 1, none⟩)) := ((hd1208 38 rfl).1 b1210)
        exact L_op (.guard 30 true 52 rfl rfl (ltb rfl) (d1212.trans (congrArg Value.bool g1211))) rfl (ltb rfl) (X_loadB Tryd.isAgg9 (Blk.ext k12 (Ext.trans e15 e1206)) d1214 rfl) <| L_nil <| stepEnd rfl rfl (Ext.refl w1205) ⟨fun _ => rfl, fun h => absurd (b1210.symm.trans h) (by decide)⟩
      · have d1215 : s1204 52 = (.bool (decide (0 < a1))) := (hd1208 30 rfl)
        have g1216 : (decide (0 < a1)) = false := b1210
        exact L_skip rfl rfl (ltb rfl) (d1215.trans (congrArg Value.bool g1216)) rfl rfl (ltb rfl) <| L_nil <| stepEnd rfl rfl (Ext.refl w1205) ⟨fun h => absurd (b1210.symm.trans h) (by decide), fun _ => rfl⟩
    · intro s1217 w1218 e1219 hf1220 hd1221 hu1222
      rcases bool_two (decide (0 < a1)) with b1223 | b1223
      · have g1224 : (decide (0 < a1)) = true := b1223
        have d1225 : s1217 52 = (.bool (decide (0 < a1))) := (hd1221 30 rfl)
        have d1226 : s1217 52 = (.bool (decide (0 < a1))) := (hd1221 30 rfl)
        have d1227 : s1217 59 = (S ((gt a0 (if ((IntKind.wrap .i64 (a1 - 1)) < 0 : Prop) then 0 else (IntKind.wrap .i64 (a1 - 1)))).path)) := ((hd1221 37 rfl).1 b1223)
        have d1228 : s1217 61 = (S ((gt a0 a1).path)) := ((hd1221 39 rfl).1 b1223)
        exact L_callP (.guard 30 true 52 rfl rfl (ltb rfl) (d1225.trans (congrArg Value.bool g1224))) rfl (ltb rfl) rfl Tryd.call58 (impl_PathLess.calls (w := w1218) (a0 := (gt a0 (if ((IntKind.wrap .i64 (a1 - 1)) < 0 : Prop) then 0 else (IntKind.wrap .i64 (a1 - 1)))).path) (a1 := (gt a0 a1).path) (GV.ext gv (Ext.trans (Ext.trans (Below.trans e8 (Wr.below h11 (Nat.le_of_eq z6))) e15) e1219))) (cons2 d1227 (cons2 d1228 rfl)) <| fun w1229 e1230 => L_nil <| stepEnd rfl rfl e1230 ⟨fun _ => rfl, fun h => absurd (b1223.symm.trans h) (by decide)⟩
      · have d1231 : s1217 52 = (.bool (decide (0 < a1))) := (hd1221 30 rfl)
        have g1232 : (decide (0 < a1)) = false := b1223
        exact L_skip rfl rfl (ltb rfl) (d1231.trans (congrArg Value.bool g1232)) rfl rfl (ltb rfl) <| L_nil <| stepEnd rfl rfl (Ext.refl w1218) ⟨fun h => absurd (b1223.symm.trans h) (by decide), fun _ => rfl⟩
    · intro s1233 w1234 e1235 hf1236 hd1237 hu1238
      rcases bool_two (decide (0 < a1)) with b1239 | b1239
      · have g1240 : (decide (0 < a1)) = true := b1239
        have d1241 : s1233 52 = (.bool (decide (0 < a1))) := (hd1237 30 rfl)
        have d1242 : s1233 52 = (.bool (decide (0 < a1))) := (hd1237 30 rfl)
        have d1243 : s1233 62 = (.bool (pathLess ((gt a0 (if ((IntKind.wrap .i64 (a1 - 1)) < 0 : Prop) then 0 else (IntKind.wrap .i64 (a1 - 1)))).path) ((gt a0 a1).path))) := ((hd1237 40 rfl).1 b1239)
        exact L_op (.guard 30 true 52 rfl rfl (ltb rfl) (d1241.trans (congrArg Value.bool g1240))) rfl (ltb rfl) (X_not d1243) <| L_nil <| stepEnd rfl rfl (Ext.refl w1234) ⟨fun _ => rfl, fun h => absurd (b1239.symm.trans h) (by decide)⟩
      · have d1244 : s1233 52 = (.bool (decide (0 < a1))) := (hd1237 30 rfl)
        have g1245 : (decide (0 < a1)) = false := b1239
        exact L_skip rfl rfl (ltb rfl) (d1244.trans (congrArg Value.bool g1245)) rfl rfl (ltb rfl) <| L_nil <| stepEnd rfl rfl (Ext.refl w1234) ⟨fun h => absurd (b1239.symm.trans h) (by decide), fun _ => rfl⟩
    · intro s1246 w1247 e1248 hf1249 hd1250 hu1251
      rcases bool_two (decide (0 < a1)) with b1252 | b1252
      · have d1253 : s1246 52 = (.bool (decide (0 < a1))) := (hd1250 30 rfl)
        have d1254 : s1246 63 = (.bool (!(pathLess ((gt a0 (if ((IntKind.wrap .i64 (a1 - 1)) < 0 : Prop) then 0 else (IntKind.wrap .i64 (a1 - 1)))).path) ((gt a0 a1).path)))) := ((hd1250 41 rfl).1 b1252)
        exact L_op (.plain rfl) rfl (ltb rfl) (X_pick (b := true) (v := (.bool (!(pathLess ((gt a0 (if ((IntKind.wrap .i64 (a1 - 1)) < 0 : Prop) then 0 else (IntKind.wrap .i64 (a1 - 1)))).path) ((gt a0 a1).path))))) (d1253.trans (congrArg Value.bool b1252)) d1254) <| L_nil <| stepEnd rfl rfl (Ext.refl w1247) (by show _ = _; rw [b1252]; rfl)
      · have d1255 : s1246 52 = (.bool (decide (0 < a1))) := (hd1250 30 rfl)
        exact L_op (.plain rfl) rfl (ltb rfl) (X_pick (b := false) (v := (.bool false)) (d1255.trans (congrArg Value.bool b1252)) rfl) <| L_nil <| stepEnd rfl rfl (Ext.refl w1247) (by show _ = _; rw [b1252]; rfl)
    · intro s1256 w1257 e1258 hf1259 hd1260 hu1261
      have d1262 : s1256 64 = (.bool ((decide (0 < a1)) && (!(pathLess ((gt a0 (if ((IntKind.wrap .i64 (a1 - 1)) < 0 : Prop) then 0 else (IntKind.wrap .i64 (a1 - 1)))).path) ((gt a0 a1).path))))) := (hd1260 42 rfl)
      exact L_op (.plain rfl) rfl (ltb rfl) (X_mkiface Tryd.underlying4 rfl d1262) <| L_nil <| stepEnd rfl rfl (Ext.refl w1257) rfl
    · intro s1263 w1264 e1265 hf1266 hd1267 hu1268
      exact L_op (.plain rfl) rfl (ltb rfl) (X_mkiface Tryd.underlying3 rfl rfl) <| L_nil <| stepEnd rfl rfl (Ext.refl w1264) rfl
    · intro s1269 w1270 e1271 hf1272 hd1273 hu1274
      exact L_op (.plain rfl) rfl (ltb rfl) (X_move (v := (.int .i64 0)) (hf1272 6 rfl)) <| L_nil <| stepEnd rfl rfl (Ext.refl w1270) rfl
    · intro s1275 w1276 e1277 hf1278 hd1279 hu1280
      have d1281 : s1275 67 = (.int .i64 0) := (hd1279 45 rfl)
      exact L_op (.plain rfl) rfl (ltb rfl) (X_lss d1281 rfl) <| L_nil <| stepEnd rfl rfl (Ext.refl w1276) rfl
    · intro s1282 w1283 e1284 hf1285 hd1286 hu1287
      have d1288 : s1282 68 = (.bool (decide ((0 : Int) < 0))) := (hd1286 46 rfl)
      exact L_op (.plain rfl) rfl (ltb rfl) (X_mkiface Tryd.underlying4 rfl d1288) <| L_nil <| stepEnd rfl rfl (Ext.refl w1283) rfl
    · intro s1289 w1290 e1291 hf1292 hd1293 hu1294
      exact L_op (.plain rfl) rfl (ltb rfl) (X_mkiface Tryd.underlying3 rfl rfl) <| L_nil <| stepEnd rfl rfl (Ext.refl w1290) rfl
    · intro s1295 w1296 e1297 hf1298 hd1299 hu1300
      exact L_op (.plain rfl) rfl (ltb rfl) (X_fieldAddr Tryd.underlying23 rfl Tryd.sizeOf9 rfl (hf1298 5 rfl)) <| L_nil <| stepEnd rfl rfl (Ext.refl w1296) rfl
    · intro s1301 w1302 e1303 hf1304 hd1305 hu1306
      have d1307 : s1301 71 = (.pointer (some ⟨b4, 1, none⟩)) := (hd1305 49 rfl)
      exact L_op (.plain rfl) rfl (ltb rfl) (X_loadB Tryd.isAgg9 (Blk.ext k12 (Ext.trans e15 e1303)) d1307 rfl) <| L_nil <| stepEnd rfl rfl (Ext.refl w1302) rfl
    · intro s1308 w1309 e1310 hf1311 hd1312 hu1313
      have d1314 : s1308 72 = (S ((gt a0 a1).path)) := (hd1312 50 rfl)
      have c1315 := c789
      exact L_callP (.plain rfl) rfl (ltb rfl) rfl Tryd.call53 (impl_parent.calls (w := w1309) (a0 := (gt a0 a1).path) (of_decide_eq_true c1315)) (cons2 d1314 rfl) <| fun w1316 e1317 => L_nil <| stepEnd rfl rfl e1317 rfl
    · intro s1318 w1319 e1320 hf1321 hd1322 hu1323
      have d1324 : s1318 73 = (S (parentP ((gt a0 a1).path))) := (hd1322 51 rfl)
      exact L_op (.plain rfl) rfl (ltb rfl) (X_sne d1324 rfl) <| L_nil <| stepEnd rfl rfl (Ext.refl w1319) rfl
    · intro s1325 w1326 e1327 hf1328 hd1329 hu1330
      have d1331 : s1325 74 = (.bool (!decide ((parentP ((gt a0 a1).path)) = ([] : List UInt8)))) := (hd1329 52 rfl)
      exact L_op (.plain rfl) rfl (ltb rfl) (X_move (v := (.bool (!decide ((parentP ((gt a0 a1).path)) = ([] : List UInt8))))) d1331) <| L_nil <| stepEnd rfl rfl (Ext.refl w1326) rfl
    · intro s1332 w1333 e1334 hf1335 hd1336 hu1337
      rcases bool_two (!decide ((parentP ((gt a0 a1).path)) = ([] : List UInt8))) with b1338 | b1338
      · have g1339 : (!decide ((parentP ((gt a0 a1).path)) = ([] : List UInt8))) = true := b1338
        have d1340 : s1332 75 = (.bool (!decide ((parentP ((gt a0 a1).path)) = ([] : List UInt8)))) := (hd1336 53 rfl)
        have d1341 : s1332 75 = (.bool (!decide ((parentP ((gt a0 a1).path)) = ([] : List UInt8)))) := (hd1336 53 rfl)
        exact L_op (.guard 53 true 75 rfl rfl (ltb rfl) (d1340.trans (congrArg Value.bool g1339))) rfl (ltb rfl) (X_move (v := v_a0) (hf1335 0 rfl)) <| L_nil <| stepEnd rfl rfl (Ext.refl w1333) ⟨fun _ => rfl, fun h => absurd (b1338.symm.trans h) (by decide)⟩
      · have d1342 : s1332 75 = (.bool (!decide ((parentP ((gt a0 a1).path)) = ([] : List UInt8)))) := (hd1336 53 rfl)
        have g1343 : (!decide ((parentP ((gt a0 a1).path)) = ([] : List UInt8))) = false := b1338
        exact L_skip rfl rfl (ltb rfl) (d1342.trans (congrArg Value.bool g1343)) rfl rfl (ltb rfl) <| L_nil <| stepEnd rfl rfl (Ext.refl w1333) ⟨fun h => absurd (b1338.symm.trans h) (by decide), fun _ => rfl⟩
    · intro s1344 w1345 e1346 hf1347 hd1348 hu1349
      rcases bool_two (!decide ((parentP ((gt a0 a1).path)) = ([] : List UInt8))) with b1350 | b1350
      · have g1351 : (!decide ((parentP ((gt a0 a1).path)) = ([] : List UInt8))) = true := b1350
        have d1352 : s1344 75 = (.bool (!decide ((parentP ((gt a0 a1).path)) = ([] : List UInt8)))) := (hd1348 53 rfl)
        have d1353 : s1344 75 = (.bool (!decide ((parentP ((gt a0 a1).path)) = ([] : List UInt8)))) := (hd1348 53 rfl)
        exact L_op (.guard 53 true 75 rfl rfl (ltb rfl) (d1352.trans (congrArg Value.bool g1351))) rfl (ltb rfl) (X_move (v := (.int .i64 0)) (hf1347 6 rfl)) <| L_nil <| stepEnd rfl rfl (Ext.refl w1345) ⟨fun _ => rfl, fun h => absurd (b1350.symm.trans h) (by decide)⟩
      · have d1354 : s1344 75 = (.bool (!decide ((parentP ((gt a0 a1).path)) = ([] : List UInt8)))) := (hd1348 53 rfl)
        have g1355 : (!decide ((parentP ((gt a0 a1).path)) = ([] : List UInt8))) = false := b1350
        exact L_skip rfl rfl (ltb rfl) (d1354.trans (congrArg Value.bool g1355)) rfl rfl (ltb rfl) <| L_nil <| stepEnd rfl rfl (Ext.refl w1345) ⟨fun h => absurd (b1350.symm.trans h) (by decide), fun _ => rfl⟩
    · intro s1356 w1357 e1358 hf1359 hd1360 hu1361
      rcases bool_two (!decide ((parentP ((gt a0 a1).path)) = ([] : List UInt8))) with b1362 | b1362
      · have g1363 : (!decide ((parentP ((gt a0 a1).path)) = ([] : List UInt8))) = true := b1362
        have d1364 : s1356 75 = (.bool (!decide ((parentP ((gt a0 a1).path)) = ([] : List UInt8)))) := (hd1360 53 rfl)
        have d1365 : s1356 75 = (.bool (!decide ((parentP ((gt a0 a1).path)) = ([] : List UInt8)))) := (hd1360 53 rfl)
        have d1366 : s1356 77 = (.int .i64 0) := ((hd1360 55 rfl).1 b1362)
        exact L_op (.guard 53 true 75 rfl rfl (ltb rfl) (d1364.trans (congrArg Value.bool g1363))) rfl (ltb rfl) (X_max d1366 rfl) <| L_nil <| stepEnd rfl rfl (Ext.refl w1357) ⟨fun _ => rfl, fun h => absurd (b1362.symm.trans h) (by decide)⟩
      · have d1367 : s1356 75 = (.bool (!decide ((parentP ((gt a0 a1).path)) = ([] : List UInt8)))) := (hd1360 53 rfl)
        have g1368 : (!decide ((parentP ((gt a0 a1).path)) = ([] : List UInt8))) = false := b1362
        exact L_skip rfl rfl (ltb rfl) (d1367.trans (congrArg Value.bool g1368)) rfl rfl (ltb rfl) <| L_nil <| stepEnd rfl rfl (Ext.refl w1357) ⟨fun h => absurd (b1362.symm.trans h) (by decide), fun _ => rfl⟩
    · intro s1369 w1370 e1371 hf1372 hd1373 hu1374
      rcases bool_two (!decide ((parentP ((gt a0 a1).path)) = ([] : List UInt8))) with b1375 | b1375
      · have g1376 : (!decide ((parentP ((gt a0 a1).path)) = ([] : List UInt8))) = true := b1375
        have d1377 : s1369 75 = (.bool (!decide ((parentP ((gt a0 a1).path)) = ([] : List UInt8)))) := (hd1373 53 rfl)
        have d1378 : s1369 75 = (.bool (!decide ((parentP ((gt a0 a1).path)) = ([] : List UInt8)))) := (hd1373 53 rfl)
        have d1379 : s1369 76 = v_a0 := ((hd1373 54 rfl).1 b1375)
        have d1380 : s1369 78 = (.int .i64 (if (0 < 0 : Prop) then 0 else 0)) := ((hd1373 56 rfl).1 b1375)
        have c1381 := imp_take b1375 c792
        exact L_idx (.guard 53 true 75 rfl rfl (ltb rfl) (d1377.trans (congrArg Value.bool g1376))) rfl (ltb rfl) rfl Tryd.underlying48 Tryd.sizeOf23 d1379 (Rd.ext f_a0 (Ext.trans (Ext.trans (Below.trans e8 (Wr.below h11 (Nat.le_of_eq z6))) e15) e1371)) d1380 c1381 <| fun p1382 h1383 => L_nil <| stepEnd rfl rfl (Ext.refl w1370) ⟨fun _ => ⟨_, rfl, h1383⟩, fun h => absurd (b1375.symm.trans h) (by decide)⟩
      · have d1384 : s1369 75 = (.bool (!decide ((parentP ((gt a0 a1).path)) = ([] : List UInt8)))) := (hd1373 53 rfl)
        have g1385 : (!decide ((parentP ((gt a0 a1).path)) = ([] : List UInt8))) = false := b1375
        exact L_skip rfl rfl (ltb rfl) (d1384.trans (congrArg Value.bool g1385)) rfl rfl (ltb rfl) <| L_nil <| stepEnd rfl rfl (Ext.refl w1370) ⟨fun h => absurd (b1375.symm.trans h) (by decide), fun _ => rfl⟩
    · intro s1386 w1387 e1388 hf1389 hd1390 hu1391
      rcases bool_two (!decide ((parentP ((gt a0 a1).path)) = ([] : List UInt8))) with b1392 | b1392
      · have g1393 : (!decide ((parentP ((gt a0 a1).path)) = ([] : List UInt8))) = true := b1392
        have d1394 : s1386 75 = (.bool (!decide ((parentP ((gt a0 a1).path)) = ([] : List UInt8)))) := (hd1390 53 rfl)
        have d1395 : s1386 75 = (.bool (!decide ((parentP ((gt a0 a1).path)) = ([] : List UInt8)))) := (hd1390 53 rfl)
        obtain ⟨p1396, h1397, h1398⟩ := ((hd1390 57 rfl).1 b1392)
        exact L_op (.guard 53 true 75 rfl rfl (ltb rfl) (d1394.trans (congrArg Value.bool g1393))) rfl (ltb rfl) (X_fieldAddr Tryd.underlying23 rfl Tryd.sizeOf3 rfl h1397) <| L_nil <| stepEnd rfl rfl (Ext.refl w1387) ⟨fun _ => ⟨_, rfl, h1398⟩, fun h => absurd (b1392.symm.trans h) (by decide)⟩
      · have d1399 : s1386 75 = (.bool (!decide ((parentP ((gt a0 a1).path)) = ([] : List UInt8)))) := (hd1390 53 rfl)
        have g1400 : (!decide ((parentP ((gt a0 a1).path)) = ([] : List UInt8))) = false := b1392
        exact L_skip rfl rfl (ltb rfl) (d1399.trans (congrArg Value.bool g1400)) rfl rfl (ltb rfl) <| L_nil <| stepEnd rfl rfl (Ext.refl w1387) ⟨fun h => absurd (b1392.symm.trans h) (by decide), fun _ => rfl⟩
    · intro s1401 w1402 e1403 hf1404 hd1405 hu1406
      rcases bool_two (!decide ((parentP ((gt a0 a1).path)) = ([] : List UInt8))) with b1407 | b1407
      · have g1408 : (!decide ((parentP ((gt a0 a1).path)) = ([] : List UInt8))) = true := b1407
        have d1409 : s1401 75 = (.bool (!decide ((parentP ((gt a0 a1).path)) = ([] : List UInt8)))) := (hd1405 53 rfl)
        have d1410 : s1401 75 = (.bool (!decide ((parentP ((gt a0 a1).path)) = ([] : List UInt8)))) := (hd1405 53 rfl)
        obtain ⟨p1411, h1412, h1413⟩ := ((hd1405 58 rfl).1 b1407)
        exact L_op (.guard 53 true 75 rfl rfl (ltb rfl) (d1409.trans (congrArg Value.bool g1408))) rfl (ltb rfl) (X_loadF Tryd.isAgg3 (j := 0) h1413 h1412 rfl) <| L_nil <| stepEnd rfl rfl (Ext.refl w1402) ⟨fun _ => rfl, fun h => absurd (b1407.symm.trans h) (by decide)⟩
      · have d1414 : s1401 75 = (.bool (!decide ((parentP ((gt a0 a1).path)) = ([] : List UInt8)))) := (hd1405 53 rfl)
        have g1415 : (!decide ((parentP ((gt a0 a1).path)) = ([] : List UInt8))) = false := b1407
        exact L_skip rfl rfl (ltb rfl) (d1414.trans (congrArg Value.bool g1415)) rfl rfl (ltb rfl) <| L_nil <| stepEnd rfl rfl (Ext.refl w1402) ⟨fun h => absurd (b1407.symm.trans h) (by decide), fun _ => rfl⟩
    · intro s1416 w1417 e1418 hf1419 hd1420 hu1421
      rcases bool_two (!decide ((parentP ((gt a0 a1).path)) = ([] : List UInt8))) with b1422 | b1422
      · have g1423 : (!decide ((parentP ((gt a0 a1).path)) = ([] : List UInt8))) = true := b1422
        have d1424 : s1416 75 = (.bool (!decide ((parentP ((gt a0 a1).path)) = ([] : List UInt8)))) := (hd1420 53 rfl)
        have d1425 : s1416 75 = (.bool (!decide ((parentP ((gt a0 a1).path)) = ([] : List UInt8)))) := (hd1420 53 rfl)
        have d1426 : s1416 81 = (.int .i64 ((gt a0 (if (0 < 0 : Prop) then 0 else 0)).kind)) := ((hd1420 59 rfl).1 b1422)
        exact L_op (.guard 53 true 75 rfl rfl (ltb rfl) (d1424.trans (congrArg Value.bool g1423))) rfl (ltb rfl) (X_neq d1426 rfl) <| L_nil <| stepEnd rfl rfl (Ext.refl w1417) ⟨fun _ => rfl, fun h => absurd (b1422.symm.trans h) (by decide)⟩
      · have d1427 : s1416 75 = (.bool (!decide ((parentP ((gt a0 a1).path)) = ([] : List UInt8)))) := (hd1420 53 rfl)
        have g1428 : (!decide ((parentP ((gt a0 a1).path)) = ([] : List UInt8))) = false := b1422
        exact L_skip rfl rfl (ltb rfl) (d1427.trans (congrArg Value.bool g1428)) rfl rfl (ltb rfl) <| L_nil <| stepEnd rfl rfl (Ext.refl w1417) ⟨fun h => absurd (b1422.symm.trans h) (by decide), fun _ => rfl⟩
    · intro s1429 w1430 e1431 hf1432 hd1433 hu1434
      rcases bool_two (!decide ((parentP ((gt a0 a1).path)) = ([] : List UInt8))) with b1435 | b1435
      · have d1436 : s1429 75 = (.bool (!decide ((parentP ((gt a0 a1).path)) = ([] : List UInt8)))) := (hd1433 53 rfl)
        have d1437 : s1429 82 = (.bool (!decide (((gt a0 (if (0 < 0 : Prop) then 0 else 0)).kind) = 3))) := ((hd1433 60 rfl).1 b1435)
        exact L_op (.plain rfl) rfl (ltb rfl) (X_pick (b := true) (v := (.bool (!decide (((gt a0 (if (0 < 0 : Prop) then 0 else 0)).kind) = 3)))) (d1436.trans (congrArg Value.bool b1435)) d1437) <| L_nil <| stepEnd rfl rfl (Ext.refl w1430) (by show _ = _; rw [b1435]; rfl)
      · have d1438 : s1429 75 = (.bool (!decide ((parentP ((gt a0 a1).path)) = ([] : List UInt8)))) := (hd1433 53 rfl)
        exact L_op (.plain rfl) rfl (ltb rfl) (X_pick (b := false) (v := (.bool false)) (d1438.trans (congrArg Value.bool b1435)) rfl) <| L_nil <| stepEnd rfl rfl (Ext.refl w1430) (by show _ = _; rw [b1435]; rfl)
    · intro s1439 w1440 e1441 hf1442 hd1443 hu1444
      have d1445 : s1439 83 = (.bool ((!decide ((parentP ((gt a0 a1).path)) = ([] : List UInt8))) && (!decide (((gt a0 (if (0 < 0 : Prop) then 0 else 0)).kind) = 3)))) := (hd1443 61 rfl)
      exact L_op (.plain rfl) rfl (ltb rfl) (X_mkiface Tryd.underlying4 rfl d1445) <| L_nil <| stepEnd rfl rfl (Ext.refl w1440) rfl
    · intro s1446 w1447 e1448 hf1449 hd1450 hu1451
      exact L_op (.plain rfl) rfl (ltb rfl) (X_mkiface Tryd.underlying3 rfl rfl) <| L_nil <| stepEnd rfl rfl (Ext.refl w1447) rfl
    · intro s1452 w1453 e1454 hf1455 hd1456 hu1457
      have d1458 : s1452 30 = (.iface 4 (.bool (!(decide (recFault (gt a0 a1) = 0))))) := (hd1456 8 rfl)
      have d1459 : s1452 33 = (.iface 3 (.int .i64 (recFault (gt a0 a1)))) := (hd1456 11 rfl)
      have d1460 : s1452 48 = (.iface 4 (.bool ((decide (0 < a1)) && (decide (((gt a0 (if ((IntKind.wrap .i64 (a1 - 1)) < 0 : Prop) then 0 else (IntKind.wrap .i64 (a1 - 1)))).path) = ((gt a0 a1).path)))))) := (hd1456 26 rfl)
      have d1461 : s1452 49 = (.iface 3 (.int .i64 18)) := (hd1456 27 rfl)
      have d1462 : s1452 65 = (.iface 4 (.bool ((decide (0 < a1)) && (!(pathLess ((gt a0 (if ((IntKind.wrap .i64 (a1 - 1)) < 0 : Prop) then 0 else (IntKind.wrap .i64 (a1 - 1)))).path) ((gt a0 a1).path)))))) := (hd1456 43 rfl)
      have d1463 : s1452 66 = (.iface 3 (.int .i64 11)) := (hd1456 44 rfl)
      have d1464 : s1452 69 = (.iface 4 (.bool (decide ((0 : Int) < 0)))) := (hd1456 47 rfl)
      have d1465 : s1452 70 = (.iface 3 (.int .i64 12)) := (hd1456 48 rfl)
      have d1466 : s1452 84 = (.iface 4 (.bool ((!decide ((parentP ((gt a0 a1).path)) = ([] : List UInt8))) && (!decide (((gt a0 (if (0 < 0 : Prop) then 0 else 0)).kind) = 3))))) := (hd1456 62 rfl)
      have d1467 : s1452 85 = (.iface 3 (.int .i64 13)) := (hd1456 63 rfl)
      exact L_lit (.plain rfl) rfl (ltb rfl) rfl Tryd.underlying74 Tryd.sizeOf20 Tryd.zeroValue20 rfl rfl rfl (vs := [(.iface 4 (.bool (!(decide (recFault (gt a0 a1) = 0))))), (.iface 3 (.int .i64 (recFault (gt a0 a1)))), (.iface 4 (.bool ((decide (0 < a1)) && (decide (((gt a0 (if ((IntKind.wrap .i64 (a1 - 1)) < 0 : Prop) then 0 else (IntKind.wrap .i64 (a1 - 1)))).path) = ((gt a0 a1).path)))))), (.iface 3 (.int .i64 18)), (.iface 4 (.bool ((decide (0 < a1)) && (!(pathLess ((gt a0 (if ((IntKind.wrap .i64 (a1 - 1)) < 0 : Prop) then 0 else (IntKind.wrap .i64 (a1 - 1)))).path) ((gt a0 a1).path)))))), (.iface 3 (.int .i64 11)), (.iface 4 (.bool (decide ((0 : Int) < 0)))), (.iface 3 (.int .i64 12)), (.iface 4 (.bool ((!decide ((parentP ((gt a0 a1).path)) = ([] : List UInt8))) && (!decide (((gt a0 (if (0 < 0 : Prop) then 0 else 0)).kind) = 3))))), (.iface 3 (.int .i64 13))]) (cons2 d1458 (cons2 d1459 (cons2 d1460 (cons2 d1461 (cons2 d1462 (cons2 d1463 (cons2 d1464 (cons2 d1465 (cons2 d1466 (cons2 d1467 rfl)))))))))) (lit_all rfl) <| fun b1468 w1469 z1470 z1471 e1472 k1473 => L_nil <| stepEnd rfl rfl e1472 (Own.rd (Own.new (xs := [.inl (!(decide (recFault (gt a0 a1) = 0))), .inr (recFault (gt a0 a1)), .inl ((decide (0 < a1)) && (decide (((gt a0 (if ((IntKind.wrap .i64 (a1 - 1)) < 0 : Prop) then 0 else (IntKind.wrap .i64 (a1 - 1)))).path) = ((gt a0 a1).path)))), .inr 18, .inl ((decide (0 < a1)) && (!(pathLess ((gt a0 (if ((IntKind.wrap .i64 (a1 - 1)) < 0 : Prop) then 0 else (IntKind.wrap .i64 (a1 - 1)))).path) ((gt a0 a1).path)))), .inr 11, .inl (decide ((0 : Int) < 0)), .inr 12, .inl ((!decide ((parentP ((gt a0 a1).path)) = ([] : List UInt8))) && (!decide (((gt a0 (if (0 < 0 : Prop) then 0 else 0)).kind) = 3))), .inr 13]) (sz := 1) (enc := (encAny 4 3)) (base := w1453.heap.size) k1473 (Nat.le_of_eq z1470) rfl (fun _ _ => by first | rfl | exact encAny_len _ _ _) (Nat.le_of_ble_eq_true rfl)))
    · intro s1474 w1475 e1476 hf1477 hd1478 hu1479
      have d1480 : Rd 1 (encAny 4 3) w1475 (s1474 86) ([.inl (!(decide (recFault (gt a0 a1) = 0))), .inr (recFault (gt a0 a1)), .inl ((decide (0 < a1)) && (decide (((gt a0 (if ((IntKind.wrap .i64 (a1 - 1)) < 0 : Prop) then 0 else (IntKind.wrap .i64 (a1 - 1)))).path) = ((gt a0 a1).path)))), .inr 18, .inl ((decide (0 < a1)) && (!(pathLess ((gt a0 (if ((IntKind.wrap .i64 (a1 - 1)) < 0 : Prop) then 0 else (IntKind.wrap .i64 (a1 - 1)))).path) ((gt a0 a1).path)))), .inr 11, .inl (decide ((0 : Int) < 0)), .inr 12, .inl ((!decide ((parentP ((gt a0 a1).path)) = ([] : List UInt8))) && (!decide (((gt a0 (if (0 < 0 : Prop) then 0 else 0)).kind) = 3))), .inr 13] : List (Bool ⊕ Int)) := (hd1478 64 rfl)
      have c1481 := c801
      exact L_callP (.plain rfl) rfl (ltb rfl) rfl Tryd.call50 (impl_first.calls (w := w1475) (a0 := ([.inl (!(decide (recFault (gt a0 a1) = 0))), .inr (recFault (gt a0 a1)), .inl ((decide (0 < a1)) && (decide (((gt a0 (if ((IntKind.wrap .i64 (a1 - 1)) < 0 : Prop) then 0 else (IntKind.wrap .i64 (a1 - 1)))).path) = ((gt a0 a1).path)))), .inr 18, .inl ((decide (0 < a1)) && (!(pathLess ((gt a0 (if ((IntKind.wrap .i64 (a1 - 1)) < 0 : Prop) then 0 else (IntKind.wrap .i64 (a1 - 1)))).path) ((gt a0 a1).path)))), .inr 11, .inl (decide ((0 : Int) < 0)), .inr 12, .inl ((!decide ((parentP ((gt a0 a1).path)) = ([] : List UInt8))) && (!decide (((gt a0 (if (0 < 0 : Prop) then 0 else 0)).kind) = 3))), .inr 13] : List (Bool ⊕ Int))) d1480 (of_decide_eq_true c1481)) rfl <| fun w1482 e1483 => L_nil <| stepEnd rfl rfl e1483 rfl
    · intro s1484 w1485 e1486 hf1487 hd1488 hu1489
      have d1490 : s1484 87 = (.int .i64 (firstOf ([.inl (!(decide (recFault (gt a0 a1) = 0))), .inr (recFault (gt a0 a1)), .inl ((decide (0 < a1)) && (decide (((gt a0 (if ((IntKind.wrap .i64 (a1 - 1)) < 0 : Prop) then 0 else (IntKind.wrap .i64 (a1 - 1)))).path) = ((gt a0 a1).path)))), .inr 18, .inl ((decide (0 < a1)) && (!(pathLess ((gt a0 (if ((IntKind.wrap .i64 (a1 - 1)) < 0 : Prop) then 0 else (IntKind.wrap .i64 (a1 - 1)))).path) ((gt a0 a1).path)))), .inr 11, .inl (decide ((0 : Int) < 0)), .inr 12, .inl ((!decide ((parentP ((gt a0 a1).path)) = ([] : List UInt8))) && (!decide (((gt a0 (if (0 < 0 : Prop) then 0 else 0)).kind) = 3))), .inr 13] : List (Bool ⊕ Int)))) := (hd1488 65 rfl)
      exact L_op (.plain rfl) rfl (ltb rfl) (X_mkiface Tryd.underlying3 rfl d1490) <| L_nil <| stepEnd rfl rfl (Ext.refl w1485) rfl
    · intro s1491 w1492 e1493 hf1494 hd1495 hu1496
      have d1497 : s1491 24 = (.iface 4 (.bool (decide (16 ≤ a1)))) := (hd1495 2 rfl)
      have d1498 : s1491 25 = (.iface 3 (.int .i64 6)) := (hd1495 3 rfl)
      have d1499 : s1491 26 = (.iface 4 (.bool true)) := (hd1495 4 rfl)
      have d1500 : s1491 88 = (.iface 3 (.int .i64 (firstOf ([.inl (!(decide (recFault (gt a0 a1) = 0))), .inr (recFault (gt a0 a1)), .inl ((decide (0 < a1)) && (decide (((gt a0 (if ((IntKind.wrap .i64 (a1 - 1)) < 0 : Prop) then 0 else (IntKind.wrap .i64 (a1 - 1)))).path) = ((gt a0 a1).path)))), .inr 18, .inl ((decide (0 < a1)) && (!(pathLess ((gt a0 (if ((IntKind.wrap .i64 (a1 - 1)) < 0 : Prop) then 0 else (IntKind.wrap .i64 (a1 - 1)))).path) ((gt a0 a1).path)))), .inr 11, .inl (decide ((0 : Int) < 0)), .inr 12, .inl ((!decide ((parentP ((gt a0 a1).path)) = ([] : List UInt8))) && (!decide (((gt a0 (if (0 < 0 : Prop) then 0 else 0)).kind) = 3))), .inr 13] : List (Bool ⊕ Int))))) := (hd1495 66 rfl)
      exact L_lit (.plain rfl) rfl (ltb rfl) rfl Tryd.underlying74 Tryd.sizeOf20 Tryd.zeroValue20 rfl rfl rfl (vs := [(.iface 4 (.bool (decide (16 ≤ a1)))), (.iface 3 (.int .i64 6)), (.iface 4 (.bool true)), (.iface 3 (.int .i64 (firstOf ([.inl (!(decide (recFault (gt a0 a1) = 0))), .inr (recFault (gt a0 a1)), .inl ((decide (0 < a1)) && (decide (((gt a0 (if ((IntKind.wrap .i64 (a1 - 1)) < 0 : Prop) then 0 else (IntKind.wrap .i64 (a1 - 1)))).path) = ((gt a0 a1).path)))), .inr 18, .inl ((decide (0 < a1)) && (!(pathLess ((gt a0 (if ((IntKind.wrap .i64 (a1 - 1)) < 0 : Prop) then 0 else (IntKind.wrap .i64 (a1 - 1)))).path) ((gt a0 a1).path)))), .inr 11, .inl (decide ((0 : Int) < 0)), .inr 12, .inl ((!decide ((parentP ((gt a0 a1).path)) = ([] : List UInt8))) && (!decide (((gt a0 (if (0 < 0 : Prop) then 0 else 0)).kind) = 3))), .inr 13] : List (Bool ⊕ Int)))))]) (cons2 d1497 (cons2 d1498 (cons2 d1499 (cons2 d1500 rfl)))) (lit_all rfl) <| fun b1501 w1502 z1503 z1504 e1505 k1506 => L_nil <| stepEnd rfl rfl e1505 (Own.rd (Own.new (xs := [.inl (decide (16 ≤ a1)), .inr 6, .inl true, .inr (firstOf ([.inl (!(decide (recFault (gt a0 a1) = 0))), .inr (recFault (gt a0 a1)), .inl ((decide (0 < a1)) && (decide (((gt a0 (if ((IntKind.wrap .i64 (a1 - 1)) < 0 : Prop) then 0 else (IntKind.wrap .i64 (a1 - 1)))).path) = ((gt a0 a1).path)))), .inr 18, .inl ((decide (0 < a1)) && (!(pathLess ((gt a0 (if ((IntKind.wrap .i64 (a1 - 1)) < 0 : Prop) then 0 else (IntKind.wrap .i64 (a1 - 1)))).path) ((gt a0 a1).path)))), .inr 11, .inl (decide ((0 : Int) < 0)), .inr 12, .inl ((!decide ((parentP ((gt a0 a1).path)) = ([] : List UInt8))) && (!decide (((gt a0 (if (0 < 0 : Prop) then 0 else 0)).kind) = 3))), .inr 13] : List (Bool ⊕ Int)))]) (sz := 1) (enc := (encAny 4 3)) (base := w1492.heap.size) k1506 (Nat.le_of_eq z1503) rfl (fun _ _ => by first | rfl | exact encAny_len _ _ _) (Nat.le_of_ble_eq_true rfl)))
    · intro s1507 w1508 e1509 hf1510 hd1511 hu1512
      have d1513 : Rd 1 (encAny 4 3) w1508 (s1507 89) ([.inl (decide (16 ≤ a1)), .inr 6, .inl true, .inr (firstOf ([.inl (!(decide (recFault (gt a0 a1) = 0))), .inr (recFault (gt a0 a1)), .inl ((decide (0 < a1)) && (decide (((gt a0 (if ((IntKind.wrap .i64 (a1 - 1)) < 0 : Prop) then 0 else (IntKind.wrap .i64 (a1 - 1)))).path) = ((gt a0 a1).path)))), .inr 18, .inl ((decide (0 < a1)) && (!(pathLess ((gt a0 (if ((IntKind.wrap .i64 (a1 - 1)) < 0 : Prop) then 0 else (IntKind.wrap .i64 (a1 - 1)))).path) ((gt a0 a1).path)))), .inr 11, .inl (decide ((0 : Int) < 0)), .inr 12, .inl ((!decide ((parentP ((gt a0 a1).path)) = ([] : List UInt8))) && (!decide (((gt a0 (if (0 < 0 : Prop) then 0 else 0)).kind) = 3))), .inr 13] : List (Bool ⊕ Int)))] : List (Bool ⊕ Int)) := (hd1511 67 rfl)
      have c1514 := c810
      exact L_callP (.plain rfl) rfl (ltb rfl) rfl Tryd.call50 (impl_first.calls (w := w1508) (a0 := ([.inl (decide (16 ≤ a1)), .inr 6, .inl true, .inr (firstOf ([.inl (!(decide (recFault (gt a0 a1) = 0))), .inr (recFault (gt a0 a1)), .inl ((decide (0 < a1)) && (decide (((gt a0 (if ((IntKind.wrap .i64 (a1 - 1)) < 0 : Prop) then 0 else (IntKind.wrap .i64 (a1 - 1)))).path) = ((gt a0 a1).path)))), .inr 18, .inl ((decide (0 < a1)) && (!(pathLess ((gt a0 (if ((IntKind.wrap .i64 (a1 - 1)) < 0 : Prop) then 0 else (IntKind.wrap .i64 (a1 - 1)))).path) ((gt a0 a1).path)))), .inr 11, .inl (decide ((0 : Int) < 0)), .inr 12, .inl ((!decide ((parentP ((gt a0 a1).path)) = ([] : List UInt8))) && (!decide (((gt a0 (if (0 < 0 : Prop) then 0 else 0)).kind) = 3))), .inr 13] : List (Bool ⊕ Int)))] : List (Bool ⊕ Int))) d1513 (of_decide_eq_true c1514)) rfl <| fun w1515 e1516 => L_nil <| stepEnd rfl rfl e1516 rfl
    · intro s1517 w1518 e1519 hf1520 hd1521 hu1522
      have d1523 : s1517 90 = (.int .i64 (firstOf ([.inl (decide (16 ≤ a1)), .inr 6, .inl true, .inr (firstOf ([.inl (!(decide (recFault (gt a0 a1) = 0))), .inr (recFault (gt a0 a1)), .inl ((decide (0 < a1)) && (decide (((gt a0 (if ((IntKind.wrap .i64 (a1 - 1)) < 0 : Prop) then 0 else (IntKind.wrap .i64 (a1 - 1)))).path) = ((gt a0 a1).path)))), .inr 18, .inl ((decide (0 < a1)) && (!(pathLess ((gt a0 (if ((IntKind.wrap .i64 (a1 - 1)) < 0 : Prop) then 0 else (IntKind.wrap .i64 (a1 - 1)))).path) ((gt a0 a1).path)))), .inr 11, .inl (decide ((0 : Int) < 0)), .inr 12, .inl ((!decide ((parentP ((gt a0 a1).path)) = ([] : List UInt8))) && (!decide (((gt a0 (if (0 < 0 : Prop) then 0 else 0)).kind) = 3))), .inr 13] : List (Bool ⊕ Int)))] : List (Bool ⊕ Int)))) := (hd1521 68 rfl)
      exact L_op (.plain rfl) rfl (ltb rfl) (X_assign d1523) <| L_nil <| stepEnd rfl rfl (Ext.refl w1518) rfl
    intro s1524 w1525 e1526 hf1527 ha1528
    have K1529 := Kp.ofD (kp := [(4, 5), (22, 91)]) rfl hf1527
    have d1530 : s1524 4 = (.int .i64 (firstOf ([.inl (decide (16 ≤ a1)), .inr 6, .inl true, .inr (firstOf ([.inl (!(decide (recFault (gt a0 a1) = 0))), .inr (recFault (gt a0 a1)), .inl ((decide (0 < a1)) && (decide (((gt a0 (if ((IntKind.wrap .i64 (a1 - 1)) < 0 : Prop) then 0 else (IntKind.wrap .i64 (a1 - 1)))).path) = ((gt a0 a1).path)))), .inr 18, .inl ((decide (0 < a1)) && (!(pathLess ((gt a0 (if ((IntKind.wrap .i64 (a1 - 1)) < 0 : Prop) then 0 else (IntKind.wrap .i64 (a1 - 1)))).path) ((gt a0 a1).path)))), .inr 11, .inl (decide ((0 : Int) < 0)), .inr 12, .inl ((!decide ((parentP ((gt a0 a1).path)) = ([] : List UInt8))) && (!decide (((gt a0 (if (0 < 0 : Prop) then 0 else 0)).kind) = 3))), .inr 13] : List (Bool ⊕ Int)))] : List (Bool ⊕ Int)))) := ha1528 69 rfl
    clear ha1528 hf1527
    refine thn_n <| W_ret <| fin_r ?_
    obtain rfl := Option.some.inj H
    exact fin1 d1530 (Ext.trans (Ext.trans (Below.trans e8 (Wr.below h11 (Nat.le_of_eq z6))) e15) e1526)
theorem impl_faultAt.calls {w : World} {a0 : List Rec} {a1 : Int} (gv : GV 0 w) {v_a0 : Value} (f_a0 : Rd 5 encRec w v_a0 a0) (h0 : a0.length ≤ 1048576) (h1 : ∀ x ∈ a0, x.path.length ≤ 1048576) (h2 : inR a1 a0.length = true) :
    Calls Tryd.prog 89 #[v_a0, .int .i64 a1] w (Rt (RP w (.int .i64 (faultAt a0 a1)))) := impl_faultAt.walk gv f_a0 (impl_faultAt.eq a0 a1 h0 h1 h2)
/-! impl.fault -/
theorem impl_fault.walk {k : Nat} {w : World} {a0 : List Rec} (gv : GV 0 w) {v_a0 : Value} (f_a0 : Rd 5 encRec w v_a0 a0) {r : Int × Int} (H : impl_fault.sh k a0 = some r) :
    Calls Tryd.prog 67 #[v_a0] w (Rt (RP w (.tuple #[.int .i64 r.1, .int .i64 r.2]))) := by
  unfold impl_fault.sh at H
  refine calls_of_W Tryd.func67 rfl (Nat.le_of_ble_eq_true rfl) Tryd.ntmps67 rfl ?_
  refine W_seq <| W_reg <| L_op (.plain rfl) rfl (ltb rfl) (X_assign (v := (.int .i64 0)) rfl) <| L_op (.plain rfl) rfl (ltb rfl) (X_assign (v := (.int .i64 0)) rfl) <| L_nil <| thn_n <| W_seq <| W_seq <| W_reg <| L_op (.plain rfl) rfl (ltb rfl) (X_move (v := v_a0) rfl) <| L_op (.plain rfl) rfl (ltb rfl) (X_lenR Tryd.underlying48 rfl f_a0) <| L_op (.plain rfl) rfl (ltb rfl) (X_move (v := (.int .i64 0)) rfl) <| L_nil <| thn_n ?_
  obtain ⟨z2, L3, C4⟩ := bind_some H
  clear H
  refine  W_cutQ (fun s0 s9 w9 => Kp [(2, 6), (8, 19)] s0 s9 ∧ Ext w w9 ∧ z2 = .inr ()) ?_ ?_
  · refine W_block <| W_loopI (fun s0 kk s9 w9 => ∃ (x8_1 : Int), Kp [(2, 6), (8, 19)] s0 s9 ∧ s9 8 = .int .i64 x8_1 ∧ Ext w w9 ∧ loopF (impl_fault.b1 a0) kk x8_1 = some z2) k ⟨0, (Kp.refl _ _), rfl, (Ext.refl w), L3⟩ ?_
    rintro k9 s10 w11 ⟨x8_1, K12, h15, e13, L14⟩
    cases k9 with
    | zero => exact absurd L14 (by simp [loopF])
    | succ k9 =>
      obtain ⟨t16, H, S17⟩ := loopF_succ L14
      clear L14
      unfold impl_fault.b1 at H
      refine W_seq <| W_reg <| L_op (.plain rfl) rfl (ltb rfl) (X_lss h15 (K12 7 rfl)) <| L_nil <| thn_n <| W_seq ?_
      rcases bif_two H with ⟨q18, H⟩ | ⟨q18, H⟩
      · refine W_true (congrArg Value.bool q18) <| W_skip <| thn_n <| W_seq <| W_block <| W_seq <| W_reg <| L_op (.plain rfl) rfl (ltb rfl) (X_move (v := (.int .i64 x8_1)) h15) <| L_op (.plain rfl) rfl (ltb rfl) (X_assign (v := (.int .i64 x8_1)) rfl) <| L_nil <| thn_n <| W_seq <| W_reg <| L_op (.plain rfl) rfl (ltb rfl) (X_move (v := v_a0) (K12 0 rfl)) <| L_op (.plain rfl) rfl (ltb rfl) (X_move (v := (.int .i64 x8_1)) rfl) ?_
        obtain ⟨c19, H⟩ := bif_some H
        obtain ⟨c20, H⟩ := bif_some H
        obtain ⟨c21, H⟩ := bif_some H
        refine L_callP (.plain rfl) rfl (ltb rfl) rfl Tryd.call89 (impl_faultAt.calls (w := w11) (a0 := a0) (a1 := x8_1) (GV.ext gv e13) (Rd.ext f_a0 e13) (of_decide_eq_true c19) (of_decide_eq_true c20) (of_decide_eq_true c21)) rfl <| fun w22 e23 => L_op (.plain rfl) rfl (ltb rfl) (X_assign (v := (.int .i64 (faultAt a0 x8_1))) rfl) <| L_nil <| thn_n <| W_seq <| W_reg <| L_op (.plain rfl) rfl (ltb rfl) (X_move (v := (.int .i64 (faultAt a0 x8_1))) rfl) <| L_op (.plain rfl) rfl (ltb rfl) (X_neq rfl rfl) <| L_nil <| thn_n ?_
        rcases bif_two H with ⟨q24, H⟩ | ⟨q24, H⟩
        · refine W_true (congrArg Value.bool q24) <| W_seq <| W_reg <| L_op (.plain rfl) rfl (ltb rfl) (X_move (v := (.int .i64 x8_1)) rfl) <| L_op (.plain rfl) rfl (ltb rfl) (X_move (v := (.int .i64 (faultAt a0 x8_1))) rfl) <| L_op (.plain rfl) rfl (ltb rfl) (X_assign (v := (.int .i64 x8_1)) rfl) <| L_op (.plain rfl) rfl (ltb rfl) (X_assign (v := (.int .i64 (faultAt a0 x8_1))) rfl) <| L_nil <| thn_n <| W_ret <| blk_r <| thn_r <| thn_r <| blk_r <| thn_r <| thn_r <| fin_r ?_
          obtain rfl := Option.some.inj H
          obtain rfl := Option.some.inj S17
          have H := C4
          obtain rfl := Option.some.inj H
          exact fin2 rfl rfl (Ext.trans e13 e23)
        · refine W_false (congrArg Value.bool q24) <| W_skip <| blk_n <| thn_n <| W_reg <| L_op (.plain rfl) rfl (ltb rfl) (X_add h15 rfl) <| L_op (.plain rfl) rfl (ltb rfl) (X_move (v := (.int .i64 (IntKind.wrap .i64 (x8_1 + 1)))) rfl) <| L_nil <| thn_n ?_
          obtain rfl := Option.some.inj H
          exact ⟨_, Nat.lt_succ_self _, IntKind.wrap .i64 (x8_1 + 1), (Kp.upd (Kp.upd (Kp.upd (Kp.upd (Kp.upd (Kp.upd (Kp.upd (Kp.upd (Kp.upd (Kp.upd (Kp.upd K12 rfl) rfl) rfl) rfl) rfl) rfl) rfl) rfl) rfl) rfl) rfl), rfl, (Ext.trans e13 e23), S17⟩
      · refine W_false (congrArg Value.bool q18) <| W_exit <| thn_x <| thn_x <| blk_x <| thn_n ?_
        obtain rfl := Option.some.inj H
        obtain rfl := Option.some.inj S17
        exact ⟨(Kp.upd K12 rfl), e13, rfl⟩
  · rintro s6 w5 ⟨K7, e8, y25⟩
    rw [y25] at C4
    have H := C4
    replace H : _ = some _ := H
    refine thn_n <| W_seq <| W_reg <| L_op (.plain rfl) rfl (ltb rfl) (X_assign (v := (.int .i64 0)) rfl) <| L_op (.plain rfl) rfl (ltb rfl) (X_assign (v := (.int .i64 0)) rfl) <| L_nil <| thn_n <| W_ret <| fin_r ?_
    obtain rfl := Option.some.inj H
    exact fin2 rfl rfl e8
theorem impl_fault.calls {w : World} {a0 : List Rec} (gv : GV 0 w) {v_a0 : Value} (f_a0 : Rd 5 encRec w v_a0 a0) (h0 : a0.length ≤ 1048576) (h1 : ∀ x ∈ a0, x.path.length ≤ 1048576) :
    Calls Tryd.prog 67 #[v_a0] w (Rt (RP w (.tuple #[.int .i64 ((layerFault a0).1), .int .i64 ((layerFault a0).2)]))) := by
  obtain ⟨k, h⟩ := impl_fault.eq a0 h0 h1
  exact impl_fault.walk gv f_a0 h
/-! impl.LayerFault -/
theorem impl_LayerFault.walk {w : World} {a0 : List Rec} (gv : GV 0 w) {v_a0 : Value} (f_a0 : Rd 5 encRec w v_a0 a0) {r : Int × Int} (H : impl_LayerFault.sh a0 = some r) :
    Calls Tryd.prog 36 #[v_a0] w (Rt (RP w (.tuple #[.int .i64 r.1, .int .i64 r.2]))) := by
  unfold impl_LayerFault.sh at H
  refine calls_of_W Tryd.func36 rfl (Nat.le_of_ble_eq_true rfl) Tryd.ntmps36 rfl ?_
  refine W_seq <| W_reg <| L_op (.plain rfl) rfl (ltb rfl) (X_assign (v := (.int .i64 0)) rfl) <| L_op (.plain rfl) rfl (ltb rfl) (X_assign (v := (.int .i64 0)) rfl) <| L_nil <| thn_n <| W_seq <| W_seq <| W_reg <| L_op (.plain rfl) rfl (ltb rfl) (X_move (v := v_a0) rfl) <| L_callP (.plain rfl) rfl (ltb rfl) rfl Tryd.call66 (impl_isLongListR.calls (w := w) (a0 := a0) f_a0) rfl <| fun w1 e2 => L_nil <| thn_n ?_
  rcases bif_two H with ⟨q3, H⟩ | ⟨q3, H⟩
  · refine W_true (congrArg Value.bool q3) <| W_seq <| W_reg <| L_op (.plain rfl) rfl (ltb rfl) (X_assign (v := (.int .i64 0)) rfl) <| L_op (.plain rfl) rfl (ltb rfl) (X_assign (v := (.int .i64 2)) rfl) <| L_nil <| thn_n <| W_ret <| thn_r <| fin_r ?_
    obtain rfl := Option.some.inj H
    exact fin2 rfl rfl e2
  · refine W_false (congrArg Value.bool q3) <| W_skip <| thn_n <| W_seq <| W_reg <| L_op (.plain rfl) rfl (ltb rfl) (X_move (v := v_a0) rfl) ?_
    obtain ⟨c4, H⟩ := bif_some H
    obtain ⟨c5, H⟩ := bif_some H
    refine L_callP (.plain rfl) rfl (ltb rfl) rfl Tryd.call67 (impl_fault.calls (w := w1) (a0 := a0) (GV.ext gv e2) (Rd.ext f_a0 e2) (of_decide_eq_true c4) (of_decide_eq_true c5)) rfl <| fun w6 e7 => L_op (.plain rfl) rfl (ltb rfl) (X_extract (v := (.int .i64 ((layerFault a0).1))) rfl rfl) <| L_op (.plain rfl) rfl (ltb rfl) (X_extract (v := (.int .i64 ((layerFault a0).2))) rfl rfl) <| L_op (.plain rfl) rfl (ltb rfl) (X_assign (v := (.int .i64 ((layerFault a0).1))) rfl) <| L_op (.plain rfl) rfl (ltb rfl) (X_assign (v := (.int .i64 ((layerFault a0).2))) rfl) <| L_nil <| thn_n <| W_ret <| fin_r ?_
    obtain rfl := Option.some.inj H
    exact fin2 rfl rfl (Ext.trans e2 e7)
theorem impl_LayerFault.calls {w : World} {a0 : List Rec} (gv : GV 0 w) {v_a0 : Value} (f_a0 : Rd 5 encRec w v_a0 a0) (h0 : a0.length ≤ 1048576) (h1 : ∀ x ∈ a0, x.path.length ≤ 1048576) :
    Calls Tryd.prog 36 #[v_a0] w (Rt (RP w (.tuple #[.int .i64 ((layerFaultL a0).1), .int .i64 ((layerFaultL a0).2)]))) := impl_LayerFault.walk gv f_a0 (impl_LayerFault.eq a0 h0 h1)
/-! laws.eqRecordS -/
theorem laws_eqRecordS.walk {k : Nat} {w : World} {a0 : List Rec} {a1 : List Rec} {v_a0 : Value} (f_a0 : Rd 5 encRec w v_a0 a0) {v_a1 : Value} (f_a1 : Rd 5 encRec w v_a1 a1) {r : Bool} (H : laws_eqRecordS.sh k a0 a1 = some r) :
    Calls Tryd.prog 37 #[v_a0, v_a1] w (Rt (RP w (.bool r))) := by
  unfold laws_eqRecordS.sh at H
  refine calls_of_W Tryd.func37 rfl (Nat.le_of_ble_eq_true rfl) Tryd.ntmps37 rfl ?_
  refine W_seq <| W_reg <| L_op (.plain rfl) rfl (ltb rfl) (X_assign (v := (.bool false)) rfl) <| L_nil <| thn_n <| W_seq <| W_seq <| W_reg <| L_op (.plain rfl) rfl (ltb rfl) (X_move (v := v_a0) rfl) <| L_op (.plain rfl) rfl (ltb rfl) (X_lenR Tryd.underlying48 rfl f_a0) <| L_op (.plain rfl) rfl (ltb rfl) (X_move (v := v_a1) rfl) <| L_op (.plain rfl) rfl (ltb rfl) (X_lenR Tryd.underlying48 rfl f_a1) <| L_op (.plain rfl) rfl (ltb rfl) (X_neq rfl rfl) <| L_nil <| thn_n ?_
  rcases bif_two H with ⟨q1, H⟩ | ⟨q1, H⟩
  · refine W_true (congrArg Value.bool q1) <| W_seq <| W_reg <| L_op (.plain rfl) rfl (ltb rfl) (X_assign (v := (.bool false)) rfl) <| L_nil <| thn_n <| W_ret <| thn_r <| fin_r ?_
    obtain rfl := Option.some.inj H
    exact fin1 rfl (Ext.refl w)
  · refine W_false (congrArg Value.bool q1) <| W_skip <| thn_n <| W_seq <| W_seq <| W_reg <| L_op (.plain rfl) rfl (ltb rfl) (X_assign (v := (.int .i64 0)) rfl) <| L_nil <| thn_n ?_
    obtain ⟨z3, L4, C5⟩ := bind_some H
    clear H
    refine  W_cutQ (fun s0 s9 w9 => Kp [(4, 6), (11, 27)] s0 s9 ∧ Ext w w9 ∧ z3 = .inr ()) ?_ ?_
    · refine W_block <| W_loopI (fun s0 kk s9 w9 => ∃ (x5_2 : Int), Kp [(4, 6), (11, 27)] s0 s9 ∧ s9 5 = .int .i64 x5_2 ∧ Ext w w9 ∧ loopF (laws_eqRecordS.b1 a0 a1) kk x5_2 = some z3) k ⟨0, (Kp.refl _ _), rfl, (Ext.refl w), L4⟩ ?_
      rintro k10 s11 w12 ⟨x5_2, K13, h16, e14, L15⟩
      cases k10 with
      | zero => exact absurd L15 (by simp [loopF])
      | succ k10 =>
        obtain ⟨t17, H, S18⟩ := loopF_succ L15
        clear L15
        unfold laws_eqRecordS.b1 at H
        refine W_seq <| W_seq <| W_reg <| L_op (.plain rfl) rfl (ltb rfl) (X_move (v := (.int .i64 x5_2)) h16) <| L_op (.plain rfl) rfl (ltb rfl) (X_move (v := v_a0) (K13 0 rfl)) <| L_op (.plain rfl) rfl (ltb rfl) (X_lenR Tryd.underlying48 rfl (Rd.ext f_a0 e14)) <| L_op (.plain rfl) rfl (ltb rfl) (X_lss rfl rfl) <| L_nil <| thn_n ?_
        rcases bif_two H with ⟨q19, H⟩ | ⟨q19, H⟩
        · refine W_true (congrArg Value.bool q19) <| W_skip <| thn_n <| W_seq <| W_block <| W_seq ?_
          obtain ⟨c20, H⟩ := bif_some H
          obtain ⟨c23, H⟩ := bif_some H
          refine W_drawM [LEq v_a0, LEq (.int .i64 x5_2), LAt0 (encRec (gt a0 x5_2)), LEq (.agg (encRec (gt a0 x5_2)).toArray), LEq v_a1, LEq (.int .i64 x5_2), LAt0 (encRec (gt a1 x5_2)), LEq (.agg (encRec (gt a1 x5_2)).toArray), LEq (.bool (decide ((gt a0 x5_2) = (gt a1 x5_2)))), LEq (.bool (!(decide ((gt a0 x5_2) = (gt a1 x5_2)))))] (by kernel_rfl) (by kernel_rfl) ⟨LEq.mono, LEq.mono, LAt0.mono, LEq.mono, LEq.mono, LEq.mono, LAt0.mono, LEq.mono, LEq.mono, LEq.mono, trivial⟩ ⟨?_, ?_, ?_, ?_, ?_, ?_, ?_, ?_, ?_, ?_, trivial⟩ ?_
          · intro s28 w29 e30 hf31 hd32 hu33
            exact L_op (.plain rfl) rfl (ltb rfl) (X_move (v := v_a0) ((hf31 0 rfl).trans (K13 0 rfl))) <| L_nil <| stepEnd rfl rfl (Ext.refl w29) rfl
          · intro s34 w35 e36 hf37 hd38 hu39
            exact L_op (.plain rfl) rfl (ltb rfl) (X_move (v := (.int .i64 x5_2)) ((hf37 5 rfl).trans h16)) <| L_nil <| stepEnd rfl rfl (Ext.refl w35) rfl
          · intro s40 w41 e42 hf43 hd44 hu45
            have d46 : s40 17 = v_a0 := (hd44 0 rfl)
            have d47 : s40 18 = (.int .i64 x5_2) := (hd44 1 rfl)
            have c48 := c20
            exact L_idx (.plain rfl) rfl (ltb rfl) rfl Tryd.underlying48 Tryd.sizeOf23 d46 (Rd.ext f_a0 (Ext.trans e14 e42)) d47 c48 <| fun p49 h50 => L_nil <| stepEnd rfl rfl (Ext.refl w41) ⟨_, rfl, h50⟩
          · intro s51 w52 e53 hf54 hd55 hu56
            obtain ⟨p57, h58, h59⟩ := (hd55 2 rfl)
            exact L_op (.plain rfl) rfl (ltb rfl) (X_loadS Tryd.isAgg23 Tryd.sizeOf23 rfl h58 h59) <| L_nil <| stepEnd rfl rfl (Ext.refl w52) rfl
          · intro s60 w61 e62 hf63 hd64 hu65
            exact L_op (.plain rfl) rfl (ltb rfl) (X_move (v := v_a1) ((hf63 1 rfl).trans (K13 1 rfl))) <| L_nil <| stepEnd rfl rfl (Ext.refl w61) rfl
          · intro s66 w67 e68 hf69 hd70 hu71
            exact L_op (.plain rfl) rfl (ltb rfl) (X_move (v := (.int .i64 x5_2)) ((hf69 5 rfl).trans h16)) <| L_nil <| stepEnd rfl rfl (Ext.refl w67) rfl
          · intro s72 w73 e74 hf75 hd76 hu77
            have d78 : s72 21 = v_a1 := (hd76 4 rfl)
            have d79 : s72 22 = (.int .i64 x5_2) := (hd76 5 rfl)
            have c80 := c23
            exact L_idx (.plain rfl) rfl (ltb rfl) rfl Tryd.underlying48 Tryd.sizeOf23 d78 (Rd.ext f_a1 (Ext.trans e14 e74)) d79 c80 <| fun p81 h82 => L_nil <| stepEnd rfl rfl (Ext.refl w73) ⟨_, rfl, h82⟩
          · intro s83 w84 e85 hf86 hd87 hu88
            obtain ⟨p89, h90, h91⟩ := (hd87 6 rfl)
            exact L_op (.plain rfl) rfl (ltb rfl) (X_loadS Tryd.isAgg23 Tryd.sizeOf23 rfl h90 h91) <| L_nil <| stepEnd rfl rfl (Ext.refl w84) rfl
          · intro s92 w93 e94 hf95 hd96 hu97
            have d98 : s92 20 = (.agg (encRec (gt a0 x5_2)).toArray) := (hd96 3 rfl)
            have d99 : s92 24 = (.agg (encRec (gt a1 x5_2)).toArray) := (hd96 7 rfl)
            exact L_callP (.plain rfl) rfl (ltb rfl) rfl Tryd.call17 (laws_eqRecord.calls (w := w93) (a0 := gt a0 x5_2) (a1 := gt a1 x5_2)) (cons2 d98 (cons2 d99 rfl)) <| fun w100 e101 => L_nil <| stepEnd rfl rfl e101 rfl
          · intro s102 w103 e104 hf105 hd106 hu107
            have d108 : s102 25 = (.bool (decide ((gt a0 x5_2) = (gt a1 x5_2)))) := (hd106 8 rfl)
            exact L_op (.plain rfl) rfl (ltb rfl) (X_not d108) <| L_nil <| stepEnd rfl rfl (Ext.refl w103) rfl
          intro s109 w110 e111 hf112 ha113
          have K114 := Kp.ofD (kp := [(17, 27)]) rfl hf112
          have d115 : s109 26 = (.bool (!(decide ((gt a0 x5_2) = (gt a1 x5_2))))) := ha113 9 rfl
          clear ha113 hf112
          refine thn_n ?_
          rcases bif_two H with ⟨q116, H⟩ | ⟨q116, H⟩
          · refine W_true (d115.trans (congrArg Value.bool q116)) <| W_seq <| W_reg <| L_op (.plain rfl) rfl (ltb rfl) (X_assign (v := (.bool false)) rfl) <| L_nil <| thn_n <| W_ret <| blk_r <| thn_r <| thn_r <| blk_r <| thn_r <| thn_r <| fin_r ?_
            obtain rfl := Option.some.inj H
            obtain rfl := Option.some.inj S18
            have H := C5
            obtain rfl := Option.some.inj H
            exact fin1 rfl (Ext.trans e14 e111)
          · refine W_false (d115.trans (congrArg Value.bool q116)) <| W_skip <| blk_n <| thn_n <| W_reg <| L_op (.plain rfl) rfl (ltb rfl) (X_move (v := (.int .i64 x5_2)) ((K114 5 rfl).trans h16)) <| L_op (.plain rfl) rfl (ltb rfl) (X_add rfl rfl) <| L_op (.plain rfl) rfl (ltb rfl) (X_assign (v := (.int .i64 (IntKind.wrap .i64 (x5_2 + 1)))) rfl) <| L_nil <| thn_n ?_
            obtain rfl := Option.some.inj H
            exact ⟨_, Nat.lt_succ_self _, IntKind.wrap .i64 (x5_2 + 1), (Kp.upd (Kp.upd (Kp.upd (Kp.cut (Kp.upd (Kp.upd (Kp.upd (Kp.upd K13 rfl) rfl) rfl) rfl) K114 rfl) rfl) rfl) rfl), rfl, (Ext.trans e14 e111), S18⟩
        · refine W_false (congrArg Value.bool q19) <| W_exit <| thn_x <| thn_x <| blk_x <| thn_n ?_
          obtain rfl := Option.some.inj H
          obtain rfl := Option.some.inj S18
          exact ⟨(Kp.upd (Kp.upd (Kp.upd (Kp.upd K13 rfl) rfl) rfl) rfl), e14, rfl⟩
    · rintro s7 w6 ⟨K8, e9, y117⟩
      rw [y117] at C5
      have H := C5
      replace H : _ = some _ := H
      refine thn_n <| W_seq <| W_reg <| L_op (.plain rfl) rfl (ltb rfl) (X_assign (v := (.bool true)) rfl) <| L_nil <| thn_n <| W_ret <| fin_r ?_
      obtain rfl := Option.some.inj H
      exact fin1 rfl e9
theorem laws_eqRecordS.calls {w : World} {a0 : List Rec} {a1 : List Rec} {v_a0 : Value} (f_a0 : Rd 5 encRec w v_a0 a0) {v_a1 : Value} (f_a1 : Rd 5 encRec w v_a1 a1) (h0 : a0.length ≤ 4611686018427387904) :
    Calls Tryd.prog 37 #[v_a0, v_a1] w (Rt (RP w (.bool (decide (a0 = a1))))) := by
  obtain ⟨k, h⟩ := laws_eqRecordS.eq a0 a1 h0
  exact laws_eqRecordS.walk f_a0 f_a1 h
/-! laws.FnExactLayerFault -/
theorem law_LayerFault.walk {w : World} {a0 : List Rec} (gv : GV 0 w) {v_a0 : Value} (f_a0 : Rd 5 encRec w v_a0 a0) {r : Bool} (H : law_LayerFault.sh a0 = some r) :
    Calls Tryd.prog 10 #[v_a0] w (Rt (RP w (.bool r))) := by
  unfold law_LayerFault.sh at H
  refine calls_of_W Tryd.func10 rfl (Nat.le_of_ble_eq_true rfl) Tryd.ntmps10 rfl ?_
  refine W_seq <| W_reg <| L_op (.plain rfl) rfl (ltb rfl) (X_assign (v := (.bool false)) rfl) <| L_nil <| thn_n <| W_seq <| W_reg <| L_op (.plain rfl) rfl (ltb rfl) (X_assign (v := (.int .i64 1048576)) rfl) <| L_nil <| thn_n <| W_seq <| W_reg <| L_op (.plain rfl) rfl (ltb rfl) (X_move (v := v_a0) rfl) <| L_op (.plain rfl) rfl (ltb rfl) (X_move (v := (.int .i64 1048576)) rfl) ?_
  obtain ⟨c1, H⟩ := bif_some H
  obtain ⟨c2, H⟩ := bif_some H
  obtain ⟨c3, H⟩ := bif_some H
  obtain ⟨c4, H⟩ := bif_some H
  refine L_callP (.plain rfl) rfl (ltb rfl) rfl Tryd.call33 (laws_szRecordS.calls (w := w) (a0 := a0) (a1 := 1048576) f_a0 (of_decide_eq_true c1) (of_decide_eq_true c2) (of_decide_eq_true c3) (of_decide_eq_true c4)) rfl <| fun w5 e6 => L_op (.plain rfl) rfl (ltb rfl) (X_assign (v := (.int .i64 (szRecS a0 1048576))) rfl) <| L_nil <| thn_n <| W_seq <| W_seq <| W_reg <| L_op (.plain rfl) rfl (ltb rfl) (X_move (v := (.int .i64 (szRecS a0 1048576))) rfl) <| L_op (.plain rfl) rfl (ltb rfl) (X_lss rfl rfl) <| L_nil <| thn_n ?_
  rcases bif_two H with ⟨q7, H⟩ | ⟨q7, H⟩
  · refine W_true (congrArg Value.bool q7) <| W_seq <| W_reg <| L_op (.plain rfl) rfl (ltb rfl) (X_assign (v := (.bool true)) rfl) <| L_nil <| thn_n <| W_ret <| thn_r <| fin_r ?_
    obtain rfl := Option.some.inj H
    exact fin1 rfl e6
  · refine W_false (congrArg Value.bool q7) <| W_skip <| thn_n <| W_seq <| W_reg <| L_op (.plain rfl) rfl (ltb rfl) (X_move (v := v_a0) rfl) ?_
    obtain ⟨c8, H⟩ := bif_some H
    refine L_callO (.plain rfl) rfl (ltb rfl) rfl Tryd.call35 (laws_toRecordS.calls (w := w5) (a0 := a0) (Rd.ext f_a0 e6) (of_decide_eq_true c8)) rfl <| fun v11 w9 e10 o12 => ?_
    obtain ⟨c13, H⟩ := bif_some H
    obtain ⟨c14, H⟩ := bif_some H
    refine L_callP (.plain rfl) rfl (ltb rfl) rfl Tryd.call34 (spec_LayerFault.calls (w := w9) (a0 := a0) (Own.rd o12) (of_decide_eq_true c13) (of_decide_eq_true c14)) rfl <| fun w15 e16 => L_op (.plain rfl) rfl (ltb rfl) (X_move rfl) <| L_op (.plain rfl) rfl (ltb rfl) (X_extract (v := (.int .i64 ((layerFaultL a0).1))) rfl rfl) <| L_op (.plain rfl) rfl (ltb rfl) (X_extract (v := (.int .i64 ((layerFaultL a0).2))) rfl rfl) <| L_op (.plain rfl) rfl (ltb rfl) (X_assign (v := (.int .i64 ((layerFaultL a0).1))) rfl) <| L_op (.plain rfl) rfl (ltb rfl) (X_assign (v := (.int .i64 ((layerFaultL a0).2))) rfl) <| L_nil <| thn_n <| W_seq <| W_reg <| L_op (.plain rfl) rfl (ltb rfl) (X_move (v := v_a0) rfl) ?_
    obtain ⟨c17, H⟩ := bif_some H
    refine L_callO (.plain rfl) rfl (ltb rfl) rfl Tryd.call35 (laws_toRecordS.calls (w := w15) (a0 := a0) (Rd.ext f_a0 (Ext.trans (Ext.trans e6 e10) e16)) (of_decide_eq_true c17)) rfl <| fun v20 w18 e19 o21 => L_op (.plain rfl) rfl (ltb rfl) (X_assign (v := v20) rfl) <| L_nil <| thn_n <| W_seq <| W_reg <| L_op (.plain rfl) rfl (ltb rfl) (X_move (v := v20) rfl) ?_
    obtain ⟨c22, H⟩ := bif_some H
    obtain ⟨c23, H⟩ := bif_some H
    refine L_callP (.plain rfl) rfl (ltb rfl) rfl Tryd.call36 (impl_LayerFault.calls (w := w18) (a0 := a0) (GV.ext gv (Ext.trans (Ext.trans (Ext.trans e6 e10) e16) e19)) (Own.rd o21) (of_decide_eq_true c22) (of_decide_eq_true c23)) rfl <| fun w24 e25 => L_op (.plain rfl) rfl (ltb rfl) (X_move rfl) <| L_op (.plain rfl) rfl (ltb rfl) (X_extract (v := (.int .i64 ((layerFaultL a0).1))) rfl rfl) <| L_op (.plain rfl) rfl (ltb rfl) (X_extract (v := (.int .i64 ((layerFaultL a0).2))) rfl rfl) <| L_op (.plain rfl) rfl (ltb rfl) (X_assign (v := (.int .i64 ((layerFaultL a0).1))) rfl) <| L_op (.plain rfl) rfl (ltb rfl) (X_assign (v := (.int .i64 ((layerFaultL a0).2))) rfl) <| L_nil <| thn_n <| W_seq <| W_seq <| W_reg <| L_op (.plain rfl) rfl (ltb rfl) (X_move (v := (.int .i64 ((layerFaultL a0).1))) rfl) <| L_op (.plain rfl) rfl (ltb rfl) (X_move (v := (.int .i64 ((layerFaultL a0).1))) rfl) <| L_op (.plain rfl) rfl (ltb rfl) (X_neq rfl rfl) <| L_op (.plain rfl) rfl (ltb rfl) (X_move (v := (.bool (!decide (((layerFaultL a0).1) = ((layerFaultL a0).1))))) rfl) <| L_grp 4 [(31, 35)] 34 (.bool ((!decide (((layerFaultL a0).1) = ((layerFaultL a0).1))) || (!decide (((layerFaultL a0).2) = ((layerFaultL a0).2))))) ?_ ?_
    · rcases bool_two (!decide (((layerFaultL a0).1) = ((layerFaultL a0).1))) with b25_ | b25_
      · exact L_skip rfl rfl (ltb rfl) (congrArg Value.bool b25_) rfl rfl (ltb rfl) <| L_skip rfl rfl (ltb rfl) (congrArg Value.bool b25_) rfl rfl (ltb rfl) <| L_skip rfl rfl (ltb rfl) (congrArg Value.bool b25_) rfl rfl (ltb rfl) <| L_op (.plain rfl) rfl (ltb rfl) (X_pick (b := true) (v := (.bool true)) (congrArg Value.bool b25_) rfl) <| L_nil <| thn_n ⟨(Kp.upd (Kp.upd (Kp.upd (Kp.upd (Kp.refl _ _) rfl) rfl) rfl) rfl), (or_t b25_), (Ext.refl w24)⟩
      · exact L_op (.guard 3 false 30 rfl rfl (ltb rfl) (congrArg Value.bool b25_)) rfl (ltb rfl) (X_move (v := (.int .i64 ((layerFaultL a0).2))) rfl) <| L_op (.guard 3 false 30 rfl rfl (ltb rfl) (congrArg Value.bool b25_)) rfl (ltb rfl) (X_move (v := (.int .i64 ((layerFaultL a0).2))) rfl) <| L_op (.guard 3 false 30 rfl rfl (ltb rfl) (congrArg Value.bool b25_)) rfl (ltb rfl) (X_neq rfl rfl) <| L_op (.plain rfl) rfl (ltb rfl) (X_pick (b := false) (v := (.bool (!decide (((layerFaultL a0).2) = ((layerFaultL a0).2))))) (congrArg Value.bool b25_) rfl) <| L_nil <| thn_n ⟨(Kp.upd (Kp.upd (Kp.upd (Kp.upd (Kp.refl _ _) rfl) rfl) rfl) rfl), (or_f b25_), (Ext.refl w24)⟩
    intro s31 w27 K28 h29 e30
    refine L_nil <| thn_n ?_
    rcases bif_two H with ⟨q32, H⟩ | ⟨q32, H⟩
    · refine W_true (h29.trans (congrArg Value.bool q32)) <| W_seq <| W_reg <| L_op (.plain rfl) rfl (ltb rfl) (X_assign (v := (.bool false)) rfl) <| L_nil <| thn_n <| W_ret <| thn_r <| fin_r ?_
      obtain rfl := Option.some.inj H
      exact fin1 rfl (Ext.trans (Ext.trans (Ext.trans (Ext.trans (Ext.trans e6 e10) e16) e19) e25) e30)
    · refine W_false (h29.trans (congrArg Value.bool q32)) <| W_skip <| thn_n <| W_seq <| W_seq <| W_reg <| L_op (.plain rfl) rfl (ltb rfl) (X_move (v := v20) (K28 6 rfl)) <| L_op (.plain rfl) rfl (ltb rfl) (X_move (v := v_a0) (K28 0 rfl)) ?_
      obtain ⟨c33, H⟩ := bif_some H
      refine L_callO (.plain rfl) rfl (ltb rfl) rfl Tryd.call35 (laws_toRecordS.calls (w := w27) (a0 := a0) (Rd.ext f_a0 (Ext.trans (Ext.trans (Ext.trans (Ext.trans (Ext.trans e6 e10) e16) e19) e25) e30)) (of_decide_eq_true c33)) rfl <| fun v36 w34 e35 o37 => ?_
      obtain ⟨c38, H⟩ := bif_some H
      refine L_callP (.plain rfl) rfl (ltb rfl) rfl Tryd.call37 (laws_eqRecordS.calls (w := w34) (a0 := a0) (a1 := a0) (Own.rd (Own.ext o21 (Ext.trans (Ext.trans e25 e30) e35))) (Own.rd o37) (of_decide_eq_true c38)) rfl <| fun w39 e40 => L_op (.plain rfl) rfl (ltb rfl) (X_not rfl) <| L_nil <| thn_n ?_
      rcases bif_two H with ⟨q41, H⟩ | ⟨q41, H⟩
      · refine W_true (congrArg Value.bool q41) <| W_seq <| W_reg <| L_op (.plain rfl) rfl (ltb rfl) (X_assign (v := (.bool false)) rfl) <| L_nil <| thn_n <| W_ret <| thn_r <| fin_r ?_
        obtain rfl := Option.some.inj H
        exact fin1 rfl (Ext.trans (Ext.trans (Ext.trans (Ext.trans (Ext.trans (Ext.trans (Ext.trans e6 e10) e16) e19) e25) e30) e35) e40)
      · refine W_false (congrArg Value.bool q41) <| W_skip <| thn_n <| W_seq <| W_reg <| L_op (.plain rfl) rfl (ltb rfl) (X_assign (v := (.bool true)) rfl) <| L_nil <| thn_n <| W_ret <| fin_r ?_
        obtain rfl := Option.some.inj H
        exact fin1 rfl (Ext.trans (Ext.trans (Ext.trans (Ext.trans (Ext.trans (Ext.trans (Ext.trans e6 e10) e16) e19) e25) e30) e35) e40)
theorem law_LayerFault.calls {w : World} {a0 : List Rec} (gv : GV 0 w) {v_a0 : Value} (f_a0 : Rd 5 encRec w v_a0 a0) (h0 : ∀ x ∈ a0, okRec x) (h1 : a0.length ≤ 9223372036854775807) :
    Calls Tryd.prog 10 #[v_a0] w (Rt (RP w (.bool true))) := law_LayerFault.walk gv f_a0 (law_LayerFault.eq a0 h0 h1)
/-! spec.l03OK -/
theorem spec_l03OK.walk {w : World} {a0 : List Rec} {v_a0 : Value} (f_a0 : Rd 5 encRec w v_a0 a0) {r : Bool} (H : spec_l03OK.sh a0 = some r) :
    Calls Tryd.prog 68 #[v_a0] w (Rt (RP w (.bool r))) := by
  unfold spec_l03OK.sh at H
  refine calls_of_W Tryd.func68 rfl (Nat.le_of_ble_eq_true rfl) Tryd.ntmps68 rfl ?_
  refine W_seq <| W_reg <| L_op (.plain rfl) rfl (ltb rfl) (X_assign (v := (.bool false)) rfl) <| L_nil <| thn_n <| W_seq <| W_reg <| L_op (.plain rfl) rfl (ltb rfl) (X_move (v := v_a0) rfl) ?_
  obtain ⟨c1, H⟩ := bif_some H
  obtain ⟨c2, H⟩ := bif_some H
  refine L_callP (.plain rfl) rfl (ltb rfl) rfl Tryd.call64 (spec_l03Fault.calls (w := w) (a0 := a0) f_a0 (of_decide_eq_true c1) (of_decide_eq_true c2)) rfl <| fun w3 e4 => L_op (.plain rfl) rfl (ltb rfl) (X_move rfl) <| L_op (.plain rfl) rfl (ltb rfl) (X_extract (v := (.int .i64 ((layerFault a0).1))) rfl rfl) <| L_op (.plain rfl) rfl (ltb rfl) (X_extract (v := (.int .i64 ((layerFault a0).2))) rfl rfl) <| L_op (.plain rfl) rfl (ltb rfl) (X_assign (v := (.int .i64 ((layerFault a0).1))) rfl) <| L_op (.plain rfl) rfl (ltb rfl) (X_assign (v := (.int .i64 ((layerFault a0).2))) rfl) <| L_nil <| thn_n <| W_seq <| W_reg <| L_op (.plain rfl) rfl (ltb rfl) (X_move (v := (.int .i64 ((layerFault a0).2))) rfl) <| L_op (.plain rfl) rfl (ltb rfl) (X_eql rfl rfl) <| L_op (.plain rfl) rfl (ltb rfl) (X_assign (v := (.bool (decide (((layerFault a0).2) = 0)))) rfl) <| L_nil <| thn_n <| W_ret <| fin_r ?_
  obtain rfl := Option.some.inj H
  exact fin1 rfl e4
theorem spec_l03OK.calls {w : World} {a0 : List Rec} {v_a0 : Value} (f_a0 : Rd 5 encRec w v_a0 a0) (h0 : a0.length ≤ 1048576) (h1 : ∀ x ∈ a0, x.path.length ≤ 1048576) :
    Calls Tryd.prog 68 #[v_a0] w (Rt (RP w (.bool (decide ((layerFault a0).2 = 0))))) := spec_l03OK.walk f_a0 (spec_l03OK.eq a0 h0 h1)
/-! spec.LayerOK -/
theorem spec_LayerOK.walk {w : World} {a0 : List Rec} {v_a0 : Value} (f_a0 : Rd 5 encRec w v_a0 a0) {r : Bool} (H : spec_LayerOK.sh a0 = some r) :
    Calls Tryd.prog 38 #[v_a0] w (Rt (RP w (.bool r))) := by
  unfold spec_LayerOK.sh at H
  refine calls_of_W Tryd.func38 rfl (Nat.le_of_ble_eq_true rfl) Tryd.ntmps38 rfl ?_
  refine W_seq <| W_reg <| L_op (.plain rfl) rfl (ltb rfl) (X_assign (v := (.bool false)) rfl) <| L_nil <| thn_n <| W_seq <| W_seq <| W_reg <| L_op (.plain rfl) rfl (ltb rfl) (X_move (v := v_a0) rfl) <| L_op (.plain rfl) rfl (ltb rfl) (X_lenR Tryd.underlying48 rfl f_a0) <| L_op (.plain rfl) rfl (ltb rfl) (X_gtr rfl rfl) <| L_nil <| thn_n ?_
  rcases bif_two H with ⟨q1, H⟩ | ⟨q1, H⟩
  · refine W_true (congrArg Value.bool q1) <| W_seq <| W_reg <| L_op (.plain rfl) rfl (ltb rfl) (X_assign (v := (.bool false)) rfl) <| L_nil <| thn_n <| W_ret <| thn_r <| fin_r ?_
    obtain rfl := Option.some.inj H
    exact fin1 rfl (Ext.refl w)
  · refine W_false (congrArg Value.bool q1) <| W_skip <| thn_n <| W_seq <| W_reg <| L_op (.plain rfl) rfl (ltb rfl) (X_move (v := v_a0) rfl) ?_
    obtain ⟨c2, H⟩ := bif_some H
    obtain ⟨c3, H⟩ := bif_some H
    refine L_callP (.plain rfl) rfl (ltb rfl) rfl Tryd.call68 (spec_l03OK.calls (w := w) (a0 := a0) f_a0 (of_decide_eq_true c2) (of_decide_eq_true c3)) rfl <| fun w4 e5 => L_op (.plain rfl) rfl (ltb rfl) (X_assign (v := (.bool (decide ((layerFault a0).2 = 0)))) rfl) <| L_nil <| thn_n <| W_ret <| fin_r ?_
    obtain rfl := Option.some.inj H
    exact fin1 rfl e5
theorem spec_LayerOK.calls {w : World} {a0 : List Rec} {v_a0 : Value} (f_a0 : Rd 5 encRec w v_a0 a0) (h0 : a0.length ≤ 1048576) (h1 : ∀ x ∈ a0, x.path.length ≤ 1048576) :
    Calls Tryd.prog 38 #[v_a0] w (Rt (RP w (.bool (decide ((layerFaultL a0).2 = 0))))) := spec_LayerOK.walk f_a0 (spec_LayerOK.eq a0 h0 h1)
/-! impl.LayerOK -/
theorem impl_LayerOK.walk {w : World} {a0 : List Rec} (gv : GV 0 w) {v_a0 : Value} (f_a0 : Rd 5 encRec w v_a0 a0) {r : Bool} (H : impl_LayerOK.sh a0 = some r) :
    Calls Tryd.prog 39 #[v_a0] w (Rt (RP w (.bool r))) := by
  unfold impl_LayerOK.sh at H
  refine calls_of_W Tryd.func39 rfl (Nat.le_of_ble_eq_true rfl) Tryd.ntmps39 rfl ?_
  refine W_seq <| W_reg <| L_op (.plain rfl) rfl (ltb rfl) (X_assign (v := (.bool false)) rfl) <| L_nil <| thn_n <| W_seq <| W_reg <| L_op (.plain rfl) rfl (ltb rfl) (X_move (v := v_a0) rfl) ?_
  obtain ⟨c1, H⟩ := bif_some H
  obtain ⟨c2, H⟩ := bif_some H
  refine L_callP (.plain rfl) rfl (ltb rfl) rfl Tryd.call36 (impl_LayerFault.calls (w := w) (a0 := a0) gv f_a0 (of_decide_eq_true c1) (of_decide_eq_true c2)) rfl <| fun w3 e4 => L_op (.plain rfl) rfl (ltb rfl) (X_move rfl) <| L_op (.plain rfl) rfl (ltb rfl) (X_extract (v := (.int .i64 ((layerFaultL a0).1))) rfl rfl) <| L_op (.plain rfl) rfl (ltb rfl) (X_extract (v := (.int .i64 ((layerFaultL a0).2))) rfl rfl) <| L_op (.plain rfl) rfl (ltb rfl) (X_assign (v := (.int .i64 ((layerFaultL a0).1))) rfl) <| L_op (.plain rfl) rfl (ltb rfl) (X_assign (v := (.int .i64 ((layerFaultL a0).2))) rfl) <| L_nil <| thn_n <| W_seq <| W_reg <| L_op (.plain rfl) rfl (ltb rfl) (X_move (v := (.int .i64 ((layerFaultL a0).2))) rfl) <| L_op (.plain rfl) rfl (ltb rfl) (X_eql rfl rfl) <| L_op (.plain rfl) rfl (ltb rfl) (X_assign (v := (.bool (decide (((layerFaultL a0).2) = 0)))) rfl) <| L_nil <| thn_n <| W_ret <| fin_r ?_
  obtain rfl := Option.some.inj H
  exact fin1 rfl e4
theorem impl_LayerOK.calls {w : World} {a0 : List Rec} (gv : GV 0 w) {v_a0 : Value} (f_a0 : Rd 5 encRec w v_a0 a0) (h0 : a0.length ≤ 1048576) (h1 : ∀ x ∈ a0, x.path.length ≤ 1048576) :
    Calls Tryd.prog 39 #[v_a0] w (Rt (RP w (.bool (decide ((layerFaultL a0).2 = 0))))) := impl_LayerOK.walk gv f_a0 (impl_LayerOK.eq a0 h0 h1)
end Go.Proofs.YtilogldgepaeiaaDoor
