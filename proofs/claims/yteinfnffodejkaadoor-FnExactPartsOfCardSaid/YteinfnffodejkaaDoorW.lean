/- The walks, by program (wip/tools). -/
import Derived.Test.YteinfnffodejkaaDoorProg
import Derived.Test.YteinfnffodejkaaDoorWA
set_option linter.unusedVariables false
set_option maxRecDepth 10000
namespace Go.Proofs.YteinfnffodejkaaDoor
open Go.UL Go.RowKit
/-! spec.l01Less -/
theorem spec_l01Less.walk {k : Nat} {w : World} {a0 : List UInt8} {a1 : List UInt8} {r : Bool} (H : spec_l01Less.sh k a0 a1 = some r) :
    Calls Tryd.prog 43 #[S a0, S a1] w (Rt (RP w (.bool r))) := by
  unfold spec_l01Less.sh at H
  refine calls_of_W Tryd.func43 rfl (Nat.le_of_ble_eq_true rfl) Tryd.ntmps43 rfl ?_
  refine W_seq <| W_reg <| L_op (.plain rfl) rfl (ltb rfl) (X_assign (v := (.bool false)) rfl) <| L_nil <| thn_n <| W_seq <| W_reg <| L_op (.plain rfl) rfl (ltb rfl) (X_move (v := (S a0)) rfl) ?_
  obtain ⟨c1, H⟩ := bif_some H
  refine L_callO (.plain rfl) rfl (ltb rfl) rfl Tryd.call47 (spec_l00Cut.calls (w := w) (a0 := a0) (a1 := 47) (of_decide_eq_true c1)) rfl <| fun v4 w2 e3 o5 => L_op (.plain rfl) rfl (ltb rfl) (X_assign (v := v4) rfl) <| L_nil <| thn_n <| W_seq <| W_reg <| L_op (.plain rfl) rfl (ltb rfl) (X_move (v := (S a1)) rfl) ?_
  obtain ⟨c6, H⟩ := bif_some H
  refine L_callO (.plain rfl) rfl (ltb rfl) rfl Tryd.call47 (spec_l00Cut.calls (w := w2) (a0 := a1) (a1 := 47) (of_decide_eq_true c6)) rfl <| fun v9 w7 e8 o10 => L_op (.plain rfl) rfl (ltb rfl) (X_assign (v := v9) rfl) <| L_nil <| thn_n <| W_seq <| W_seq <| W_reg <| L_op (.plain rfl) rfl (ltb rfl) (X_assign (v := (.int .i64 0)) rfl) <| L_nil <| thn_n ?_
  obtain ⟨z12, L13, C14⟩ := bind_some H
  clear H
  refine  W_cutQ (fun s0 s9 w9 => Kp [(4, 5), (7, 8), (12, 42)] s0 s9 ∧ Ext w7 w9 ∧ z12 = .inr ()) ?_ ?_
  · refine W_block <| W_loopI (fun s0 kk s9 w9 => ∃ (x7_11 : Int), Kp [(4, 5), (7, 8), (12, 42)] s0 s9 ∧ s9 7 = .int .i64 x7_11 ∧ Ext w7 w9 ∧ loopF (spec_l01Less.b1 a0 a1) kk x7_11 = some z12) k ⟨0, (Kp.refl _ _), rfl, (Ext.refl w7), L13⟩ ?_
    rintro k19 s20 w21 ⟨x7_11, K22, h25, e23, L24⟩
    cases k19 with
    | zero => exact absurd L24 (by simp [loopF])
    | succ k19 =>
      obtain ⟨t26, H, S27⟩ := loopF_succ L24
      clear L24
      unfold spec_l01Less.b1 at H
      refine W_seq <| W_seq <| W_reg <| L_op (.plain rfl) rfl (ltb rfl) (X_move (v := (.int .i64 x7_11)) h25) <| L_op (.plain rfl) rfl (ltb rfl) (X_move (v := v4) (K22 5 rfl)) <| L_op (.plain rfl) rfl (ltb rfl) (X_lenR Tryd.underlying34 rfl (Own.rd (Own.ext o5 (Ext.trans e8 e23)))) <| L_op (.plain rfl) rfl (ltb rfl) (X_lss rfl rfl) <| L_op (.plain rfl) rfl (ltb rfl) (X_move (v := (.bool (decide (x7_11 < ((cut 47 a0).length : Int))))) rfl) <| L_grp 5 [(17, 22)] 21 (.bool ((decide (x7_11 < ((cut 47 a0).length : Int))) && (decide (x7_11 < ((cut 47 a1).length : Int))))) ?_ ?_
      · rcases bool_two (decide (x7_11 < ((cut 47 a0).length : Int))) with b27_ | b27_
        · exact L_op (.guard 4 true 16 rfl rfl (ltb rfl) (congrArg Value.bool b27_)) rfl (ltb rfl) (X_move (v := (.int .i64 x7_11)) h25) <| L_op (.guard 4 true 16 rfl rfl (ltb rfl) (congrArg Value.bool b27_)) rfl (ltb rfl) (X_move (v := v9) (K22 6 rfl)) <| L_op (.guard 4 true 16 rfl rfl (ltb rfl) (congrArg Value.bool b27_)) rfl (ltb rfl) (X_lenR Tryd.underlying34 rfl (Own.rd (Own.ext o10 e23))) <| L_op (.guard 4 true 16 rfl rfl (ltb rfl) (congrArg Value.bool b27_)) rfl (ltb rfl) (X_lss rfl rfl) <| L_op (.plain rfl) rfl (ltb rfl) (X_pick (b := true) (v := (.bool (decide (x7_11 < ((cut 47 a1).length : Int))))) (congrArg Value.bool b27_) rfl) <| L_nil <| thn_n ⟨(Kp.upd (Kp.upd (Kp.upd (Kp.upd (Kp.upd (Kp.refl _ _) rfl) rfl) rfl) rfl) rfl), (and_t b27_), (Ext.refl w21)⟩
        · exact L_skip rfl rfl (ltb rfl) (congrArg Value.bool b27_) rfl rfl (ltb rfl) <| L_skip rfl rfl (ltb rfl) (congrArg Value.bool b27_) rfl rfl (ltb rfl) <| L_skip rfl rfl (ltb rfl) (congrArg Value.bool b27_) rfl rfl (ltb rfl) <| L_skip rfl rfl (ltb rfl) (congrArg Value.bool b27_) rfl rfl (ltb rfl) <| L_op (.plain rfl) rfl (ltb rfl) (X_pick (b := false) (v := (.bool false)) (congrArg Value.bool b27_) rfl) <| L_nil <| thn_n ⟨(Kp.upd (Kp.upd (Kp.upd (Kp.upd (Kp.upd (Kp.refl _ _) rfl) rfl) rfl) rfl) rfl), (and_f b27_), (Ext.refl w21)⟩
      intro s33 w29 K30 h31 e32
      refine L_nil <| thn_n ?_
      rcases bif_two H with ⟨q34, H⟩ | ⟨q34, H⟩
      · refine W_true (h31.trans (congrArg Value.bool q34)) <| W_skip <| thn_n <| W_seq <| W_block <| W_seq ?_
        obtain ⟨c35, H⟩ := bif_some H
        obtain ⟨c38, H⟩ := bif_some H
        refine W_drawM [LEq v4, LEq (.int .i64 x7_11), LAt0 (encS (gt (cut 47 a0) x7_11)), LEq (S (gt (cut 47 a0) x7_11)), LEq v9, LEq (.int .i64 x7_11), LAt0 (encS (gt (cut 47 a1) x7_11)), LEq (S (gt (cut 47 a1) x7_11)), LEq (.bool (!decide ((gt (cut 47 a0) x7_11) = (gt (cut 47 a1) x7_11))))] (by kernel_rfl) (by kernel_rfl) ⟨LEq.mono, LEq.mono, LAt0.mono, LEq.mono, LEq.mono, LEq.mono, LAt0.mono, LEq.mono, LEq.mono, trivial⟩ ⟨?_, ?_, ?_, ?_, ?_, ?_, ?_, ?_, ?_, trivial⟩ ?_
        · intro s41 w42 e43 hf44 hd45 _
          exact L_op (.plain rfl) rfl (ltb rfl) (X_move (v := v4) ((hf44 5 rfl).trans ((K30 5 rfl).trans (K22 5 rfl)))) <| L_nil <| stepEnd rfl rfl (Ext.refl w42) rfl
        · intro s46 w47 e48 hf49 hd50 _
          exact L_op (.plain rfl) rfl (ltb rfl) (X_move (v := (.int .i64 x7_11)) ((hf49 7 rfl).trans ((K30 7 rfl).trans h25))) <| L_nil <| stepEnd rfl rfl (Ext.refl w47) rfl
        · intro s51 w52 e53 hf54 hd55 _
          have d56 : s51 24 = v4 := (hd55 0 rfl)
          have d57 : s51 25 = (.int .i64 x7_11) := (hd55 1 rfl)
          have c58 := c35
          exact L_idx (.plain rfl) rfl (ltb rfl) rfl Tryd.underlying34 Tryd.sizeOf9 d56 (Own.rd (Own.ext o5 (Ext.trans (Ext.trans (Ext.trans e8 e23) e32) e53))) d57 c58 <| fun p59 h60 => L_nil <| stepEnd rfl rfl (Ext.refl w52) ⟨_, rfl, h60⟩
        · intro s61 w62 e63 hf64 hd65 _
          obtain ⟨p66, h67, h68⟩ := (hd65 2 rfl)
          exact L_op (.plain rfl) rfl (ltb rfl) (X_loadAt Tryd.isAgg9 h67 h68 rfl) <| L_nil <| stepEnd rfl rfl (Ext.refl w62) rfl
        · intro s69 w70 e71 hf72 hd73 _
          exact L_op (.plain rfl) rfl (ltb rfl) (X_move (v := v9) ((hf72 6 rfl).trans ((K30 6 rfl).trans (K22 6 rfl)))) <| L_nil <| stepEnd rfl rfl (Ext.refl w70) rfl
        · intro s74 w75 e76 hf77 hd78 _
          exact L_op (.plain rfl) rfl (ltb rfl) (X_move (v := (.int .i64 x7_11)) ((hf77 7 rfl).trans ((K30 7 rfl).trans h25))) <| L_nil <| stepEnd rfl rfl (Ext.refl w75) rfl
        · intro s79 w80 e81 hf82 hd83 _
          have d84 : s79 28 = v9 := (hd83 4 rfl)
          have d85 : s79 29 = (.int .i64 x7_11) := (hd83 5 rfl)
          have c86 := c38
          exact L_idx (.plain rfl) rfl (ltb rfl) rfl Tryd.underlying34 Tryd.sizeOf9 d84 (Own.rd (Own.ext o10 (Ext.trans (Ext.trans e23 e32) e81))) d85 c86 <| fun p87 h88 => L_nil <| stepEnd rfl rfl (Ext.refl w80) ⟨_, rfl, h88⟩
        · intro s89 w90 e91 hf92 hd93 _
          obtain ⟨p94, h95, h96⟩ := (hd93 6 rfl)
          exact L_op (.plain rfl) rfl (ltb rfl) (X_loadAt Tryd.isAgg9 h95 h96 rfl) <| L_nil <| stepEnd rfl rfl (Ext.refl w90) rfl
        · intro s97 w98 e99 hf100 hd101 _
          have d102 : s97 27 = (S (gt (cut 47 a0) x7_11)) := (hd101 3 rfl)
          have d103 : s97 31 = (S (gt (cut 47 a1) x7_11)) := (hd101 7 rfl)
          exact L_op (.plain rfl) rfl (ltb rfl) (X_sne d102 d103) <| L_nil <| stepEnd rfl rfl (Ext.refl w98) rfl
        intro s104 w105 e106 hf107 ha108
        have K109 := Kp.ofD (kp := [(24, 33)]) rfl hf107
        have d110 : s104 32 = (.bool (!decide ((gt (cut 47 a0) x7_11) = (gt (cut 47 a1) x7_11)))) := ha108 8 rfl
        clear ha108 hf107
        refine thn_n ?_
        rcases bif_two H with ⟨q111, H⟩ | ⟨q111, H⟩
        · refine W_true (d110.trans (congrArg Value.bool q111)) <| W_seq ?_
          obtain ⟨c112, H⟩ := bif_some H
          obtain ⟨c115, H⟩ := bif_some H
          refine W_drawM [LEq v4, LEq (.int .i64 x7_11), LAt0 (encS (gt (cut 47 a0) x7_11)), LEq (S (gt (cut 47 a0) x7_11)), LEq v9, LEq (.int .i64 x7_11), LAt0 (encS (gt (cut 47 a1) x7_11)), LEq (S (gt (cut 47 a1) x7_11)), LEq (.bool (lt8 (gt (cut 47 a0) x7_11) (gt (cut 47 a1) x7_11))), LEq (.bool (lt8 (gt (cut 47 a0) x7_11) (gt (cut 47 a1) x7_11)))] (by kernel_rfl) (by kernel_rfl) ⟨LEq.mono, LEq.mono, LAt0.mono, LEq.mono, LEq.mono, LEq.mono, LAt0.mono, LEq.mono, LEq.mono, LEq.mono, trivial⟩ ⟨?_, ?_, ?_, ?_, ?_, ?_, ?_, ?_, ?_, ?_, trivial⟩ ?_
          · intro s118 w119 e120 hf121 hd122 _
            exact L_op (.plain rfl) rfl (ltb rfl) (X_move (v := v4) ((hf121 5 rfl).trans ((K109 5 rfl).trans ((K30 5 rfl).trans (K22 5 rfl))))) <| L_nil <| stepEnd rfl rfl (Ext.refl w119) rfl
          · intro s123 w124 e125 hf126 hd127 _
            exact L_op (.plain rfl) rfl (ltb rfl) (X_move (v := (.int .i64 x7_11)) ((hf126 7 rfl).trans ((K109 7 rfl).trans ((K30 7 rfl).trans h25)))) <| L_nil <| stepEnd rfl rfl (Ext.refl w124) rfl
          · intro s128 w129 e130 hf131 hd132 _
            have d133 : s128 33 = v4 := (hd132 0 rfl)
            have d134 : s128 34 = (.int .i64 x7_11) := (hd132 1 rfl)
            have c135 := c112
            exact L_idx (.plain rfl) rfl (ltb rfl) rfl Tryd.underlying34 Tryd.sizeOf9 d133 (Own.rd (Own.ext o5 (Ext.trans (Ext.trans (Ext.trans (Ext.trans e8 e23) e32) e106) e130))) d134 c135 <| fun p136 h137 => L_nil <| stepEnd rfl rfl (Ext.refl w129) ⟨_, rfl, h137⟩
          · intro s138 w139 e140 hf141 hd142 _
            obtain ⟨p143, h144, h145⟩ := (hd142 2 rfl)
            exact L_op (.plain rfl) rfl (ltb rfl) (X_loadAt Tryd.isAgg9 h144 h145 rfl) <| L_nil <| stepEnd rfl rfl (Ext.refl w139) rfl
          · intro s146 w147 e148 hf149 hd150 _
            exact L_op (.plain rfl) rfl (ltb rfl) (X_move (v := v9) ((hf149 6 rfl).trans ((K109 6 rfl).trans ((K30 6 rfl).trans (K22 6 rfl))))) <| L_nil <| stepEnd rfl rfl (Ext.refl w147) rfl
          · intro s151 w152 e153 hf154 hd155 _
            exact L_op (.plain rfl) rfl (ltb rfl) (X_move (v := (.int .i64 x7_11)) ((hf154 7 rfl).trans ((K109 7 rfl).trans ((K30 7 rfl).trans h25)))) <| L_nil <| stepEnd rfl rfl (Ext.refl w152) rfl
          · intro s156 w157 e158 hf159 hd160 _
            have d161 : s156 37 = v9 := (hd160 4 rfl)
            have d162 : s156 38 = (.int .i64 x7_11) := (hd160 5 rfl)
            have c163 := c115
            exact L_idx (.plain rfl) rfl (ltb rfl) rfl Tryd.underlying34 Tryd.sizeOf9 d161 (Own.rd (Own.ext o10 (Ext.trans (Ext.trans (Ext.trans e23 e32) e106) e158))) d162 c163 <| fun p164 h165 => L_nil <| stepEnd rfl rfl (Ext.refl w157) ⟨_, rfl, h165⟩
          · intro s166 w167 e168 hf169 hd170 _
            obtain ⟨p171, h172, h173⟩ := (hd170 6 rfl)
            exact L_op (.plain rfl) rfl (ltb rfl) (X_loadAt Tryd.isAgg9 h172 h173 rfl) <| L_nil <| stepEnd rfl rfl (Ext.refl w167) rfl
          · intro s174 w175 e176 hf177 hd178 _
            have d179 : s174 36 = (S (gt (cut 47 a0) x7_11)) := (hd178 3 rfl)
            have d180 : s174 40 = (S (gt (cut 47 a1) x7_11)) := (hd178 7 rfl)
            exact L_op (.plain rfl) rfl (ltb rfl) (X_slt d179 d180) <| L_nil <| stepEnd rfl rfl (Ext.refl w175) rfl
          · intro s181 w182 e183 hf184 hd185 _
            have d186 : s181 41 = (.bool (lt8 (gt (cut 47 a0) x7_11) (gt (cut 47 a1) x7_11))) := (hd185 8 rfl)
            exact L_op (.plain rfl) rfl (ltb rfl) (X_assign (v := (.bool (lt8 (gt (cut 47 a0) x7_11) (gt (cut 47 a1) x7_11)))) d186) <| L_nil <| stepEnd rfl rfl (Ext.refl w182) rfl
          intro s187 w188 e189 hf190 ha191
          have K192 := Kp.ofD (kp := [(4, 5), (33, 42)]) rfl hf190
          have d193 : s187 4 = (.bool (lt8 (gt (cut 47 a0) x7_11) (gt (cut 47 a1) x7_11))) := ha191 9 rfl
          clear ha191 hf190
          refine thn_n <| W_ret <| blk_r <| thn_r <| thn_r <| blk_r <| thn_r <| thn_r <| fin_r ?_
          obtain rfl := Option.some.inj H
          obtain rfl := Option.some.inj S27
          have H := C14
          obtain rfl := Option.some.inj H
          exact fin1 d193 (Ext.trans (Ext.trans (Ext.trans (Ext.trans (Ext.trans e3 e8) e23) e32) e106) e189)
        · refine W_false (d110.trans (congrArg Value.bool q111)) <| W_skip <| blk_n <| thn_n <| W_reg <| L_op (.plain rfl) rfl (ltb rfl) (X_move (v := (.int .i64 x7_11)) ((K109 7 rfl).trans ((K30 7 rfl).trans h25))) <| L_op (.plain rfl) rfl (ltb rfl) (X_add rfl rfl) <| L_op (.plain rfl) rfl (ltb rfl) (X_assign (v := (.int .i64 (IntKind.wrap .i64 (x7_11 + 1)))) rfl) <| L_nil <| thn_n ?_
          obtain rfl := Option.some.inj H
          exact ⟨_, Nat.lt_succ_self _, IntKind.wrap .i64 (x7_11 + 1), (Kp.upd (Kp.upd (Kp.upd (Kp.cut (Kp.cut (Kp.upd (Kp.upd (Kp.upd (Kp.upd (Kp.upd K22 rfl) rfl) rfl) rfl) rfl) K30 rfl) K109 rfl) rfl) rfl) rfl), rfl, (Ext.trans (Ext.trans e23 e32) e106), S27⟩
      · refine W_false (h31.trans (congrArg Value.bool q34)) <| W_exit <| thn_x <| thn_x <| blk_x <| thn_n ?_
        obtain rfl := Option.some.inj H
        obtain rfl := Option.some.inj S27
        exact ⟨(Kp.cut (Kp.upd (Kp.upd (Kp.upd (Kp.upd (Kp.upd K22 rfl) rfl) rfl) rfl) rfl) K30 rfl), (Ext.trans e23 e32), rfl⟩
  · rintro s16 w15 ⟨K17, e18, y194⟩
    rw [y194] at C14
    have H := C14
    replace H : _ = some _ := H
    refine thn_n <| W_seq <| W_reg <| L_op (.plain rfl) rfl (ltb rfl) (X_move (v := v4) (K17 5 rfl)) <| L_op (.plain rfl) rfl (ltb rfl) (X_lenR Tryd.underlying34 rfl (Own.rd (Own.ext o5 (Ext.trans e8 e18)))) <| L_op (.plain rfl) rfl (ltb rfl) (X_move (v := v9) (K17 6 rfl)) <| L_op (.plain rfl) rfl (ltb rfl) (X_lenR Tryd.underlying34 rfl (Own.rd (Own.ext o10 e18))) <| L_op (.plain rfl) rfl (ltb rfl) (X_lss rfl rfl) <| L_op (.plain rfl) rfl (ltb rfl) (X_assign rfl) <| L_nil <| thn_n <| W_ret <| fin_r ?_
    obtain rfl := Option.some.inj H
    exact fin1 rfl (Ext.trans (Ext.trans e3 e8) e18)
theorem spec_l01Less.calls {w : World} {a0 : List UInt8} {a1 : List UInt8} (h0 : a0.length ≤ 1048576) (h1 : a1.length ≤ 1048576) :
    Calls Tryd.prog 43 #[S a0, S a1] w (Rt (RP w (.bool (lessL (cut 47 a0) (cut 47 a1))))) := by
  obtain ⟨k, h⟩ := spec_l01Less.eq a0 a1 h0 h1
  exact spec_l01Less.walk h
/-! spec.PathLess -/
theorem spec_PathLess.walk {w : World} {a0 : List UInt8} {a1 : List UInt8} {r : Bool} (H : spec_PathLess.sh a0 a1 = some r) :
    Calls Tryd.prog 20 #[S a0, S a1] w (Rt (RP w (.bool r))) := by
  unfold spec_PathLess.sh at H
  refine calls_of_W Tryd.func20 rfl (Nat.le_of_ble_eq_true rfl) Tryd.ntmps20 rfl ?_
  refine W_seq <| W_reg <| L_op (.plain rfl) rfl (ltb rfl) (X_assign (v := (.bool false)) rfl) <| L_nil <| thn_n <| W_seq <| W_seq <| W_reg <| L_op (.plain rfl) rfl (ltb rfl) (X_move (v := (S a0)) rfl) <| L_op (.plain rfl) rfl (ltb rfl) (X_lenS Tryd.underlying9 rfl) <| L_op (.plain rfl) rfl (ltb rfl) (X_gtr rfl rfl) <| L_op (.plain rfl) rfl (ltb rfl) (X_move (v := (.bool (decide (65536 < (a0.length : Int))))) rfl) <| L_grp 4 [(9, 13)] 12 (.bool ((decide (65536 < (a0.length : Int))) || (decide (65536 < (a1.length : Int))))) ?_ ?_
  · rcases bool_two (decide (65536 < (a0.length : Int))) with b0_ | b0_
    · exact L_skip rfl rfl (ltb rfl) (congrArg Value.bool b0_) rfl rfl (ltb rfl) <| L_skip rfl rfl (ltb rfl) (congrArg Value.bool b0_) rfl rfl (ltb rfl) <| L_skip rfl rfl (ltb rfl) (congrArg Value.bool b0_) rfl rfl (ltb rfl) <| L_op (.plain rfl) rfl (ltb rfl) (X_pick (b := true) (v := (.bool true)) (congrArg Value.bool b0_) rfl) <| L_nil <| thn_n ⟨(Kp.upd (Kp.upd (Kp.upd (Kp.upd (Kp.refl _ _) rfl) rfl) rfl) rfl), (or_t b0_), (Ext.refl w)⟩
    · exact L_op (.guard 3 false 8 rfl rfl (ltb rfl) (congrArg Value.bool b0_)) rfl (ltb rfl) (X_move (v := (S a1)) rfl) <| L_op (.guard 3 false 8 rfl rfl (ltb rfl) (congrArg Value.bool b0_)) rfl (ltb rfl) (X_lenS Tryd.underlying9 rfl) <| L_op (.guard 3 false 8 rfl rfl (ltb rfl) (congrArg Value.bool b0_)) rfl (ltb rfl) (X_gtr rfl rfl) <| L_op (.plain rfl) rfl (ltb rfl) (X_pick (b := false) (v := (.bool (decide (65536 < (a1.length : Int))))) (congrArg Value.bool b0_) rfl) <| L_nil <| thn_n ⟨(Kp.upd (Kp.upd (Kp.upd (Kp.upd (Kp.refl _ _) rfl) rfl) rfl) rfl), (or_f b0_), (Ext.refl w)⟩
  intro s6 w2 K3 h4 e5
  refine L_nil <| thn_n ?_
  rcases bif_two H with ⟨q7, H⟩ | ⟨q7, H⟩
  · refine W_true (h4.trans (congrArg Value.bool q7)) <| W_seq <| W_reg <| L_op (.plain rfl) rfl (ltb rfl) (X_assign (v := (.bool false)) rfl) <| L_nil <| thn_n <| W_ret <| thn_r <| fin_r ?_
    obtain rfl := Option.some.inj H
    exact fin1 rfl e5
  · refine W_false (h4.trans (congrArg Value.bool q7)) <| W_skip <| thn_n <| W_seq <| W_reg <| L_op (.plain rfl) rfl (ltb rfl) (X_move (v := (S a0)) (K3 0 rfl)) <| L_callP (.plain rfl) rfl (ltb rfl) rfl Tryd.call29 (spec_l01OK.calls (w := w2) (a0 := a0)) rfl <| fun w8 e9 => L_op (.plain rfl) rfl (ltb rfl) (X_move (v := (.bool (pathOK a0))) rfl) <| L_grp 3 [(16, 19)] 18 (.bool ((pathOK a0) && (pathOK a1))) ?_ ?_
    · rcases bool_two (pathOK a0) with b9_ | b9_
      · exact L_op (.guard 2 true 15 rfl rfl (ltb rfl) (congrArg Value.bool b9_)) rfl (ltb rfl) (X_move (v := (S a1)) (K3 1 rfl)) <| L_callP (.guard 2 true 15 rfl rfl (ltb rfl) (congrArg Value.bool b9_)) rfl (ltb rfl) rfl Tryd.call29 (spec_l01OK.calls (w := w8) (a0 := a1)) rfl <| fun w11 e12 => L_op (.plain rfl) rfl (ltb rfl) (X_pick (b := true) (v := (.bool (pathOK a1))) (congrArg Value.bool b9_) rfl) <| L_nil <| thn_n ⟨(Kp.upd (Kp.upd (Kp.upd (Kp.refl _ _) rfl) rfl) rfl), (and_t b9_), e12⟩
      · exact L_skip rfl rfl (ltb rfl) (congrArg Value.bool b9_) rfl rfl (ltb rfl) <| L_skip rfl rfl (ltb rfl) (congrArg Value.bool b9_) rfl rfl (ltb rfl) <| L_op (.plain rfl) rfl (ltb rfl) (X_pick (b := false) (v := (.bool false)) (congrArg Value.bool b9_) rfl) <| L_nil <| thn_n ⟨(Kp.upd (Kp.upd (Kp.upd (Kp.refl _ _) rfl) rfl) rfl), (and_f b9_), (Ext.refl w8)⟩
    intro s15 w11 K12 h13 e14
    refine L_op (.plain rfl) rfl (ltb rfl) (X_move (v := (.bool ((pathOK a0) && (pathOK a1)))) h13) ?_
    obtain ⟨z17, x18, H⟩ := bind_some H
    refine L_grpE 4 [(20, 24)] 23 (fun q => q = z17) ?_ ?_
    · rcases bif_two x18 with ⟨b15_, H⟩ | ⟨b15_, H⟩
      · refine L_op (.guard 6 true 19 rfl rfl (ltb rfl) (congrArg Value.bool b15_)) rfl (ltb rfl) (X_move (v := (S a0)) ((K12 0 rfl).trans (K3 0 rfl))) <| L_op (.guard 6 true 19 rfl rfl (ltb rfl) (congrArg Value.bool b15_)) rfl (ltb rfl) (X_move (v := (S a1)) ((K12 1 rfl).trans (K3 1 rfl))) ?_
        obtain ⟨c17, H⟩ := bif_some H
        obtain ⟨c18, H⟩ := bif_some H
        refine L_callP (.guard 6 true 19 rfl rfl (ltb rfl) (congrArg Value.bool b15_)) rfl (ltb rfl) rfl Tryd.call43 (spec_l01Less.calls (w := w11) (a0 := a0) (a1 := a1) (of_decide_eq_true c17) (of_decide_eq_true c18)) rfl <| fun w19 e20 => L_op (.plain rfl) rfl (ltb rfl) (X_pick (b := true) (v := (.bool (lessL (cut 47 a0) (cut 47 a1)))) (congrArg Value.bool b15_) rfl) ?_
        obtain rfl := Option.some.inj H
        exact L_nil <| thn_n ⟨(Kp.upd (Kp.upd (Kp.upd (Kp.upd (Kp.refl _ _) rfl) rfl) rfl) rfl), ⟨_, rfl, rfl⟩, e20⟩
      · refine L_skip rfl rfl (ltb rfl) (congrArg Value.bool b15_) rfl rfl (ltb rfl) <| L_skip rfl rfl (ltb rfl) (congrArg Value.bool b15_) rfl rfl (ltb rfl) <| L_skip rfl rfl (ltb rfl) (congrArg Value.bool b15_) rfl rfl (ltb rfl) <| L_op (.plain rfl) rfl (ltb rfl) (X_pick (b := false) (v := (.bool false)) (congrArg Value.bool b15_) rfl) ?_
        obtain rfl := Option.some.inj H
        exact L_nil <| thn_n ⟨(Kp.upd (Kp.upd (Kp.upd (Kp.upd (Kp.refl _ _) rfl) rfl) rfl) rfl), ⟨_, rfl, rfl⟩, (Ext.refl w11)⟩
    intro s23 w19 z24 K20 hq h21 e22
    rw [hq] at h21; clear hq
    refine L_op (.plain rfl) rfl (ltb rfl) (X_assign (v := (.bool z17)) h21) <| L_nil <| thn_n <| W_ret <| fin_r ?_
    obtain rfl := Option.some.inj H
    exact fin1 rfl (Ext.trans (Ext.trans (Ext.trans e5 e9) e14) e22)
theorem spec_PathLess.calls {w : World} {a0 : List UInt8} {a1 : List UInt8} :
    Calls Tryd.prog 20 #[S a0, S a1] w (Rt (RP w (.bool (pathLess a0 a1)))) := spec_PathLess.walk (spec_PathLess.eq a0 a1)
/-! cmp.isNaN(string) -/
theorem cmp_isNaNS.walk {w : World} {a0 : List UInt8} {r : Bool} (H : cmp_isNaNS.sh a0 = some r) :
    Calls Tryd.prog 63 #[S a0] w (Rt (RP w (.bool r))) := by
  unfold cmp_isNaNS.sh at H
  refine calls_of_W Tryd.func63 rfl (Nat.le_of_ble_eq_true rfl) Tryd.ntmps63 rfl ?_
  refine W_seq <| W_reg <| L_op (.plain rfl) rfl (ltb rfl) (X_assign (v := (.bool false)) rfl) <| L_nil <| thn_n <| W_seq <| W_reg <| L_op (.plain rfl) rfl (ltb rfl) (X_move (v := (S a0)) rfl) <| L_op (.plain rfl) rfl (ltb rfl) (X_move (v := (S a0)) rfl) <| L_op (.plain rfl) rfl (ltb rfl) (X_sne rfl rfl) <| L_op (.plain rfl) rfl (ltb rfl) (X_assign (v := (.bool (!decide (a0 = a0)))) rfl) <| L_nil <| thn_n <| W_ret <| fin_r ?_
  obtain rfl := Option.some.inj H
  exact fin1 rfl (Ext.refl w)
theorem cmp_isNaNS.calls {w : World} {a0 : List UInt8} :
    Calls Tryd.prog 63 #[S a0] w (Rt (RP w (.bool false))) := cmp_isNaNS.walk (cmp_isNaNS.eq a0)
/-! cmp.Compare(string) -/
theorem cmp_CompareS.walk {w : World} {a0 : List UInt8} {a1 : List UInt8} {r : Int} (H : cmp_CompareS.sh a0 a1 = some r) :
    Calls Tryd.prog 59 #[S a0, S a1] w (Rt (RP w (.int .i64 r))) := by
  unfold cmp_CompareS.sh at H
  refine calls_of_W Tryd.func59 rfl (Nat.le_of_ble_eq_true rfl) Tryd.ntmps59 rfl ?_
  refine W_seq <| W_reg <| L_op (.plain rfl) rfl (ltb rfl) (X_assign (v := (.int .i64 0)) rfl) <| L_nil <| thn_n <| W_seq <| W_reg <| L_op (.plain rfl) rfl (ltb rfl) (X_move (v := (S a0)) rfl) <| L_callP (.plain rfl) rfl (ltb rfl) rfl Tryd.call63 (cmp_isNaNS.calls (w := w) (a0 := a0)) rfl <| fun w1 e2 => L_op (.plain rfl) rfl (ltb rfl) (X_assign (v := (.bool false)) rfl) <| L_nil <| thn_n <| W_seq <| W_reg <| L_op (.plain rfl) rfl (ltb rfl) (X_move (v := (S a1)) rfl) <| L_callP (.plain rfl) rfl (ltb rfl) rfl Tryd.call63 (cmp_isNaNS.calls (w := w1) (a0 := a1)) rfl <| fun w3 e4 => L_op (.plain rfl) rfl (ltb rfl) (X_assign (v := (.bool false)) rfl) <| L_nil <| thn_n <| W_seq <| W_seq <| W_reg <| L_op (.plain rfl) rfl (ltb rfl) (X_move (v := (.bool false)) rfl) <| L_nil <| thn_n ?_
  rcases bif_two H with ⟨q5, H⟩ | ⟨q5, H⟩
  · refine W_true (congrArg Value.bool q5) <| W_seq <| W_seq <| W_reg <| L_op (.plain rfl) rfl (ltb rfl) (X_move (v := (.bool false)) rfl) <| L_nil <| thn_n ?_
    rcases bif_two H with ⟨q6, H⟩ | ⟨q6, H⟩
    · refine W_true (congrArg Value.bool q6) <| W_seq <| W_reg <| L_op (.plain rfl) rfl (ltb rfl) (X_assign (v := (.int .i64 0)) rfl) <| L_nil <| thn_n <| W_ret <| thn_r <| thn_r <| fin_r ?_
      obtain rfl := Option.some.inj H
      exact fin1 rfl (Ext.trans e2 e4)
    · refine W_false (congrArg Value.bool q6) <| W_skip <| thn_n <| W_seq <| W_reg <| L_op (.plain rfl) rfl (ltb rfl) (X_assign (v := (.int .i64 (-1))) rfl) <| L_nil <| thn_n <| W_ret <| thn_r <| fin_r ?_
      obtain rfl := Option.some.inj H
      exact fin1 rfl (Ext.trans e2 e4)
  · refine W_false (congrArg Value.bool q5) <| W_skip <| thn_n <| W_seq <| W_seq <| W_reg <| L_op (.plain rfl) rfl (ltb rfl) (X_move (v := (.bool false)) rfl) <| L_nil <| thn_n ?_
    rcases bif_two H with ⟨q7, H⟩ | ⟨q7, H⟩
    · refine W_true (congrArg Value.bool q7) <| W_seq <| W_reg <| L_op (.plain rfl) rfl (ltb rfl) (X_assign (v := (.int .i64 1)) rfl) <| L_nil <| thn_n <| W_ret <| thn_r <| fin_r ?_
      obtain rfl := Option.some.inj H
      exact fin1 rfl (Ext.trans e2 e4)
    · refine W_false (congrArg Value.bool q7) <| W_skip <| thn_n <| W_seq <| W_seq <| W_reg <| L_op (.plain rfl) rfl (ltb rfl) (X_move (v := (S a0)) rfl) <| L_op (.plain rfl) rfl (ltb rfl) (X_move (v := (S a1)) rfl) <| L_op (.plain rfl) rfl (ltb rfl) (X_slt rfl rfl) <| L_nil <| thn_n ?_
      rcases bif_two H with ⟨q8, H⟩ | ⟨q8, H⟩
      · refine W_true (congrArg Value.bool q8) <| W_seq <| W_reg <| L_op (.plain rfl) rfl (ltb rfl) (X_assign (v := (.int .i64 (-1))) rfl) <| L_nil <| thn_n <| W_ret <| thn_r <| fin_r ?_
        obtain rfl := Option.some.inj H
        exact fin1 rfl (Ext.trans e2 e4)
      · refine W_false (congrArg Value.bool q8) <| W_skip <| thn_n <| W_seq <| W_seq <| W_reg <| L_op (.plain rfl) rfl (ltb rfl) (X_move (v := (S a0)) rfl) <| L_op (.plain rfl) rfl (ltb rfl) (X_move (v := (S a1)) rfl) <| L_op (.plain rfl) rfl (ltb rfl) (X_sgt rfl rfl) <| L_nil <| thn_n ?_
        rcases bif_two H with ⟨q9, H⟩ | ⟨q9, H⟩
        · refine W_true (congrArg Value.bool q9) <| W_seq <| W_reg <| L_op (.plain rfl) rfl (ltb rfl) (X_assign (v := (.int .i64 1)) rfl) <| L_nil <| thn_n <| W_ret <| thn_r <| fin_r ?_
          obtain rfl := Option.some.inj H
          exact fin1 rfl (Ext.trans e2 e4)
        · refine W_false (congrArg Value.bool q9) <| W_skip <| thn_n <| W_seq <| W_reg <| L_op (.plain rfl) rfl (ltb rfl) (X_assign (v := (.int .i64 0)) rfl) <| L_nil <| thn_n <| W_ret <| fin_r ?_
          obtain rfl := Option.some.inj H
          exact fin1 rfl (Ext.trans e2 e4)
theorem cmp_CompareS.calls {w : World} {a0 : List UInt8} {a1 : List UInt8} :
    Calls Tryd.prog 59 #[S a0, S a1] w (Rt (RP w (.int .i64 (cmpS a0 a1)))) := cmp_CompareS.walk (cmp_CompareS.eq a0 a1)
/-! slices.Compare(()string,string) -/
theorem slices_CompareS.walk {k : Nat} {w : World} {a0 : List (List UInt8)} {a1 : List (List UInt8)} {v_a0 : Value} (f_a0 : Rd 1 encS w v_a0 a0) {v_a1 : Value} (f_a1 : Rd 1 encS w v_a1 a1) {r : Int} (H : slices_CompareS.sh k a0 a1 = some r) :
    Calls Tryd.prog 55 #[v_a0, v_a1] w (Rt (RP w (.int .i64 r))) := by
  unfold slices_CompareS.sh at H
  refine calls_of_W Tryd.func55 rfl (Nat.le_of_ble_eq_true rfl) Tryd.ntmps55 rfl ?_
  refine W_seq <| W_reg <| L_op (.plain rfl) rfl (ltb rfl) (X_assign (v := (.int .i64 0)) rfl) <| L_nil <| thn_n <| W_seq <| W_seq <| W_reg <| L_op (.plain rfl) rfl (ltb rfl) (X_move (v := v_a0) rfl) <| L_op (.plain rfl) rfl (ltb rfl) (X_lenR Tryd.underlying34 rfl f_a0) <| L_op (.plain rfl) rfl (ltb rfl) (X_move (v := (.int .i64 0)) rfl) <| L_nil <| thn_n ?_
  obtain ⟨z2, L3, C4⟩ := bind_some H
  clear H
  refine  W_cutQ (fun s0 s9 w9 => Kp [(4, 9), (11, 31)] s0 s9 ∧ Ext w w9 ∧ z2 = .inr ()) ?_ ?_
  · refine W_block <| W_loopI (fun s0 kk s9 w9 => ∃ (x11_1 : Int), Kp [(4, 9), (11, 31)] s0 s9 ∧ s9 11 = .int .i64 x11_1 ∧ Ext w w9 ∧ loopF (slices_CompareS.b1 a0 a1) kk x11_1 = some z2) k ⟨0, (Kp.refl _ _), rfl, (Ext.refl w), L3⟩ ?_
    rintro k9 s10 w11 ⟨x11_1, K12, h15, e13, L14⟩
    cases k9 with
    | zero => exact absurd L14 (by simp [loopF])
    | succ k9 =>
      obtain ⟨t16, H, S17⟩ := loopF_succ L14
      clear L14
      unfold slices_CompareS.b1 at H
      refine W_seq <| W_reg <| L_op (.plain rfl) rfl (ltb rfl) (X_lss h15 (K12 10 rfl)) <| L_nil <| thn_n <| W_seq ?_
      rcases bif_two H with ⟨q18, H⟩ | ⟨q18, H⟩
      · refine W_true (congrArg Value.bool q18) <| W_skip <| thn_n <| W_seq <| W_block <| W_seq <| W_reg <| L_op (.plain rfl) rfl (ltb rfl) (X_move (v := (.int .i64 x11_1)) h15) ?_
        obtain ⟨c19, H⟩ := bif_some H
        refine L_idx (.plain rfl) rfl (ltb rfl) rfl Tryd.underlying34 Tryd.sizeOf9 (K12 9 rfl) (Rd.ext f_a0 e13) h15 c19 <| fun p20 h21 => L_op (.plain rfl) rfl (ltb rfl) (X_loadAt Tryd.isAgg9 rfl h21 rfl) <| L_op (.plain rfl) rfl (ltb rfl) (X_assign (v := (.int .i64 x11_1)) rfl) <| L_op (.plain rfl) rfl (ltb rfl) (X_assign (v := (S (gt a0 x11_1))) rfl) <| L_nil <| thn_n <| W_seq <| W_seq <| W_reg <| L_op (.plain rfl) rfl (ltb rfl) (X_move (v := (.int .i64 x11_1)) rfl) <| L_op (.plain rfl) rfl (ltb rfl) (X_move (v := v_a1) (K12 1 rfl)) <| L_op (.plain rfl) rfl (ltb rfl) (X_lenR Tryd.underlying34 rfl (Rd.ext f_a1 e13)) <| L_op (.plain rfl) rfl (ltb rfl) (X_geq rfl rfl) <| L_nil <| thn_n ?_
        rcases bif_two H with ⟨q22, H⟩ | ⟨q22, H⟩
        · refine W_true (congrArg Value.bool q22) <| W_seq <| W_reg <| L_op (.plain rfl) rfl (ltb rfl) (X_assign (v := (.int .i64 1)) rfl) <| L_nil <| thn_n <| W_ret <| thn_r <| blk_r <| thn_r <| thn_r <| blk_r <| thn_r <| thn_r <| fin_r ?_
          obtain rfl := Option.some.inj H
          obtain rfl := Option.some.inj S17
          have H := C4
          obtain rfl := Option.some.inj H
          exact fin1 rfl e13
        · refine W_false (congrArg Value.bool q22) <| W_skip <| thn_n <| W_seq <| W_reg <| L_op (.plain rfl) rfl (ltb rfl) (X_move (v := v_a1) (K12 1 rfl)) <| L_op (.plain rfl) rfl (ltb rfl) (X_move (v := (.int .i64 x11_1)) rfl) ?_
          obtain ⟨c23, H⟩ := bif_some H
          refine L_idx (.plain rfl) rfl (ltb rfl) rfl Tryd.underlying34 Tryd.sizeOf9 rfl (Rd.ext f_a1 e13) rfl c23 <| fun p24 h25 => L_op (.plain rfl) rfl (ltb rfl) (X_loadAt Tryd.isAgg9 rfl h25 rfl) <| L_op (.plain rfl) rfl (ltb rfl) (X_assign (v := (S (gt a1 x11_1))) rfl) <| L_nil <| thn_n <| W_seq <| W_reg <| L_op (.plain rfl) rfl (ltb rfl) (X_move (v := (S (gt a0 x11_1))) rfl) <| L_op (.plain rfl) rfl (ltb rfl) (X_move (v := (S (gt a1 x11_1))) rfl) <| L_callP (.plain rfl) rfl (ltb rfl) rfl Tryd.call59 (cmp_CompareS.calls (w := w11) (a0 := gt a0 x11_1) (a1 := gt a1 x11_1)) rfl <| fun w26 e27 => L_op (.plain rfl) rfl (ltb rfl) (X_assign (v := (.int .i64 (cmpS (gt a0 x11_1) (gt a1 x11_1)))) rfl) <| L_nil <| thn_n <| W_seq <| W_reg <| L_op (.plain rfl) rfl (ltb rfl) (X_move (v := (.int .i64 (cmpS (gt a0 x11_1) (gt a1 x11_1)))) rfl) <| L_op (.plain rfl) rfl (ltb rfl) (X_neq rfl rfl) <| L_nil <| thn_n ?_
          rcases bif_two H with ⟨q28, H⟩ | ⟨q28, H⟩
          · refine W_true (congrArg Value.bool q28) <| W_seq <| W_reg <| L_op (.plain rfl) rfl (ltb rfl) (X_move (v := (.int .i64 (cmpS (gt a0 x11_1) (gt a1 x11_1)))) rfl) <| L_op (.plain rfl) rfl (ltb rfl) (X_assign (v := (.int .i64 (cmpS (gt a0 x11_1) (gt a1 x11_1)))) rfl) <| L_nil <| thn_n <| W_ret <| blk_r <| thn_r <| thn_r <| blk_r <| thn_r <| thn_r <| fin_r ?_
            obtain rfl := Option.some.inj H
            obtain rfl := Option.some.inj S17
            have H := C4
            obtain rfl := Option.some.inj H
            exact fin1 rfl (Ext.trans e13 e27)
          · refine W_false (congrArg Value.bool q28) <| W_skip <| blk_n <| thn_n <| W_reg <| L_op (.plain rfl) rfl (ltb rfl) (X_add h15 rfl) <| L_op (.plain rfl) rfl (ltb rfl) (X_move (v := (.int .i64 (IntKind.wrap .i64 (x11_1 + 1)))) rfl) <| L_nil <| thn_n ?_
            obtain rfl := Option.some.inj H
            exact ⟨_, Nat.lt_succ_self _, IntKind.wrap .i64 (x11_1 + 1), (Kp.upd (Kp.upd (Kp.upd (Kp.upd (Kp.upd (Kp.upd (Kp.upd (Kp.upd (Kp.upd (Kp.upd (Kp.upd (Kp.upd (Kp.upd (Kp.upd (Kp.upd (Kp.upd (Kp.upd (Kp.upd (Kp.upd (Kp.upd (Kp.upd (Kp.upd (Kp.upd K12 rfl) rfl) rfl) rfl) rfl) rfl) rfl) rfl) rfl) rfl) rfl) rfl) rfl) rfl) rfl) rfl) rfl) rfl) rfl) rfl) rfl) rfl) rfl), rfl, (Ext.trans e13 e27), S17⟩
      · refine W_false (congrArg Value.bool q18) <| W_exit <| thn_x <| thn_x <| blk_x <| thn_n ?_
        obtain rfl := Option.some.inj H
        obtain rfl := Option.some.inj S17
        exact ⟨(Kp.upd K12 rfl), e13, rfl⟩
  · rintro s6 w5 ⟨K7, e8, y29⟩
    rw [y29] at C4
    have H := C4
    replace H : _ = some _ := H
    refine thn_n <| W_seq <| W_seq <| W_reg <| L_op (.plain rfl) rfl (ltb rfl) (X_move (v := v_a0) (K7 0 rfl)) <| L_op (.plain rfl) rfl (ltb rfl) (X_lenR Tryd.underlying34 rfl (Rd.ext f_a0 e8)) <| L_op (.plain rfl) rfl (ltb rfl) (X_move (v := v_a1) (K7 1 rfl)) <| L_op (.plain rfl) rfl (ltb rfl) (X_lenR Tryd.underlying34 rfl (Rd.ext f_a1 e8)) <| L_op (.plain rfl) rfl (ltb rfl) (X_lss rfl rfl) <| L_nil <| thn_n ?_
    rcases bif_two H with ⟨q30, H⟩ | ⟨q30, H⟩
    · refine W_true (congrArg Value.bool q30) <| W_seq <| W_reg <| L_op (.plain rfl) rfl (ltb rfl) (X_assign (v := (.int .i64 (-1))) rfl) <| L_nil <| thn_n <| W_ret <| thn_r <| fin_r ?_
      obtain rfl := Option.some.inj H
      exact fin1 rfl e8
    · refine W_false (congrArg Value.bool q30) <| W_skip <| thn_n <| W_seq <| W_reg <| L_op (.plain rfl) rfl (ltb rfl) (X_assign (v := (.int .i64 0)) rfl) <| L_nil <| thn_n <| W_ret <| fin_r ?_
      obtain rfl := Option.some.inj H
      exact fin1 rfl e8
theorem slices_CompareS.calls {w : World} {a0 : List (List UInt8)} {a1 : List (List UInt8)} {v_a0 : Value} (f_a0 : Rd 1 encS w v_a0 a0) {v_a1 : Value} (f_a1 : Rd 1 encS w v_a1 a1) (h0 : a0.length ≤ 4611686018427387904) (h1 : a1.length ≤ 4611686018427387904) :
    Calls Tryd.prog 55 #[v_a0, v_a1] w (Rt (RP w (.int .i64 (cmpL a0 a1)))) := by
  obtain ⟨k, h⟩ := slices_CompareS.eq a0 a1 h0 h1
  exact slices_CompareS.walk f_a0 f_a1 h
/-! impl.compare -/
theorem impl_compare.walk {w : World} {a0 : List UInt8} {a1 : List UInt8} (gv : GV 0 w) {r : Int} (H : impl_compare.sh a0 a1 = some r) :
    Calls Tryd.prog 44 #[S a0, S a1] w (Rt (RP w (.int .i64 r))) := by
  unfold impl_compare.sh at H
  refine calls_of_W Tryd.func44 rfl (Nat.le_of_ble_eq_true rfl) Tryd.ntmps44 rfl ?_
  refine W_seq <| W_reg <| L_op (.plain rfl) rfl (ltb rfl) (X_assign (v := (.int .i64 0)) rfl) <| L_nil <| thn_n <| W_seq <| W_reg <| L_op (.plain rfl) rfl (ltb rfl) (X_move (v := (S a0)) rfl) ?_
  obtain ⟨c1, H⟩ := bif_some H
  refine L_callO (.plain rfl) rfl (ltb rfl) rfl Tryd.call30 (impl_parts.calls (w := w) (a0 := a0) gv (of_decide_eq_true c1)) rfl <| fun v4 w2 e3 o5 => L_op (.plain rfl) rfl (ltb rfl) (X_move (v := (S a1)) rfl) ?_
  obtain ⟨c6, H⟩ := bif_some H
  refine L_callO (.plain rfl) rfl (ltb rfl) rfl Tryd.call30 (impl_parts.calls (w := w2) (a0 := a1) (GV.ext gv e3) (of_decide_eq_true c6)) rfl <| fun v9 w7 e8 o10 => ?_
  obtain ⟨c11, H⟩ := bif_some H
  obtain ⟨c12, H⟩ := bif_some H
  refine L_callP (.plain rfl) rfl (ltb rfl) rfl Tryd.call55 (slices_CompareS.calls (w := w7) (a0 := (cut 47 a0)) (a1 := (cut 47 a1)) (Own.rd (Own.ext o5 e8)) (Own.rd o10) (of_decide_eq_true c11) (of_decide_eq_true c12)) rfl <| fun w13 e14 => L_op (.plain rfl) rfl (ltb rfl) (X_assign (v := (.int .i64 (cmpL (cut 47 a0) (cut 47 a1)))) rfl) <| L_nil <| thn_n <| W_ret <| fin_r ?_
  obtain rfl := Option.some.inj H
  exact fin1 rfl (Ext.trans (Ext.trans e3 e8) e14)
theorem impl_compare.calls {w : World} {a0 : List UInt8} {a1 : List UInt8} (gv : GV 0 w) (h0 : a0.length ≤ 1048576) (h1 : a1.length ≤ 1048576) :
    Calls Tryd.prog 44 #[S a0, S a1] w (Rt (RP w (.int .i64 (cmpL (cut 47 a0) (cut 47 a1))))) := impl_compare.walk gv (impl_compare.eq a0 a1 h0 h1)
/-! impl.PathLess -/
theorem impl_PathLess.walk {w : World} {a0 : List UInt8} {a1 : List UInt8} (gv : GV 0 w) {r : Bool} (H : impl_PathLess.sh a0 a1 = some r) :
    Calls Tryd.prog 21 #[S a0, S a1] w (Rt (RP w (.bool r))) := by
  unfold impl_PathLess.sh at H
  refine calls_of_W Tryd.func21 rfl (Nat.le_of_ble_eq_true rfl) Tryd.ntmps21 rfl ?_
  refine W_seq <| W_reg <| L_op (.plain rfl) rfl (ltb rfl) (X_assign (v := (.bool false)) rfl) <| L_nil <| thn_n <| W_seq <| W_reg <| L_op (.plain rfl) rfl (ltb rfl) (X_move (v := (S a0)) rfl) <| L_callP (.plain rfl) rfl (ltb rfl) rfl Tryd.call11 (impl_PathOK.calls (w := w) (a0 := a0) gv) rfl <| fun w1 e2 => L_op (.plain rfl) rfl (ltb rfl) (X_move (v := (.bool (pathOK a0))) rfl) <| L_grp 3 [(8, 11)] 10 (.bool ((pathOK a0) && (pathOK a1))) ?_ ?_
  · rcases bool_two (pathOK a0) with b2_ | b2_
    · exact L_op (.guard 2 true 7 rfl rfl (ltb rfl) (congrArg Value.bool b2_)) rfl (ltb rfl) (X_move (v := (S a1)) rfl) <| L_callP (.guard 2 true 7 rfl rfl (ltb rfl) (congrArg Value.bool b2_)) rfl (ltb rfl) rfl Tryd.call11 (impl_PathOK.calls (w := w1) (a0 := a1) (GV.ext gv e2)) rfl <| fun w4 e5 => L_op (.plain rfl) rfl (ltb rfl) (X_pick (b := true) (v := (.bool (pathOK a1))) (congrArg Value.bool b2_) rfl) <| L_nil <| thn_n ⟨(Kp.upd (Kp.upd (Kp.upd (Kp.refl _ _) rfl) rfl) rfl), (and_t b2_), e5⟩
    · exact L_skip rfl rfl (ltb rfl) (congrArg Value.bool b2_) rfl rfl (ltb rfl) <| L_skip rfl rfl (ltb rfl) (congrArg Value.bool b2_) rfl rfl (ltb rfl) <| L_op (.plain rfl) rfl (ltb rfl) (X_pick (b := false) (v := (.bool false)) (congrArg Value.bool b2_) rfl) <| L_nil <| thn_n ⟨(Kp.upd (Kp.upd (Kp.upd (Kp.refl _ _) rfl) rfl) rfl), (and_f b2_), (Ext.refl w1)⟩
  intro s8 w4 K5 h6 e7
  refine L_op (.plain rfl) rfl (ltb rfl) (X_move (v := (.bool ((pathOK a0) && (pathOK a1)))) h6) ?_
  obtain ⟨z10, x11, H⟩ := bind_some H
  refine L_grpE 5 [(12, 17)] 16 (fun q => q = z10) ?_ ?_
  · rcases bif_two x11 with ⟨b8_, H⟩ | ⟨b8_, H⟩
    · refine L_op (.guard 6 true 11 rfl rfl (ltb rfl) (congrArg Value.bool b8_)) rfl (ltb rfl) (X_move (v := (S a0)) (K5 0 rfl)) <| L_op (.guard 6 true 11 rfl rfl (ltb rfl) (congrArg Value.bool b8_)) rfl (ltb rfl) (X_move (v := (S a1)) (K5 1 rfl)) ?_
      obtain ⟨c10, H⟩ := bif_some H
      obtain ⟨c11, H⟩ := bif_some H
      refine L_callP (.guard 6 true 11 rfl rfl (ltb rfl) (congrArg Value.bool b8_)) rfl (ltb rfl) rfl Tryd.call44 (impl_compare.calls (w := w4) (a0 := a0) (a1 := a1) (GV.ext gv (Ext.trans e2 e7)) (of_decide_eq_true c10) (of_decide_eq_true c11)) rfl <| fun w12 e13 => L_op (.guard 6 true 11 rfl rfl (ltb rfl) (congrArg Value.bool b8_)) rfl (ltb rfl) (X_lss rfl rfl) <| L_op (.plain rfl) rfl (ltb rfl) (X_pick (b := true) (v := (.bool (decide ((cmpL (cut 47 a0) (cut 47 a1)) < 0)))) (congrArg Value.bool b8_) rfl) ?_
      obtain rfl := Option.some.inj H
      exact L_nil <| thn_n ⟨(Kp.upd (Kp.upd (Kp.upd (Kp.upd (Kp.upd (Kp.refl _ _) rfl) rfl) rfl) rfl) rfl), ⟨_, rfl, rfl⟩, e13⟩
    · refine L_skip rfl rfl (ltb rfl) (congrArg Value.bool b8_) rfl rfl (ltb rfl) <| L_skip rfl rfl (ltb rfl) (congrArg Value.bool b8_) rfl rfl (ltb rfl) <| L_skip rfl rfl (ltb rfl) (congrArg Value.bool b8_) rfl rfl (ltb rfl) <| L_skip rfl rfl (ltb rfl) (congrArg Value.bool b8_) rfl rfl (ltb rfl) <| L_op (.plain rfl) rfl (ltb rfl) (X_pick (b := false) (v := (.bool false)) (congrArg Value.bool b8_) rfl) ?_
      obtain rfl := Option.some.inj H
      exact L_nil <| thn_n ⟨(Kp.upd (Kp.upd (Kp.upd (Kp.upd (Kp.upd (Kp.refl _ _) rfl) rfl) rfl) rfl) rfl), ⟨_, rfl, rfl⟩, (Ext.refl w4)⟩
  intro s16 w12 z17 K13 hq h14 e15
  rw [hq] at h14; clear hq
  refine L_op (.plain rfl) rfl (ltb rfl) (X_assign (v := (.bool z10)) h14) <| L_nil <| thn_n <| W_ret <| fin_r ?_
  obtain rfl := Option.some.inj H
  exact fin1 rfl (Ext.trans (Ext.trans e2 e7) e15)
theorem impl_PathLess.calls {w : World} {a0 : List UInt8} {a1 : List UInt8} (gv : GV 0 w) :
    Calls Tryd.prog 21 #[S a0, S a1] w (Rt (RP w (.bool (pathLess a0 a1)))) := impl_PathLess.walk gv (impl_PathLess.eq a0 a1)
/-! laws.FnExactPathLess -/
theorem law_PathLess.walk {w : World} {a0 : List UInt8} {a1 : List UInt8} (gv : GV 0 w) {r : Bool} (H : law_PathLess.sh a0 a1 = some r) :
    Calls Tryd.prog 7 #[S a0, S a1] w (Rt (RP w (.bool r))) := by
  unfold law_PathLess.sh at H
  refine calls_of_W Tryd.func7 rfl (Nat.le_of_ble_eq_true rfl) Tryd.ntmps7 rfl ?_
  refine W_seq <| W_reg <| L_op (.plain rfl) rfl (ltb rfl) (X_assign (v := (.bool false)) rfl) <| L_nil <| thn_n <| W_seq <| W_seq <| W_reg <| L_op (.plain rfl) rfl (ltb rfl) (X_move (v := (S a0)) rfl) <| L_op (.plain rfl) rfl (ltb rfl) (X_lenS Tryd.underlying9 rfl) <| L_op (.plain rfl) rfl (ltb rfl) (X_gtr rfl rfl) <| L_nil <| thn_n ?_
  rcases bif_two H with ⟨q1, H⟩ | ⟨q1, H⟩
  · refine W_true (congrArg Value.bool q1) <| W_seq <| W_reg <| L_op (.plain rfl) rfl (ltb rfl) (X_assign (v := (.bool true)) rfl) <| L_nil <| thn_n <| W_ret <| thn_r <| fin_r ?_
    obtain rfl := Option.some.inj H
    exact fin1 rfl (Ext.refl w)
  · refine W_false (congrArg Value.bool q1) <| W_skip <| thn_n <| W_seq <| W_seq <| W_reg <| L_op (.plain rfl) rfl (ltb rfl) (X_move (v := (S a1)) rfl) <| L_op (.plain rfl) rfl (ltb rfl) (X_lenS Tryd.underlying9 rfl) <| L_op (.plain rfl) rfl (ltb rfl) (X_gtr rfl rfl) <| L_nil <| thn_n ?_
    rcases bif_two H with ⟨q2, H⟩ | ⟨q2, H⟩
    · refine W_true (congrArg Value.bool q2) <| W_seq <| W_reg <| L_op (.plain rfl) rfl (ltb rfl) (X_assign (v := (.bool true)) rfl) <| L_nil <| thn_n <| W_ret <| thn_r <| fin_r ?_
      obtain rfl := Option.some.inj H
      exact fin1 rfl (Ext.refl w)
    · refine W_false (congrArg Value.bool q2) <| W_skip <| thn_n <| W_seq <| W_reg <| L_op (.plain rfl) rfl (ltb rfl) (X_move (v := (S a0)) rfl) <| L_op (.plain rfl) rfl (ltb rfl) (X_move (v := (S a1)) rfl) <| L_callP (.plain rfl) rfl (ltb rfl) rfl Tryd.call20 (spec_PathLess.calls (w := w) (a0 := a0) (a1 := a1)) rfl <| fun w3 e4 => L_op (.plain rfl) rfl (ltb rfl) (X_assign (v := (.bool (pathLess a0 a1))) rfl) <| L_nil <| thn_n <| W_seq <| W_reg <| L_op (.plain rfl) rfl (ltb rfl) (X_move (v := (S a0)) rfl) <| L_op (.plain rfl) rfl (ltb rfl) (X_move (v := (S a1)) rfl) <| L_callP (.plain rfl) rfl (ltb rfl) rfl Tryd.call21 (impl_PathLess.calls (w := w3) (a0 := a0) (a1 := a1) (GV.ext gv e4)) rfl <| fun w5 e6 => L_op (.plain rfl) rfl (ltb rfl) (X_assign (v := (.bool (pathLess a0 a1))) rfl) <| L_nil <| thn_n <| W_seq <| W_seq <| W_reg <| L_op (.plain rfl) rfl (ltb rfl) (X_move (v := (.bool (pathLess a0 a1))) rfl) <| L_op (.plain rfl) rfl (ltb rfl) (X_move (v := (.bool (pathLess a0 a1))) rfl) <| L_op (.plain rfl) rfl (ltb rfl) (X_bne Tryd.underlying4 rfl rfl) <| L_nil <| thn_n ?_
      rcases bif_two H with ⟨q7, H⟩ | ⟨q7, H⟩
      · refine W_true (congrArg Value.bool q7) <| W_seq <| W_reg <| L_op (.plain rfl) rfl (ltb rfl) (X_assign (v := (.bool false)) rfl) <| L_nil <| thn_n <| W_ret <| thn_r <| fin_r ?_
        obtain rfl := Option.some.inj H
        exact fin1 rfl (Ext.trans e4 e6)
      · refine W_false (congrArg Value.bool q7) <| W_skip <| thn_n <| W_seq <| W_reg <| L_op (.plain rfl) rfl (ltb rfl) (X_assign (v := (.bool true)) rfl) <| L_nil <| thn_n <| W_ret <| fin_r ?_
        obtain rfl := Option.some.inj H
        exact fin1 rfl (Ext.trans e4 e6)
theorem law_PathLess.calls {w : World} {a0 : List UInt8} {a1 : List UInt8} (gv : GV 0 w) :
    Calls Tryd.prog 7 #[S a0, S a1] w (Rt (RP w (.bool true))) := law_PathLess.walk gv (law_PathLess.eq a0 a1)
/-! spec.l01Ask -/
theorem spec_l01Ask.walk {w : World} {a0 : List UInt8} {r : Int} (H : spec_l01Ask.sh a0 = some r) :
    Calls Tryd.prog 46 #[S a0] w (Rt (RP w (.int .i64 r))) := by
  unfold spec_l01Ask.sh at H
  refine calls_of_W Tryd.func46 rfl (Nat.le_of_ble_eq_true rfl) Tryd.ntmps46 rfl ?_
  refine W_seq <| W_reg <| L_op (.plain rfl) rfl (ltb rfl) (X_assign (v := (.int .i64 0)) rfl) <| L_nil <| thn_n <| W_seq <| W_seq <| W_reg <| L_op (.plain rfl) rfl (ltb rfl) (X_move (v := (S a0)) rfl) <| L_op (.plain rfl) rfl (ltb rfl) (X_lenS Tryd.underlying9 rfl) <| L_op (.plain rfl) rfl (ltb rfl) (X_gtr rfl rfl) <| L_nil <| thn_n ?_
  rcases bif_two H with ⟨q1, H⟩ | ⟨q1, H⟩
  · refine W_true (congrArg Value.bool q1) <| W_seq <| W_reg <| L_op (.plain rfl) rfl (ltb rfl) (X_assign (v := (.int .i64 2)) rfl) <| L_nil <| thn_n <| W_ret <| thn_r <| fin_r ?_
    obtain rfl := Option.some.inj H
    exact fin1 rfl (Ext.refl w)
  · refine W_false (congrArg Value.bool q1) <| W_skip <| thn_n <| W_seq <| W_seq <| W_reg <| L_op (.plain rfl) rfl (ltb rfl) (X_move (v := (S a0)) rfl) <| L_callP (.plain rfl) rfl (ltb rfl) rfl Tryd.call29 (spec_l01OK.calls (w := w) (a0 := a0)) rfl <| fun w2 e3 => L_op (.plain rfl) rfl (ltb rfl) (X_not rfl) <| L_nil <| thn_n ?_
    rcases bif_two H with ⟨q4, H⟩ | ⟨q4, H⟩
    · refine W_true (congrArg Value.bool q4) <| W_seq <| W_reg <| L_op (.plain rfl) rfl (ltb rfl) (X_assign (v := (.int .i64 10)) rfl) <| L_nil <| thn_n <| W_ret <| thn_r <| fin_r ?_
      obtain rfl := Option.some.inj H
      exact fin1 rfl e3
    · refine W_false (congrArg Value.bool q4) <| W_skip <| thn_n <| W_seq <| W_reg <| L_op (.plain rfl) rfl (ltb rfl) (X_assign (v := (.int .i64 0)) rfl) <| L_nil <| thn_n <| W_ret <| fin_r ?_
      obtain rfl := Option.some.inj H
      exact fin1 rfl e3
theorem spec_l01Ask.calls {w : World} {a0 : List UInt8} :
    Calls Tryd.prog 46 #[S a0] w (Rt (RP w (.int .i64 (askP a0)))) := spec_l01Ask.walk (spec_l01Ask.eq a0)
/-! spec.PartsOf -/
theorem spec_PartsOf.walk {w : World} {a0 : List UInt8} {r : List (List UInt8) × Int} (H : spec_PartsOf.sh a0 = some r) :
    Calls Tryd.prog 24 #[S a0] w (Rt (RT 9 1 encS w r.1 (.int .i64 r.2))) := by
  unfold spec_PartsOf.sh at H
  refine calls_of_W Tryd.func24 rfl (Nat.le_of_ble_eq_true rfl) Tryd.ntmps24 rfl ?_
  refine W_seq <| W_reg <| L_op (.plain rfl) rfl (ltb rfl) (X_assign (v := (.slice none 0 0)) rfl) <| L_op (.plain rfl) rfl (ltb rfl) (X_assign (v := (.int .i64 0)) rfl) <| L_nil <| thn_n <| W_seq <| W_seq <| W_reg <| L_op (.plain rfl) rfl (ltb rfl) (X_move (v := (S a0)) rfl) <| L_op (.plain rfl) rfl (ltb rfl) (X_lenS Tryd.underlying9 rfl) <| L_op (.plain rfl) rfl (ltb rfl) (X_gtr rfl rfl) <| L_nil <| thn_n ?_
  rcases bif_two H with ⟨q1, H⟩ | ⟨q1, H⟩
  · refine W_true (congrArg Value.bool q1) <| W_seq <| W_reg <| L_lit (.plain rfl) rfl (ltb rfl) rfl Tryd.underlying34 Tryd.sizeOf9 Tryd.zeroValue9 rfl rfl rfl (vs := []) rfl (lit_all rfl) <| fun b2 w3 z4 z5 e6 k7 => L_op (.plain rfl) rfl (ltb rfl) (X_assign (v := (.slice (some ⟨b2, 0, none⟩) 0 0)) rfl) <| L_op (.plain rfl) rfl (ltb rfl) (X_assign (v := (.int .i64 2)) rfl) <| L_nil <| thn_n <| W_ret <| thn_r <| fin_r ?_
    obtain rfl := Option.some.inj H
    exact fin2o rfl rfl e6 (Own.zero (base := w.heap.size)) (Nat.le_refl _)
  · refine W_false (congrArg Value.bool q1) <| W_skip <| thn_n <| W_seq <| W_seq <| W_reg <| L_op (.plain rfl) rfl (ltb rfl) (X_move (v := (S a0)) rfl) <| L_callP (.plain rfl) rfl (ltb rfl) rfl Tryd.call46 (spec_l01Ask.calls (w := w) (a0 := a0)) rfl <| fun w8 e9 => L_op (.plain rfl) rfl (ltb rfl) (X_assign (v := (.int .i64 (askP a0))) rfl) <| L_nil <| thn_n <| W_seq <| W_reg <| L_op (.plain rfl) rfl (ltb rfl) (X_move (v := (.int .i64 (askP a0))) rfl) <| L_op (.plain rfl) rfl (ltb rfl) (X_neq rfl rfl) <| L_nil <| thn_n ?_
    rcases bif_two H with ⟨q10, H⟩ | ⟨q10, H⟩
    · refine W_true (congrArg Value.bool q10) <| W_seq <| W_reg <| L_lit (.plain rfl) rfl (ltb rfl) rfl Tryd.underlying34 Tryd.sizeOf9 Tryd.zeroValue9 rfl rfl rfl (vs := []) rfl (lit_all rfl) <| fun b11 w12 z13 z14 e15 k16 => L_op (.plain rfl) rfl (ltb rfl) (X_move (v := (.int .i64 (askP a0))) rfl) <| L_op (.plain rfl) rfl (ltb rfl) (X_assign (v := (.slice (some ⟨b11, 0, none⟩) 0 0)) rfl) <| L_op (.plain rfl) rfl (ltb rfl) (X_assign (v := (.int .i64 (askP a0))) rfl) <| L_nil <| thn_n <| W_ret <| thn_r <| fin_r ?_
      obtain rfl := Option.some.inj H
      exact fin2o rfl rfl (Ext.trans e9 e15) (Own.zero (base := w.heap.size)) (Nat.le_refl _)
    · refine W_false (congrArg Value.bool q10) <| W_skip <| thn_n <| W_seq <| W_reg <| L_op (.plain rfl) rfl (ltb rfl) (X_move (v := (S a0)) rfl) ?_
      obtain ⟨c17, H⟩ := bif_some H
      refine L_callO (.plain rfl) rfl (ltb rfl) rfl Tryd.call47 (spec_l00Cut.calls (w := w8) (a0 := a0) (a1 := 47) (of_decide_eq_true c17)) rfl <| fun v20 w18 e19 o21 => L_op (.plain rfl) rfl (ltb rfl) (X_assign (v := v20) rfl) <| L_op (.plain rfl) rfl (ltb rfl) (X_assign (v := (.int .i64 0)) rfl) <| L_nil <| thn_n <| W_ret <| fin_r ?_
      obtain rfl := Option.some.inj H
      exact fin2o rfl rfl (Ext.trans e9 e19) o21 (e9).size
theorem spec_PartsOf.calls {w : World} {a0 : List UInt8} :
    Calls Tryd.prog 24 #[S a0] w (Rt (RT 9 1 encS w ((partsOf a0).1) (.int .i64 ((partsOf a0).2)))) := spec_PartsOf.walk (spec_PartsOf.eq a0)
/-! impl.PartsOf -/
theorem impl_PartsOf.walk {w : World} {a0 : List UInt8} (gv : GV 0 w) {r : List (List UInt8) × Int} (H : impl_PartsOf.sh a0 = some r) :
    Calls Tryd.prog 25 #[S a0] w (Rt (RT 9 1 encS w r.1 (.int .i64 r.2))) := by
  unfold impl_PartsOf.sh at H
  refine calls_of_W Tryd.func25 rfl (Nat.le_of_ble_eq_true rfl) Tryd.ntmps25 rfl ?_
  refine W_seq <| W_reg <| L_op (.plain rfl) rfl (ltb rfl) (X_assign (v := (.slice none 0 0)) rfl) <| L_op (.plain rfl) rfl (ltb rfl) (X_assign (v := (.int .i64 0)) rfl) <| L_nil <| thn_n <| W_seq <| W_seq <| W_reg <| L_op (.plain rfl) rfl (ltb rfl) (X_move (v := (S a0)) rfl) <| L_lit (.plain rfl) rfl (ltb rfl) rfl Tryd.underlying34 Tryd.sizeOf9 Tryd.zeroValue9 rfl rfl rfl (vs := [(S a0)]) rfl (lit_all rfl) <| fun b1 w2 z3 z4 e5 k6 => ?_
  obtain ⟨c7, H⟩ := bif_some H
  refine L_callP (.plain rfl) rfl (ltb rfl) rfl Tryd.call40 (impl_isLong.calls (w := w2) (a0 := ([a0] : List (List UInt8))) (Own.rd (Own.new (xs := [a0]) (sz := 1) (enc := encS) (base := w.heap.size) k6 (Nat.le_of_eq z3) rfl (fun _ _ => by rfl) (Nat.le_of_ble_eq_true rfl))) (of_decide_eq_true c7)) rfl <| fun w8 e9 => L_op (.plain rfl) rfl (ltb rfl) (X_mkiface Tryd.underlying4 rfl rfl) <| L_op (.plain rfl) rfl (ltb rfl) (X_mkiface Tryd.underlying3 rfl rfl) <| L_op (.plain rfl) rfl (ltb rfl) (X_move (v := (S a0)) rfl) <| L_callP (.plain rfl) rfl (ltb rfl) rfl Tryd.call11 (impl_PathOK.calls (w := w8) (a0 := a0) (GV.ext gv (Ext.trans e5 e9))) rfl <| fun w10 e11 => L_op (.plain rfl) rfl (ltb rfl) (X_not rfl) <| L_op (.plain rfl) rfl (ltb rfl) (X_mkiface Tryd.underlying4 rfl rfl) <| L_op (.plain rfl) rfl (ltb rfl) (X_mkiface Tryd.underlying3 rfl rfl) <| L_lit (.plain rfl) rfl (ltb rfl) rfl Tryd.underlying50 Tryd.sizeOf20 Tryd.zeroValue20 rfl rfl rfl (vs := [(.iface 4 (.bool (([a0] : List (List UInt8)).any fun t => decide (65536 < t.length)))), (.iface 3 (.int .i64 2)), (.iface 4 (.bool (!(pathOK a0)))), (.iface 3 (.int .i64 10))]) rfl (lit_all rfl) <| fun b12 w13 z14 z15 e16 k17 => ?_
  obtain ⟨c18, H⟩ := bif_some H
  refine L_callP (.plain rfl) rfl (ltb rfl) rfl Tryd.call39 (impl_first.calls (w := w13) (a0 := ([.inl (([a0] : List (List UInt8)).any fun t => decide (65536 < t.length)), .inr 2, .inl (!(pathOK a0)), .inr 10] : List (Bool ⊕ Int))) (Own.rd (Own.new (xs := [.inl (([a0] : List (List UInt8)).any fun t => decide (65536 < t.length)), .inr 2, .inl (!(pathOK a0)), .inr 10]) (sz := 1) (enc := (encAny 4 3)) (base := w10.heap.size) k17 (Nat.le_of_eq z14) rfl (fun _ _ => by first | rfl | exact encAny_len _ _ _) (Nat.le_of_ble_eq_true rfl))) (of_decide_eq_true c18)) rfl <| fun w19 e20 => L_op (.plain rfl) rfl (ltb rfl) (X_assign rfl) <| L_nil <| thn_n <| W_seq <| W_reg <| L_op (.plain rfl) rfl (ltb rfl) (X_move rfl) <| L_op (.plain rfl) rfl (ltb rfl) (X_neq rfl rfl) <| L_nil <| thn_n ?_
  rcases bif_two H with ⟨q21, H⟩ | ⟨q21, H⟩
  · refine W_true (congrArg Value.bool q21) <| W_seq <| W_reg <| L_op (.plain rfl) rfl (ltb rfl) (X_move rfl) <| L_op (.plain rfl) rfl (ltb rfl) (X_assign (v := (.slice none 0 0)) rfl) <| L_op (.plain rfl) rfl (ltb rfl) (X_assign rfl) <| L_nil <| thn_n <| W_ret <| thn_r <| fin_r ?_
    obtain rfl := Option.some.inj H
    exact fin2o rfl rfl (Ext.trans (Ext.trans (Ext.trans (Ext.trans e5 e9) e11) e16) e20) (Own.zero (base := w.heap.size)) (Nat.le_refl _)
  · refine W_false (congrArg Value.bool q21) <| W_skip <| thn_n <| W_seq <| W_reg <| L_op (.plain rfl) rfl (ltb rfl) (X_move (v := (S a0)) rfl) ?_
    obtain ⟨c22, H⟩ := bif_some H
    refine L_callO (.plain rfl) rfl (ltb rfl) rfl Tryd.call30 (impl_parts.calls (w := w19) (a0 := a0) (GV.ext gv (Ext.trans (Ext.trans (Ext.trans (Ext.trans e5 e9) e11) e16) e20)) (of_decide_eq_true c22)) rfl <| fun v25 w23 e24 o26 => L_op (.plain rfl) rfl (ltb rfl) (X_assign (v := v25) rfl) <| L_op (.plain rfl) rfl (ltb rfl) (X_assign (v := (.int .i64 0)) rfl) <| L_nil <| thn_n <| W_ret <| fin_r ?_
    obtain rfl := Option.some.inj H
    exact fin2o rfl rfl (Ext.trans (Ext.trans (Ext.trans (Ext.trans (Ext.trans e5 e9) e11) e16) e20) e24) o26 ((Ext.trans (Ext.trans (Ext.trans (Ext.trans e5 e9) e11) e16) e20)).size
theorem impl_PartsOf.calls {w : World} {a0 : List UInt8} (gv : GV 0 w) :
    Calls Tryd.prog 25 #[S a0] w (Rt (RT 9 1 encS w ((partsOf a0).1) (.int .i64 ((partsOf a0).2)))) := impl_PartsOf.walk gv (impl_PartsOf.eq a0)
/-! laws.markText -/
theorem laws_markText.walk {k : Nat} {w : World} {a0 : Int} {r : List UInt8} (H : laws_markText.sh k a0 = some r) :
    Calls Tryd.prog 48 #[.int .i64 a0] w (Rt (RP w (S r))) := by
  unfold laws_markText.sh at H
  refine calls_of_W Tryd.func48 rfl (Nat.le_of_ble_eq_true rfl) Tryd.ntmps48 rfl ?_
  refine W_seq <| W_reg <| L_op (.plain rfl) rfl (ltb rfl) (X_assign (v := (S ([] : List UInt8))) rfl) <| L_nil <| thn_n <| W_seq <| W_seq <| W_reg <| L_op (.plain rfl) rfl (ltb rfl) (X_move (v := (.int .i64 a0)) rfl) <| L_op (.plain rfl) rfl (ltb rfl) (X_leq rfl rfl) <| L_nil <| thn_n ?_
  rcases bif_two H with ⟨q1, H⟩ | ⟨q1, H⟩
  · refine W_true (congrArg Value.bool q1) <| W_seq <| W_reg <| L_op (.plain rfl) rfl (ltb rfl) (X_assign (v := (S ([109, 48] : List UInt8))) rfl) <| L_nil <| thn_n <| W_ret <| thn_r <| fin_r ?_
    obtain rfl := Option.some.inj H
    exact fin1 rfl (Ext.refl w)
  · refine W_false (congrArg Value.bool q1) <| W_skip <| thn_n <| W_seq <| W_reg <| L_op (.plain rfl) rfl (ltb rfl) (X_assign (v := (S ([] : List UInt8))) rfl) <| L_nil <| thn_n <| W_seq ?_
    obtain ⟨z4, L5, C6⟩ := bind_some H
    clear H
    refine  W_cutQ (fun s0 s9 w9 => ∃ (x3_7 : List UInt8), Kp [(0, 1), (3, 4), (6, 18)] s0 s9 ∧ s9 3 = S x3_7 ∧ Ext w w9 ∧ z4 = .inr x3_7) ?_ ?_
    · refine W_block <| W_loopI (fun s0 kk s9 w9 => ∃ (x0_2 : Int) (x3_3 : List UInt8), Kp [(0, 1), (3, 4), (6, 18)] s0 s9 ∧ s9 0 = .int .i64 x0_2 ∧ s9 3 = S x3_3 ∧ Ext w w9 ∧ loopF (laws_markText.b1) kk (x0_2, x3_3) = some z4) k ⟨a0, ([] : List UInt8), (Kp.refl _ _), rfl, rfl, (Ext.refl w), L5⟩ ?_
      rintro k12 s13 w14 ⟨x0_2, x3_3, K15, h18, h19, e16, L17⟩
      cases k12 with
      | zero => exact absurd L17 (by simp [loopF])
      | succ k12 =>
        obtain ⟨t20, H, S21⟩ := loopF_succ L17
        clear L17
        unfold laws_markText.b1 at H
        refine W_seq <| W_seq <| W_reg <| L_op (.plain rfl) rfl (ltb rfl) (X_move (v := (.int .i64 x0_2)) h18) <| L_op (.plain rfl) rfl (ltb rfl) (X_gtr rfl rfl) <| L_nil <| thn_n ?_
        rcases bif_two H with ⟨q22, H⟩ | ⟨q22, H⟩
        · refine W_true (congrArg Value.bool q22) <| W_skip <| thn_n <| W_block <| W_seq <| W_reg <| L_op (.plain rfl) rfl (ltb rfl) (X_move (v := (.int .i64 x0_2)) h18) <| L_op (.plain rfl) rfl (ltb rfl) (X_rem rfl rfl (by decide)) <| L_op (.plain rfl) rfl (ltb rfl) (X_add rfl rfl) <| L_op (.plain rfl) rfl (ltb rfl) (X_convInt Tryd.underlying3 Tryd.underlying5 rfl) <| L_lit (.plain rfl) rfl (ltb rfl) rfl Tryd.underlying54 Tryd.sizeOf5 Tryd.zeroValue5 rfl rfl rfl (vs := [(.int .u8 (IntKind.wrap .u8 (IntKind.wrap .i64 (48 + (x0_2.tmod 10)))))]) rfl (lit_all rfl) <| fun b23 w24 z25 z26 e27 k28 => L_op (.plain rfl) rfl (ltb rfl) (X_convBS Tryd.underlying54 Tryd.underlying5 Tryd.underlying9 rfl (Own.rd (Own.new (xs := [IntKind.wrap .u8 (IntKind.wrap .i64 (48 + (x0_2.tmod 10)))]) (sz := 1) (enc := (encI .u8)) (base := w14.heap.size) k28 (Nat.le_of_eq z25) rfl (fun _ _ => by rfl) (Nat.le_of_ble_eq_true rfl)))) <| L_op (.plain rfl) rfl (ltb rfl) (X_move (v := (S x3_3)) h19) ?_
          obtain ⟨c29, H⟩ := bif_some H
          refine L_op (.plain rfl) rfl (ltb rfl) (X_cat rfl rfl (of_decide_eq_true c29)) <| L_op (.plain rfl) rfl (ltb rfl) (X_assign rfl) <| L_nil <| thn_n <| W_reg <| L_op (.plain rfl) rfl (ltb rfl) (X_move (v := (.int .i64 x0_2)) h18) <| L_op (.plain rfl) rfl (ltb rfl) (X_quo rfl rfl (by decide)) <| L_op (.plain rfl) rfl (ltb rfl) (X_assign (v := (.int .i64 (IntKind.wrap .i64 (x0_2.tdiv 10)))) rfl) <| L_nil <| blk_n <| thn_n ?_
          obtain rfl := Option.some.inj H
          exact ⟨_, Nat.lt_succ_self _, IntKind.wrap .i64 (x0_2.tdiv 10), (bytesOf ([IntKind.wrap .u8 (IntKind.wrap .i64 (48 + (x0_2.tmod 10)))] : List Int)) ++ x3_3, (Kp.upd (Kp.upd (Kp.upd (Kp.upd (Kp.upd (Kp.upd (Kp.upd (Kp.upd (Kp.upd (Kp.upd (Kp.upd (Kp.upd (Kp.upd (Kp.upd K15 rfl) rfl) rfl) rfl) rfl) rfl) rfl) rfl) rfl) rfl) rfl) rfl) rfl) rfl), rfl, rfl, (Ext.trans e16 e27), S21⟩
        · refine W_false (congrArg Value.bool q22) <| W_exit <| thn_x <| thn_x <| blk_x <| thn_n ?_
          obtain rfl := Option.some.inj H
          obtain rfl := Option.some.inj S21
          exact ⟨x3_3, (Kp.upd (Kp.upd K15 rfl) rfl), h19, e16, rfl⟩
    · rintro s9 w8 ⟨x3_7, K10, h30, e11, y31⟩
      rw [y31] at C6
      have H := C6
      replace H : _ = some _ := H
      refine thn_n <| W_seq <| W_reg <| L_op (.plain rfl) rfl (ltb rfl) (X_move (v := (S x3_7)) h30) ?_
      obtain ⟨c32, H⟩ := bif_some H
      refine L_op (.plain rfl) rfl (ltb rfl) (X_cat rfl rfl (of_decide_eq_true c32)) <| L_op (.plain rfl) rfl (ltb rfl) (X_assign (v := (S (([109] : List UInt8) ++ x3_7))) rfl) <| L_nil <| thn_n <| W_ret <| fin_r ?_
      obtain rfl := Option.some.inj H
      exact fin1 rfl e11
theorem laws_markText.calls {w : World} {a0 : Int} (h0 : (a0 : Int) ≤ 4611686018427387904) :
    Calls Tryd.prog 48 #[.int .i64 a0] w (Rt (RP w (S (markT a0)))) := by
  obtain ⟨k, h⟩ := laws_markText.eq a0 h0
  exact laws_markText.walk h
/-! laws.heldStringS -/
theorem laws_heldStringS.walk {k : Nat} {w : World} {a0 : List (List UInt8)} {a1 : Int} {v_a0 : Value} (f_a0 : Rd 1 encS w v_a0 a0) {r : Int} (H : laws_heldStringS.sh k a0 a1 = some r) :
    Calls Tryd.prog 28 #[v_a0, .int .i64 a1] w (Rt (RP w (.int .i64 r))) := by
  unfold laws_heldStringS.sh at H
  refine calls_of_W Tryd.func28 rfl (Nat.le_of_ble_eq_true rfl) Tryd.ntmps28 rfl ?_
  refine W_seq <| W_reg <| L_op (.plain rfl) rfl (ltb rfl) (X_assign (v := (.int .i64 0)) rfl) <| L_nil <| thn_n <| W_seq <| W_seq <| W_reg <| L_op (.plain rfl) rfl (ltb rfl) (X_assign (v := (.int .i64 0)) rfl) <| L_nil <| thn_n ?_
  obtain ⟨z3, L4, C5⟩ := bind_some H
  clear H
  refine  W_cutQ (fun s0 s9 w9 => ∃ (x1_6 : Int), Kp [(1, 2), (4, 21)] s0 s9 ∧ s9 1 = .int .i64 x1_6 ∧ Ext w w9 ∧ z3 = .inr x1_6) ?_ ?_
  · refine W_block <| W_loopI (fun s0 kk s9 w9 => ∃ (x1_1 : Int) (x5_2 : Int), Kp [(1, 2), (4, 21)] s0 s9 ∧ s9 1 = .int .i64 x1_1 ∧ s9 5 = .int .i64 x5_2 ∧ Ext w w9 ∧ loopF (laws_heldStringS.b1 a0) kk (x1_1, x5_2) = some z3) k ⟨a1, 0, (Kp.refl _ _), rfl, rfl, (Ext.refl w), L4⟩ ?_
    rintro k11 s12 w13 ⟨x1_1, x5_2, K14, h17, h18, e15, L16⟩
    cases k11 with
    | zero => exact absurd L16 (by simp [loopF])
    | succ k11 =>
      obtain ⟨t19, H, S20⟩ := loopF_succ L16
      clear L16
      unfold laws_heldStringS.b1 at H
      refine W_seq <| W_seq <| W_reg <| L_op (.plain rfl) rfl (ltb rfl) (X_move (v := (.int .i64 x5_2)) h18) <| L_op (.plain rfl) rfl (ltb rfl) (X_move (v := v_a0) (K14 0 rfl)) <| L_op (.plain rfl) rfl (ltb rfl) (X_lenR Tryd.underlying34 rfl (Rd.ext f_a0 e15)) <| L_op (.plain rfl) rfl (ltb rfl) (X_lss rfl rfl) <| L_nil <| thn_n ?_
      rcases bif_two H with ⟨q21, H⟩ | ⟨q21, H⟩
      · refine W_true (congrArg Value.bool q21) <| W_skip <| thn_n <| W_seq <| W_block <| W_seq <| W_seq ?_
        obtain ⟨c22, H⟩ := bif_some H
        obtain ⟨c25, H⟩ := bif_some H
        refine W_drawM [LEq v_a0, LEq (.int .i64 x5_2), LAt0 (encS (gt a0 x5_2)), LEq (S (gt a0 x5_2)), LEq (.int .i64 x1_1), LEq (S (markT x1_1)), LEq (.bool (!decide ((gt a0 x5_2) = (markT x1_1))))] (by kernel_rfl) (by kernel_rfl) ⟨LEq.mono, LEq.mono, LAt0.mono, LEq.mono, LEq.mono, LEq.mono, LEq.mono, trivial⟩ ⟨?_, ?_, ?_, ?_, ?_, ?_, ?_, trivial⟩ ?_
        · intro s28 w29 e30 hf31 hd32 _
          exact L_op (.plain rfl) rfl (ltb rfl) (X_move (v := v_a0) ((hf31 0 rfl).trans (K14 0 rfl))) <| L_nil <| stepEnd rfl rfl (Ext.refl w29) rfl
        · intro s33 w34 e35 hf36 hd37 _
          exact L_op (.plain rfl) rfl (ltb rfl) (X_move (v := (.int .i64 x5_2)) ((hf36 5 rfl).trans h18)) <| L_nil <| stepEnd rfl rfl (Ext.refl w34) rfl
        · intro s38 w39 e40 hf41 hd42 _
          have d43 : s38 12 = v_a0 := (hd42 0 rfl)
          have d44 : s38 13 = (.int .i64 x5_2) := (hd42 1 rfl)
          have c45 := c22
          exact L_idx (.plain rfl) rfl (ltb rfl) rfl Tryd.underlying34 Tryd.sizeOf9 d43 (Rd.ext f_a0 (Ext.trans e15 e40)) d44 c45 <| fun p46 h47 => L_nil <| stepEnd rfl rfl (Ext.refl w39) ⟨_, rfl, h47⟩
        · intro s48 w49 e50 hf51 hd52 _
          obtain ⟨p53, h54, h55⟩ := (hd52 2 rfl)
          exact L_op (.plain rfl) rfl (ltb rfl) (X_loadAt Tryd.isAgg9 h54 h55 rfl) <| L_nil <| stepEnd rfl rfl (Ext.refl w49) rfl
        · intro s56 w57 e58 hf59 hd60 _
          exact L_op (.plain rfl) rfl (ltb rfl) (X_move (v := (.int .i64 x1_1)) ((hf59 1 rfl).trans h17)) <| L_nil <| stepEnd rfl rfl (Ext.refl w57) rfl
        · intro s61 w62 e63 hf64 hd65 _
          have d66 : s61 16 = (.int .i64 x1_1) := (hd65 4 rfl)
          have c67 := c25
          exact L_callP (.plain rfl) rfl (ltb rfl) rfl Tryd.call48 (laws_markText.calls (w := w62) (a0 := x1_1) (of_decide_eq_true c67)) (cons2 d66 rfl) <| fun w68 e69 => L_nil <| stepEnd rfl rfl e69 rfl
        · intro s70 w71 e72 hf73 hd74 _
          have d75 : s70 15 = (S (gt a0 x5_2)) := (hd74 3 rfl)
          have d76 : s70 17 = (S (markT x1_1)) := (hd74 5 rfl)
          exact L_op (.plain rfl) rfl (ltb rfl) (X_sne d75 d76) <| L_nil <| stepEnd rfl rfl (Ext.refl w71) rfl
        intro s77 w78 e79 hf80 ha81
        have K82 := Kp.ofD (kp := [(12, 19)]) rfl hf80
        have d83 : s77 18 = (.bool (!decide ((gt a0 x5_2) = (markT x1_1)))) := ha81 6 rfl
        clear ha81 hf80
        refine thn_n ?_
        rcases bif_two H with ⟨q84, H⟩ | ⟨q84, H⟩
        · refine W_true (d83.trans (congrArg Value.bool q84)) <| W_seq <| W_reg <| L_op (.plain rfl) rfl (ltb rfl) (X_assign (v := (.int .i64 (-1))) rfl) <| L_nil <| thn_n <| W_ret <| thn_r <| blk_r <| thn_r <| thn_r <| blk_r <| thn_r <| thn_r <| fin_r ?_
          obtain rfl := Option.some.inj H
          obtain rfl := Option.some.inj S20
          have H := C5
          obtain rfl := Option.some.inj H
          exact fin1 rfl (Ext.trans e15 e79)
        · refine W_false (d83.trans (congrArg Value.bool q84)) <| W_skip <| thn_n <| W_reg <| L_op (.plain rfl) rfl (ltb rfl) (X_move (v := (.int .i64 x1_1)) ((K82 1 rfl).trans h17)) <| L_op (.plain rfl) rfl (ltb rfl) (X_add rfl rfl) <| L_op (.plain rfl) rfl (ltb rfl) (X_assign (v := (.int .i64 (IntKind.wrap .i64 (x1_1 + 1)))) rfl) <| L_nil <| blk_n <| thn_n <| W_reg <| L_op (.plain rfl) rfl (ltb rfl) (X_move (v := (.int .i64 x5_2)) ((K82 5 rfl).trans h18)) <| L_op (.plain rfl) rfl (ltb rfl) (X_add rfl rfl) <| L_op (.plain rfl) rfl (ltb rfl) (X_assign (v := (.int .i64 (IntKind.wrap .i64 (x5_2 + 1)))) rfl) <| L_nil <| thn_n ?_
          obtain rfl := Option.some.inj H
          exact ⟨_, Nat.lt_succ_self _, IntKind.wrap .i64 (x1_1 + 1), IntKind.wrap .i64 (x5_2 + 1), (Kp.upd (Kp.upd (Kp.upd (Kp.upd (Kp.upd (Kp.upd (Kp.cut (Kp.upd (Kp.upd (Kp.upd (Kp.upd K14 rfl) rfl) rfl) rfl) K82 rfl) rfl) rfl) rfl) rfl) rfl) rfl), rfl, rfl, (Ext.trans e15 e79), S20⟩
      · refine W_false (congrArg Value.bool q21) <| W_exit <| thn_x <| thn_x <| blk_x <| thn_n ?_
        obtain rfl := Option.some.inj H
        obtain rfl := Option.some.inj S20
        exact ⟨x1_1, (Kp.upd (Kp.upd (Kp.upd (Kp.upd K14 rfl) rfl) rfl) rfl), h17, e15, rfl⟩
  · rintro s8 w7 ⟨x1_6, K9, h85, e10, y86⟩
    rw [y86] at C5
    have H := C5
    replace H : _ = some _ := H
    refine thn_n <| W_seq <| W_reg <| L_op (.plain rfl) rfl (ltb rfl) (X_move (v := (.int .i64 x1_6)) h85) <| L_op (.plain rfl) rfl (ltb rfl) (X_assign (v := (.int .i64 x1_6)) rfl) <| L_nil <| thn_n <| W_ret <| fin_r ?_
    obtain rfl := Option.some.inj H
    exact fin1 rfl e10
theorem laws_heldStringS.calls {w : World} {a0 : List (List UInt8)} {a1 : Int} {v_a0 : Value} (f_a0 : Rd 1 encS w v_a0 a0) (h0 : a0.length ≤ 4611686018427387904) (h1 : (0 : Int) ≤ a1) (h2 : (a1 : Int) ≤ 4611686018427387904 - (a0.length : Int)) :
    Calls Tryd.prog 28 #[v_a0, .int .i64 a1] w (Rt (RP w (.int .i64 (heldS a0 a1)))) := by
  obtain ⟨k, h⟩ := laws_heldStringS.eq a0 a1 h0 h1 h2
  exact laws_heldStringS.walk f_a0 h
/-! laws.markStringS -/
theorem laws_markStringS.walk {k : Nat} {w : World} {a0 : List (List UInt8)} {a1 : Int} {v_a0 : Value} {B_a0 : Nat} {T_a0 : Nat} (o_a0 : Own 9 1 encS B_a0 w v_a0 a0) (l_a0 : HB v_a0 T_a0) {r : Int × List (List UInt8)} (H : laws_markStringS.sh k a0 a1 = some r) :
    Calls Tryd.prog 27 #[v_a0, .int .i64 a1] w (Rt (RM 9 1 encS B_a0 T_a0 w (.int .i64 r.1) v_a0 r.2)) := by
  unfold laws_markStringS.sh at H
  refine calls_of_W Tryd.func27 rfl (Nat.le_of_ble_eq_true rfl) Tryd.ntmps27 rfl ?_
  refine W_seq <| W_reg <| L_op (.plain rfl) rfl (ltb rfl) (X_assign (v := (.int .i64 0)) rfl) <| L_nil <| thn_n <| W_seq <| W_seq <| W_reg <| L_op (.plain rfl) rfl (ltb rfl) (X_assign (v := (.int .i64 0)) rfl) <| L_nil <| thn_n ?_
  obtain ⟨z4, L5, C6⟩ := bind_some H
  clear H
  refine  W_cutQ (fun s0 s9 w9 => ∃ (x1_7 : Int) (y8 : List (List UInt8)), Kp [(1, 2), (5, 19)] s0 s9 ∧ s9 1 = .int .i64 x1_7 ∧ Own 9 1 encS B_a0 w9 v_a0 y8 ∧ Gr B_a0 T_a0 w w9 ∧ z4 = .inr (x1_7, y8)) ?_ ?_
  · refine W_block <| W_loopI (fun s0 kk s9 w9 => ∃ (x1_1 : Int) (x5_2 : Int) (y3 : List (List UInt8)), Kp [(1, 2), (5, 19)] s0 s9 ∧ s9 1 = .int .i64 x1_1 ∧ s9 5 = .int .i64 x5_2 ∧ Own 9 1 encS B_a0 w9 v_a0 y3 ∧ Gr B_a0 T_a0 w w9 ∧ loopF (laws_markStringS.b1) kk (x1_1, x5_2, y3) = some z4) k ⟨a1, 0, a0, (Kp.refl _ _), rfl, rfl, o_a0, (Gr.refl _ _ _), L5⟩ ?_
    rintro k13 s14 w15 ⟨x1_1, x5_2, y3, K16, h19, h20, h21, e17, L18⟩
    cases k13 with
    | zero => exact absurd L18 (by simp [loopF])
    | succ k13 =>
      obtain ⟨t22, H, S23⟩ := loopF_succ L18
      clear L18
      unfold laws_markStringS.b1 at H
      refine W_seq <| W_seq <| W_reg <| L_op (.plain rfl) rfl (ltb rfl) (X_move (v := (.int .i64 x5_2)) h20) <| L_op (.plain rfl) rfl (ltb rfl) (X_move (v := v_a0) (K16 0 rfl)) <| L_op (.plain rfl) rfl (ltb rfl) (X_lenR Tryd.underlying34 rfl (Own.rd h21)) <| L_op (.plain rfl) rfl (ltb rfl) (X_lss rfl rfl) <| L_nil <| thn_n ?_
      rcases bif_two H with ⟨q24, H⟩ | ⟨q24, H⟩
      · refine W_true (congrArg Value.bool q24) <| W_skip <| thn_n <| W_seq <| W_block <| W_seq <| W_reg <| L_op (.plain rfl) rfl (ltb rfl) (X_move (v := v_a0) (K16 0 rfl)) <| L_op (.plain rfl) rfl (ltb rfl) (X_move (v := (.int .i64 x5_2)) h20) <| L_op (.plain rfl) rfl (ltb rfl) (X_move (v := (.int .i64 x1_1)) h19) ?_
        obtain ⟨c25, H⟩ := bif_some H
        refine L_callP (.plain rfl) rfl (ltb rfl) rfl Tryd.call48 (laws_markText.calls (w := w15) (a0 := x1_1) (of_decide_eq_true c25)) rfl <| fun w26 e27 => ?_
        obtain ⟨c30, H⟩ := bif_some H
        refine L_idxO (.plain rfl) rfl (ltb rfl) rfl Tryd.underlying34 Tryd.sizeOf9 rfl (Own.ext h21 e27) rfl c30 <| fun p28 h29 => L_storeO (a := (markT x1_1)) (vs := [(S (markT x1_1))]) (off := 0) (.plain rfl) rfl rfl Tryd.sizeOf9 rfl h29 rfl rfl rfl rfl rfl rfl <| fun b31 w32 h33 h34 h35 o36 => L_nil <| thn_n <| W_reg <| L_op (.plain rfl) rfl (ltb rfl) (X_move (v := (.int .i64 x1_1)) h19) <| L_op (.plain rfl) rfl (ltb rfl) (X_add rfl rfl) <| L_op (.plain rfl) rfl (ltb rfl) (X_assign (v := (.int .i64 (IntKind.wrap .i64 (x1_1 + 1)))) rfl) <| L_nil <| blk_n <| thn_n <| W_reg <| L_op (.plain rfl) rfl (ltb rfl) (X_move (v := (.int .i64 x5_2)) h20) <| L_op (.plain rfl) rfl (ltb rfl) (X_add rfl rfl) <| L_op (.plain rfl) rfl (ltb rfl) (X_assign (v := (.int .i64 (IntKind.wrap .i64 (x5_2 + 1)))) rfl) <| L_nil <| thn_n ?_
        obtain rfl := Option.some.inj H
        exact ⟨_, Nat.lt_succ_self _, IntKind.wrap .i64 (x1_1 + 1), IntKind.wrap .i64 (x5_2 + 1), setI y3 x5_2 (markT x1_1), (Kp.upd (Kp.upd (Kp.upd (Kp.upd (Kp.upd (Kp.upd (Kp.upd (Kp.upd (Kp.upd (Kp.upd (Kp.upd (Kp.upd (Kp.upd (Kp.upd (Kp.upd K16 rfl) rfl) rfl) rfl) rfl) rfl) rfl) rfl) rfl) rfl) rfl) rfl) rfl) rfl) rfl), rfl, rfl, o36, (Gr.trans (Gr.trans e17 (Gr.ext e27)) (Gr.wr h35 h34 (HB.own l_a0 h33 (OP.own0 h29) (inR_pos c30)))), S23⟩
      · refine W_false (congrArg Value.bool q24) <| W_exit <| thn_x <| thn_x <| blk_x <| thn_n ?_
        obtain rfl := Option.some.inj H
        obtain rfl := Option.some.inj S23
        exact ⟨x1_1, y3, (Kp.upd (Kp.upd (Kp.upd (Kp.upd K16 rfl) rfl) rfl) rfl), h19, h21, e17, rfl⟩
  · rintro s10 w9 ⟨x1_7, y8, K11, h37, h38, e12, y39⟩
    rw [y39] at C6
    have H := C6
    replace H : _ = some _ := H
    refine thn_n <| W_seq <| W_reg <| L_op (.plain rfl) rfl (ltb rfl) (X_move (v := (.int .i64 x1_7)) h37) <| L_op (.plain rfl) rfl (ltb rfl) (X_assign (v := (.int .i64 x1_7)) rfl) <| L_nil <| thn_n <| W_ret <| fin_r ?_
    obtain rfl := Option.some.inj H
    exact fin1m rfl e12 h38
theorem laws_markStringS.calls {w : World} {a0 : List (List UInt8)} {a1 : Int} {v_a0 : Value} {B_a0 : Nat} {T_a0 : Nat} (o_a0 : Own 9 1 encS B_a0 w v_a0 a0) (l_a0 : HB v_a0 T_a0) (h0 : a0.length ≤ 4611686018427387904) (h1 : (0 : Int) ≤ a1) (h2 : (a1 : Int) ≤ 4611686018427387904 - (a0.length : Int)) :
    Calls Tryd.prog 27 #[v_a0, .int .i64 a1] w (Rt (RM 9 1 encS B_a0 T_a0 w (.int .i64 (a1 + (a0.length : Int))) v_a0 (marksS a0.length a1))) := by
  obtain ⟨k, h⟩ := laws_markStringS.eq a0 a1 h0 h1 h2
  exact laws_markStringS.walk o_a0 l_a0 h
/-! laws.FnExactPartsOf -/
theorem law_PartsOf.walk {w : World} {a0 : List UInt8} (gv : GV 0 w) {r : Bool} (H : law_PartsOf.sh a0 = some r) :
    Calls Tryd.prog 9 #[S a0] w (Rt (RP w (.bool r))) := by
  unfold law_PartsOf.sh at H
  refine calls_of_W Tryd.func9 rfl (Nat.le_of_ble_eq_true rfl) Tryd.ntmps9 rfl ?_
  refine W_seq <| W_reg <| L_op (.plain rfl) rfl (ltb rfl) (X_assign (v := (.bool false)) rfl) <| L_nil <| thn_n <| W_seq <| W_seq <| W_reg <| L_op (.plain rfl) rfl (ltb rfl) (X_move (v := (S a0)) rfl) <| L_op (.plain rfl) rfl (ltb rfl) (X_lenS Tryd.underlying9 rfl) <| L_op (.plain rfl) rfl (ltb rfl) (X_gtr rfl rfl) <| L_nil <| thn_n ?_
  rcases bif_two H with ⟨q1, H⟩ | ⟨q1, H⟩
  · refine W_true (congrArg Value.bool q1) <| W_seq <| W_reg <| L_op (.plain rfl) rfl (ltb rfl) (X_assign (v := (.bool true)) rfl) <| L_nil <| thn_n <| W_ret <| thn_r <| fin_r ?_
    obtain rfl := Option.some.inj H
    exact fin1 rfl (Ext.refl w)
  · refine W_false (congrArg Value.bool q1) <| W_skip <| thn_n <| W_seq <| W_reg <| L_op (.plain rfl) rfl (ltb rfl) (X_move (v := (S a0)) rfl) <| L_callT (.plain rfl) rfl (ltb rfl) rfl Tryd.call24 (spec_PartsOf.calls (w := w) (a0 := a0)) rfl <| fun v4 w2 e3 o5 => L_op (.plain rfl) rfl (ltb rfl) (X_move (v := (.tuple #[v4, (.int .i64 ((partsOf a0).2))])) rfl) <| L_op (.plain rfl) rfl (ltb rfl) (X_extract (v := v4) rfl rfl) <| L_op (.plain rfl) rfl (ltb rfl) (X_extract (v := (.int .i64 ((partsOf a0).2))) rfl rfl) <| L_op (.plain rfl) rfl (ltb rfl) (X_assign (v := v4) rfl) <| L_op (.plain rfl) rfl (ltb rfl) (X_assign (v := (.int .i64 ((partsOf a0).2))) rfl) <| L_nil <| thn_n <| W_seq <| W_reg <| L_op (.plain rfl) rfl (ltb rfl) (X_move (v := (S a0)) rfl) <| L_callT (.plain rfl) rfl (ltb rfl) rfl Tryd.call25 (impl_PartsOf.calls (w := w2) (a0 := a0) (GV.ext gv e3)) rfl <| fun v8 w6 e7 o9 => L_op (.plain rfl) rfl (ltb rfl) (X_move (v := (.tuple #[v8, (.int .i64 ((partsOf a0).2))])) rfl) <| L_op (.plain rfl) rfl (ltb rfl) (X_extract (v := v8) rfl rfl) <| L_op (.plain rfl) rfl (ltb rfl) (X_extract (v := (.int .i64 ((partsOf a0).2))) rfl rfl) <| L_op (.plain rfl) rfl (ltb rfl) (X_assign (v := v8) rfl) <| L_op (.plain rfl) rfl (ltb rfl) (X_assign (v := (.int .i64 ((partsOf a0).2))) rfl) <| L_nil <| thn_n <| W_seq <| W_seq <| W_reg <| L_op (.plain rfl) rfl (ltb rfl) (X_move (v := v8) rfl) <| L_op (.plain rfl) rfl (ltb rfl) (X_move (v := v4) rfl) ?_
    obtain ⟨c10, H⟩ := bif_some H
    refine L_callP (.plain rfl) rfl (ltb rfl) rfl Tryd.call26 (laws_eqStringS.calls (w := w6) (a0 := (partsOf a0).1) (a1 := (partsOf a0).1) (Own.rd o9) (Own.rd (Own.ext o5 e7)) (of_decide_eq_true c10)) rfl <| fun w11 e12 => L_op (.plain rfl) rfl (ltb rfl) (X_not rfl) <| L_op (.plain rfl) rfl (ltb rfl) (X_move (v := (.bool (!(decide (((partsOf a0).1) = ((partsOf a0).1)))))) rfl) <| L_grp 4 [(29, 33)] 32 (.bool ((!(decide (((partsOf a0).1) = ((partsOf a0).1)))) || (!decide (((partsOf a0).2) = ((partsOf a0).2))))) ?_ ?_
    · rcases bool_two (!(decide (((partsOf a0).1) = ((partsOf a0).1)))) with b12_ | b12_
      · exact L_skip rfl rfl (ltb rfl) (congrArg Value.bool b12_) rfl rfl (ltb rfl) <| L_skip rfl rfl (ltb rfl) (congrArg Value.bool b12_) rfl rfl (ltb rfl) <| L_skip rfl rfl (ltb rfl) (congrArg Value.bool b12_) rfl rfl (ltb rfl) <| L_op (.plain rfl) rfl (ltb rfl) (X_pick (b := true) (v := (.bool true)) (congrArg Value.bool b12_) rfl) <| L_nil <| thn_n ⟨(Kp.upd (Kp.upd (Kp.upd (Kp.upd (Kp.refl _ _) rfl) rfl) rfl) rfl), (or_t b12_), (Ext.refl w11)⟩
      · exact L_op (.guard 4 false 28 rfl rfl (ltb rfl) (congrArg Value.bool b12_)) rfl (ltb rfl) (X_move (v := (.int .i64 ((partsOf a0).2))) rfl) <| L_op (.guard 4 false 28 rfl rfl (ltb rfl) (congrArg Value.bool b12_)) rfl (ltb rfl) (X_move (v := (.int .i64 ((partsOf a0).2))) rfl) <| L_op (.guard 4 false 28 rfl rfl (ltb rfl) (congrArg Value.bool b12_)) rfl (ltb rfl) (X_neq rfl rfl) <| L_op (.plain rfl) rfl (ltb rfl) (X_pick (b := false) (v := (.bool (!decide (((partsOf a0).2) = ((partsOf a0).2))))) (congrArg Value.bool b12_) rfl) <| L_nil <| thn_n ⟨(Kp.upd (Kp.upd (Kp.upd (Kp.upd (Kp.refl _ _) rfl) rfl) rfl) rfl), (or_f b12_), (Ext.refl w11)⟩
    intro s18 w14 K15 h16 e17
    refine L_nil <| thn_n ?_
    rcases bif_two H with ⟨q19, H⟩ | ⟨q19, H⟩
    · refine W_true (h16.trans (congrArg Value.bool q19)) <| W_seq <| W_reg <| L_op (.plain rfl) rfl (ltb rfl) (X_assign (v := (.bool false)) rfl) <| L_nil <| thn_n <| W_ret <| thn_r <| fin_r ?_
      obtain rfl := Option.some.inj H
      exact fin1 rfl (Ext.trans (Ext.trans (Ext.trans e3 e7) e12) e17)
    · refine W_false (h16.trans (congrArg Value.bool q19)) <| W_skip <| thn_n <| W_seq <| W_reg <| L_op (.plain rfl) rfl (ltb rfl) (X_assign (v := (.int .i64 1)) rfl) <| L_nil <| thn_n <| W_seq <| W_reg <| L_op (.plain rfl) rfl (ltb rfl) (X_move (v := v8) (K15 5 rfl)) <| L_op (.plain rfl) rfl (ltb rfl) (X_move (v := (.int .i64 1)) rfl) ?_
      obtain ⟨c20, H⟩ := bif_some H
      obtain ⟨c21, H⟩ := bif_some H
      obtain ⟨c22, H⟩ := bif_some H
      refine L_callM (.plain rfl) rfl (ltb rfl) rfl Tryd.call27 (laws_markStringS.calls (w := w14) (a0 := (partsOf a0).1) (a1 := 1) (Own.ext o9 (Ext.trans e12 e17)) (Own.hb o9) (of_decide_eq_true c20) (of_decide_eq_true c21) (of_decide_eq_true c22)) rfl <| fun w23 e24 o25 => L_op (.plain rfl) rfl (ltb rfl) (X_assign (v := (.int .i64 (1 + (((partsOf a0).1).length : Int)))) rfl) <| L_nil <| thn_n <| W_seq <| W_reg <| L_op (.plain rfl) rfl (ltb rfl) (X_assign (v := (.int .i64 1)) rfl) <| L_nil <| thn_n <| W_seq <| W_reg <| L_op (.plain rfl) rfl (ltb rfl) (X_move (v := v8) (K15 5 rfl)) <| L_op (.plain rfl) rfl (ltb rfl) (X_move (v := (.int .i64 1)) rfl) ?_
      obtain ⟨c26, H⟩ := bif_some H
      obtain ⟨c27, H⟩ := bif_some H
      obtain ⟨c28, H⟩ := bif_some H
      refine L_callP (.plain rfl) rfl (ltb rfl) rfl Tryd.call28 (laws_heldStringS.calls (w := w23) (a0 := (marksS ((partsOf a0).1).length 1)) (a1 := 1) (Own.rd o25) (of_decide_eq_true c26) (of_decide_eq_true c27) (of_decide_eq_true c28)) rfl <| fun w29 e30 => L_op (.plain rfl) rfl (ltb rfl) (X_assign (v := (.int .i64 (heldS (marksS ((partsOf a0).1).length 1) 1))) rfl) <| L_nil <| thn_n <| W_seq <| W_seq <| W_reg <| L_op (.plain rfl) rfl (ltb rfl) (X_move (v := (.int .i64 (heldS (marksS ((partsOf a0).1).length 1) 1))) rfl) <| L_op (.plain rfl) rfl (ltb rfl) (X_lss rfl rfl) <| L_nil <| thn_n ?_
      rcases bif_two H with ⟨q31, H⟩ | ⟨q31, H⟩
      · refine W_true (congrArg Value.bool q31) <| W_seq <| W_reg <| L_op (.plain rfl) rfl (ltb rfl) (X_assign (v := (.bool false)) rfl) <| L_nil <| thn_n <| W_ret <| thn_r <| fin_r ?_
        obtain rfl := Option.some.inj H
        exact fin1 rfl (Ext.trans (Ext.trans e3 (Ext.gr (Ext.trans (Ext.trans e7 e12) e17) e24 (Ext.refl w2).size)) e30)
      · refine W_false (congrArg Value.bool q31) <| W_skip <| thn_n <| W_seq <| W_seq <| W_reg <| L_op (.plain rfl) rfl (ltb rfl) (X_move (v := (.int .i64 (heldS (marksS ((partsOf a0).1).length 1) 1))) rfl) <| L_op (.plain rfl) rfl (ltb rfl) (X_move (v := (.int .i64 (1 + (((partsOf a0).1).length : Int)))) rfl) <| L_op (.plain rfl) rfl (ltb rfl) (X_neq rfl rfl) <| L_nil <| thn_n ?_
        rcases bif_two H with ⟨q32, H⟩ | ⟨q32, H⟩
        · refine W_true (congrArg Value.bool q32) <| W_seq <| W_reg <| L_op (.plain rfl) rfl (ltb rfl) (X_assign (v := (.bool false)) rfl) <| L_nil <| thn_n <| W_ret <| thn_r <| fin_r ?_
          obtain rfl := Option.some.inj H
          exact fin1 rfl (Ext.trans (Ext.trans e3 (Ext.gr (Ext.trans (Ext.trans e7 e12) e17) e24 (Ext.refl w2).size)) e30)
        · refine W_false (congrArg Value.bool q32) <| W_skip <| thn_n <| W_seq <| W_reg <| L_op (.plain rfl) rfl (ltb rfl) (X_move (v := (S a0)) (K15 0 rfl)) <| L_callT (.plain rfl) rfl (ltb rfl) rfl Tryd.call25 (impl_PartsOf.calls (w := w29) (a0 := a0) (GV.ext gv (Ext.trans (Ext.trans e3 (Ext.gr (Ext.trans (Ext.trans e7 e12) e17) e24 (Ext.refl w2).size)) e30))) rfl <| fun v35 w33 e34 o36 => L_op (.plain rfl) rfl (ltb rfl) (X_move (v := (.tuple #[v35, (.int .i64 ((partsOf a0).2))])) rfl) <| L_op (.plain rfl) rfl (ltb rfl) (X_extract (v := v35) rfl rfl) <| L_op (.plain rfl) rfl (ltb rfl) (X_extract (v := (.int .i64 ((partsOf a0).2))) rfl rfl) <| L_op (.plain rfl) rfl (ltb rfl) (X_assign (v := v35) rfl) <| L_op (.plain rfl) rfl (ltb rfl) (X_assign (v := (.int .i64 ((partsOf a0).2))) rfl) <| L_nil <| thn_n <| W_seq <| W_seq <| W_reg <| L_op (.plain rfl) rfl (ltb rfl) (X_move (v := v35) rfl) <| L_op (.plain rfl) rfl (ltb rfl) (X_move (v := v4) (K15 3 rfl)) ?_
          obtain ⟨c37, H⟩ := bif_some H
          refine L_callP (.plain rfl) rfl (ltb rfl) rfl Tryd.call26 (laws_eqStringS.calls (w := w33) (a0 := (partsOf a0).1) (a1 := (partsOf a0).1) (Own.rd o36) (Own.rd (Own.ext o5 (Ext.trans (Ext.trans (Ext.gr (Ext.trans (Ext.trans e7 e12) e17) e24 (Ext.refl w2).size) e30) e34))) (of_decide_eq_true c37)) rfl <| fun w38 e39 => L_op (.plain rfl) rfl (ltb rfl) (X_not rfl) <| L_op (.plain rfl) rfl (ltb rfl) (X_move (v := (.bool (!(decide (((partsOf a0).1) = ((partsOf a0).1)))))) rfl) <| L_grp 4 [(54, 58)] 57 (.bool ((!(decide (((partsOf a0).1) = ((partsOf a0).1)))) || (!decide (((partsOf a0).2) = ((partsOf a0).2))))) ?_ ?_
          · rcases bool_two (!(decide (((partsOf a0).1) = ((partsOf a0).1)))) with b39_ | b39_
            · exact L_skip rfl rfl (ltb rfl) (congrArg Value.bool b39_) rfl rfl (ltb rfl) <| L_skip rfl rfl (ltb rfl) (congrArg Value.bool b39_) rfl rfl (ltb rfl) <| L_skip rfl rfl (ltb rfl) (congrArg Value.bool b39_) rfl rfl (ltb rfl) <| L_op (.plain rfl) rfl (ltb rfl) (X_pick (b := true) (v := (.bool true)) (congrArg Value.bool b39_) rfl) <| L_nil <| thn_n ⟨(Kp.upd (Kp.upd (Kp.upd (Kp.upd (Kp.refl _ _) rfl) rfl) rfl) rfl), (or_t b39_), (Ext.refl w38)⟩
            · exact L_op (.guard 4 false 53 rfl rfl (ltb rfl) (congrArg Value.bool b39_)) rfl (ltb rfl) (X_move (v := (.int .i64 ((partsOf a0).2))) rfl) <| L_op (.guard 4 false 53 rfl rfl (ltb rfl) (congrArg Value.bool b39_)) rfl (ltb rfl) (X_move (v := (.int .i64 ((partsOf a0).2))) (K15 4 rfl)) <| L_op (.guard 4 false 53 rfl rfl (ltb rfl) (congrArg Value.bool b39_)) rfl (ltb rfl) (X_neq rfl rfl) <| L_op (.plain rfl) rfl (ltb rfl) (X_pick (b := false) (v := (.bool (!decide (((partsOf a0).2) = ((partsOf a0).2))))) (congrArg Value.bool b39_) rfl) <| L_nil <| thn_n ⟨(Kp.upd (Kp.upd (Kp.upd (Kp.upd (Kp.refl _ _) rfl) rfl) rfl) rfl), (or_f b39_), (Ext.refl w38)⟩
          intro s45 w41 K42 h43 e44
          refine L_nil <| thn_n ?_
          rcases bif_two H with ⟨q46, H⟩ | ⟨q46, H⟩
          · refine W_true (h43.trans (congrArg Value.bool q46)) <| W_seq <| W_reg <| L_op (.plain rfl) rfl (ltb rfl) (X_assign (v := (.bool false)) rfl) <| L_nil <| thn_n <| W_ret <| thn_r <| fin_r ?_
            obtain rfl := Option.some.inj H
            exact fin1 rfl (Ext.trans (Ext.trans (Ext.trans (Ext.trans (Ext.trans e3 (Ext.gr (Ext.trans (Ext.trans e7 e12) e17) e24 (Ext.refl w2).size)) e30) e34) e39) e44)
          · refine W_false (h43.trans (congrArg Value.bool q46)) <| W_skip <| thn_n <| W_seq <| W_reg <| L_op (.plain rfl) rfl (ltb rfl) (X_assign (v := (.int .i64 1)) rfl) <| L_nil <| thn_n <| W_seq <| W_reg <| L_op (.plain rfl) rfl (ltb rfl) (X_move (v := v8) ((K42 5 rfl).trans (K15 5 rfl))) <| L_op (.plain rfl) rfl (ltb rfl) (X_move (v := (.int .i64 1)) rfl) ?_
            obtain ⟨c47, H⟩ := bif_some H
            obtain ⟨c48, H⟩ := bif_some H
            obtain ⟨c49, H⟩ := bif_some H
            refine L_callP (.plain rfl) rfl (ltb rfl) rfl Tryd.call28 (laws_heldStringS.calls (w := w41) (a0 := (marksS ((partsOf a0).1).length 1)) (a1 := 1) (Own.rd (Own.ext o25 (Ext.trans (Ext.trans (Ext.trans e30 e34) e39) e44))) (of_decide_eq_true c47) (of_decide_eq_true c48) (of_decide_eq_true c49)) rfl <| fun w50 e51 => L_op (.plain rfl) rfl (ltb rfl) (X_assign (v := (.int .i64 (heldS (marksS ((partsOf a0).1).length 1) 1))) rfl) <| L_nil <| thn_n <| W_seq <| W_seq <| W_reg <| L_op (.plain rfl) rfl (ltb rfl) (X_move (v := (.int .i64 (heldS (marksS ((partsOf a0).1).length 1) 1))) rfl) <| L_op (.plain rfl) rfl (ltb rfl) (X_lss rfl rfl) <| L_nil <| thn_n ?_
            rcases bif_two H with ⟨q52, H⟩ | ⟨q52, H⟩
            · refine W_true (congrArg Value.bool q52) <| W_seq <| W_reg <| L_op (.plain rfl) rfl (ltb rfl) (X_assign (v := (.bool false)) rfl) <| L_nil <| thn_n <| W_ret <| thn_r <| fin_r ?_
              obtain rfl := Option.some.inj H
              exact fin1 rfl (Ext.trans (Ext.trans (Ext.trans (Ext.trans (Ext.trans (Ext.trans e3 (Ext.gr (Ext.trans (Ext.trans e7 e12) e17) e24 (Ext.refl w2).size)) e30) e34) e39) e44) e51)
            · refine W_false (congrArg Value.bool q52) <| W_skip <| thn_n <| W_seq <| W_seq <| W_reg <| L_op (.plain rfl) rfl (ltb rfl) (X_move (v := (.int .i64 (heldS (marksS ((partsOf a0).1).length 1) 1))) rfl) <| L_op (.plain rfl) rfl (ltb rfl) (X_move (v := (.int .i64 (1 + (((partsOf a0).1).length : Int)))) (K42 7 rfl)) <| L_op (.plain rfl) rfl (ltb rfl) (X_neq rfl rfl) <| L_nil <| thn_n ?_
              rcases bif_two H with ⟨q53, H⟩ | ⟨q53, H⟩
              · refine W_true (congrArg Value.bool q53) <| W_seq <| W_reg <| L_op (.plain rfl) rfl (ltb rfl) (X_assign (v := (.bool false)) rfl) <| L_nil <| thn_n <| W_ret <| thn_r <| fin_r ?_
                obtain rfl := Option.some.inj H
                exact fin1 rfl (Ext.trans (Ext.trans (Ext.trans (Ext.trans (Ext.trans (Ext.trans e3 (Ext.gr (Ext.trans (Ext.trans e7 e12) e17) e24 (Ext.refl w2).size)) e30) e34) e39) e44) e51)
              · refine W_false (congrArg Value.bool q53) <| W_skip <| thn_n <| W_seq <| W_reg <| L_op (.plain rfl) rfl (ltb rfl) (X_assign (v := (.bool true)) rfl) <| L_nil <| thn_n <| W_ret <| fin_r ?_
                obtain rfl := Option.some.inj H
                exact fin1 rfl (Ext.trans (Ext.trans (Ext.trans (Ext.trans (Ext.trans (Ext.trans e3 (Ext.gr (Ext.trans (Ext.trans e7 e12) e17) e24 (Ext.refl w2).size)) e30) e34) e39) e44) e51)
theorem law_PartsOf.calls {w : World} {a0 : List UInt8} (gv : GV 0 w) :
    Calls Tryd.prog 9 #[S a0] w (Rt (RP w (.bool true))) := law_PartsOf.walk gv (law_PartsOf.eq a0)
end Go.Proofs.YteinfnffodejkaaDoor
