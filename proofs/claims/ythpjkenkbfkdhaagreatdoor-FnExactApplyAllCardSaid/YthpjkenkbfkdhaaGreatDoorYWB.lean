/- The walks, by program (wip/tools). -/
import Derived.Test.YthpjkenkbfkdhaaGreatDoorProg
import Derived.Test.YthpjkenkbfkdhaaGreatDoorKJ
import Derived.Test.YthpjkenkbfkdhaaGreatDoorKL
import Derived.Test.YthpjkenkbfkdhaaGreatDoorYWA
set_option linter.unusedVariables false
set_option maxRecDepth 10000
namespace Go.Proofs.YthpjkenkbfkdhaaGreatDoor
open Go.UL Go.RowKit
/-! spec.l03Fault -/
abbrev spec_l03Fault.e1 (a0 : List Rec) (x4_1 : Int) := (lessL (cut 47 ((gt a0 (IntKind.wrap .i64 (x4_1 - 1))).path)) (cut 47 ((gt a0 x4_1).path)))
theorem spec_l03Fault.walk {k : Nat} {w : World} {a0 : List Rec} {v_a0 : Value} (f_a0 : Rd 5 encRec w v_a0 a0) {r : Int × Int} (H : spec_l03Fault.sh k a0 = some r) :
    Calls Tryz.prog 109 #[v_a0] w (Rt (RP w (.tuple #[.int .i64 r.1, .int .i64 r.2]))) := by
  unfold spec_l03Fault.sh at H
  refine calls_of_W Tryz.func109 rfl (Nat.le_of_ble_eq_true rfl) Tryz.ntmps109 rfl ?_
  refine W_seq <| W_reg <| L_op (.plain rfl) rfl (ltb rfl) (X_assign (v := (.int .i64 0)) rfl) <| L_op (.plain rfl) rfl (ltb rfl) (X_assign (v := (.int .i64 0)) rfl) <| L_nil <| thn_n <| W_seq <| W_seq <| W_reg <| L_op (.plain rfl) rfl (ltb rfl) (X_assign (v := (.int .i64 0)) rfl) <| L_nil <| thn_n ?_
  obtain ⟨z2, L3, C4⟩ := bind_some H
  clear H
  refine  W_cutQ (fun s0 sQ wQ => Kp [(2, 84)] s0 sQ ∧ Ext w wQ ∧ z2 = .inr ()) ?_ ?_
  · refine W_block <| W_loopI (fun s0 kk sQ wQ => ∃ (x4_1 : Int), Kp [(2, 84)] s0 sQ ∧ sQ 4 = .int .i64 x4_1 ∧ Ext w wQ ∧ loopF (spec_l03Fault.b1 a0) kk x4_1 = some z2) k ⟨0, (Kp.refl _ _), rfl, (Ext.refl w), L3⟩ ?_
    rintro k9 s10 w11 ⟨x4_1, K12, h15, e13, L14⟩
    cases k9 with
    | zero => exact absurd L14 (by simp [loopF])
    | succ k9 =>
      obtain ⟨t16, H, S17⟩ := loopF_succ L14
      clear L14
      unfold spec_l03Fault.b1 at H
      refine W_seq <| W_seq <| W_reg <| L_op (.plain rfl) rfl (ltb rfl) (X_move (v := (.int .i64 x4_1)) h15) <| L_op (.plain rfl) rfl (ltb rfl) (X_move (v := v_a0) (K12 0 rfl)) <| L_op (.plain rfl) rfl (ltb rfl) (X_lenR Tryz.underlying28 rfl (Rd.ext f_a0 e13)) <| L_op (.plain rfl) rfl (ltb rfl) (X_lss rfl rfl) <| L_nil <| thn_n ?_
      rcases bif_two H with ⟨q18, H⟩ | ⟨q18, H⟩
      · refine W_true (congrArg Value.bool q18) <| W_skip <| thn_n <| W_seq <| W_block <| W_seq <| W_seq <| W_reg <| L_op (.plain rfl) rfl (ltb rfl) (X_move (v := (.int .i64 x4_1)) h15) <| L_op (.plain rfl) rfl (ltb rfl) (X_eql rfl rfl) <| L_nil <| thn_n ?_
        rcases bif_two H with ⟨q19, H⟩ | ⟨q19, H⟩
        · refine W_true (congrArg Value.bool q19) <| W_seq <| W_reg <| L_op (.plain rfl) rfl (ltb rfl) (X_move (v := (.int .i64 x4_1)) h15) <| L_op (.plain rfl) rfl (ltb rfl) (X_assign (v := (.int .i64 x4_1)) rfl) <| L_op (.plain rfl) rfl (ltb rfl) (X_assign (v := (.int .i64 6)) rfl) <| L_nil <| thn_n <| W_ret <| thn_r <| blk_r <| thn_r <| thn_r <| blk_r <| thn_r <| thn_r <| fin_r ?_
          obtain rfl := Option.some.inj H
          obtain rfl := Option.some.inj S17
          have H := C4
          obtain rfl := Option.some.inj H
          exact fin2 rfl rfl e13
        · refine W_false (congrArg Value.bool q19) <| W_skip <| thn_n <| W_seq <| W_seq <| W_reg <| L_op (.plain rfl) rfl (ltb rfl) (X_move (v := v_a0) (K12 0 rfl)) <| L_op (.plain rfl) rfl (ltb rfl) (X_move (v := (.int .i64 x4_1)) h15) ?_
          obtain ⟨c20, H⟩ := bif_some H
          refine L_idx (.plain rfl) rfl (ltb rfl) rfl Tryz.underlying28 Tryz.sizeOf78 rfl (Rd.ext f_a0 e13) rfl c20 <| fun p21 h22 => L_op (.plain rfl) rfl (ltb rfl) (X_loadS Tryz.isAgg78 Tryz.sizeOf78 rfl rfl h22) <| L_callP (.plain rfl) rfl (ltb rfl) rfl Tryz.call160 (spec_l02Fault.calls (w := w11) (a0 := gt a0 x4_1)) rfl <| fun w23 e24 => L_op (.plain rfl) rfl (ltb rfl) (X_assign (v := (.int .i64 (recFault (gt a0 x4_1)))) rfl) <| L_nil <| thn_n <| W_seq <| W_reg <| L_op (.plain rfl) rfl (ltb rfl) (X_move (v := (.int .i64 (recFault (gt a0 x4_1)))) rfl) <| L_op (.plain rfl) rfl (ltb rfl) (X_neq rfl rfl) <| L_nil <| thn_n ?_
          rcases bif_two H with ⟨q25, H⟩ | ⟨q25, H⟩
          · refine W_true (congrArg Value.bool q25) <| W_seq <| W_reg <| L_op (.plain rfl) rfl (ltb rfl) (X_move (v := (.int .i64 x4_1)) h15) <| L_op (.plain rfl) rfl (ltb rfl) (X_move (v := (.int .i64 (recFault (gt a0 x4_1)))) rfl) <| L_op (.plain rfl) rfl (ltb rfl) (X_assign (v := (.int .i64 x4_1)) rfl) <| L_op (.plain rfl) rfl (ltb rfl) (X_assign (v := (.int .i64 (recFault (gt a0 x4_1)))) rfl) <| L_nil <| thn_n <| W_ret <| thn_r <| blk_r <| thn_r <| thn_r <| blk_r <| thn_r <| thn_r <| fin_r ?_
            obtain rfl := Option.some.inj H
            obtain rfl := Option.some.inj S17
            have H := C4
            obtain rfl := Option.some.inj H
            exact fin2 rfl rfl (Ext.trans e13 e24)
          · refine W_false (congrArg Value.bool q25) <| W_skip <| thn_n <| W_seq <| W_seq ?_
            obtain ⟨c26, H⟩ := bif_some H
            obtain ⟨c29, H⟩ := bif_some H
            refine W_drawM [LEq (.int .i64 x4_1), LEq (.bool (decide (0 < x4_1))), LEq (.bool (decide (0 < x4_1))), LIf (decide (0 < x4_1)) (LEq v_a0), LIf (decide (0 < x4_1)) (LEq (.int .i64 x4_1)), LIf (decide (0 < x4_1)) (LAt0 (encRec (gt a0 x4_1))), LIf (decide (0 < x4_1)) (LAt 1 (encRec (gt a0 x4_1))), LIf (decide (0 < x4_1)) (LEq (S ((gt a0 x4_1).path))), LIf (decide (0 < x4_1)) (LEq v_a0), LIf (decide (0 < x4_1)) (LEq (.int .i64 x4_1)), LIf (decide (0 < x4_1)) (LEq (.int .i64 (IntKind.wrap .i64 (x4_1 - 1)))), LIf (decide (0 < x4_1)) (LAt0 (encRec (gt a0 (IntKind.wrap .i64 (x4_1 - 1))))), LIf (decide (0 < x4_1)) (LAt 1 (encRec (gt a0 (IntKind.wrap .i64 (x4_1 - 1))))), LIf (decide (0 < x4_1)) (LEq (S ((gt a0 (IntKind.wrap .i64 (x4_1 - 1))).path))), LIf (decide (0 < x4_1)) (LEq (.bool (decide (((gt a0 x4_1).path) = ((gt a0 (IntKind.wrap .i64 (x4_1 - 1))).path))))), LEq (.bool ((decide (0 < x4_1)) && (decide (((gt a0 x4_1).path) = ((gt a0 (IntKind.wrap .i64 (x4_1 - 1))).path)))))] (by kernel_rfl) (by kernel_rfl) ⟨LEq.mono, LEq.mono, LEq.mono, (LIf.mono LEq.mono), (LIf.mono LEq.mono), (LIf.mono LAt0.mono), (LIf.mono LAt.mono), (LIf.mono LEq.mono), (LIf.mono LEq.mono), (LIf.mono LEq.mono), (LIf.mono LEq.mono), (LIf.mono LAt0.mono), (LIf.mono LAt.mono), (LIf.mono LEq.mono), (LIf.mono LEq.mono), LEq.mono, trivial⟩ ⟨?_, ?_, ?_, ?_, ?_, ?_, ?_, ?_, ?_, ?_, ?_, ?_, ?_, ?_, ?_, ?_, trivial⟩ ?_
            · intro s32 w33 e34 hf35 hd36 hu37
              exact L_op (.plain rfl) rfl (ltb rfl) (X_move (v := (.int .i64 x4_1)) ((hf35 4 rfl).trans h15)) <| L_nil <| stepEnd rfl rfl (Ext.refl w33) rfl
            · intro s38 w39 e40 hf41 hd42 hu43
              have d44 : s38 26 = (.int .i64 x4_1) := (hd42 0 rfl)
              exact L_op (.plain rfl) rfl (ltb rfl) (X_gtr d44 rfl) <| L_nil <| stepEnd rfl rfl (Ext.refl w39) rfl
            · intro s45 w46 e47 hf48 hd49 hu50
              have d51 : s45 27 = (.bool (decide (0 < x4_1))) := (hd49 1 rfl)
              exact L_op (.plain rfl) rfl (ltb rfl) (X_move (v := (.bool (decide (0 < x4_1)))) d51) <| L_nil <| stepEnd rfl rfl (Ext.refl w46) rfl
            · intro s52 w53 e54 hf55 hd56 hu57
              rcases bool_two (decide (0 < x4_1)) with b58 | b58
              · have g59 : (decide (0 < x4_1)) = true := b58
                have d60 : s52 28 = (.bool (decide (0 < x4_1))) := (hd56 2 rfl)
                have d61 : s52 28 = (.bool (decide (0 < x4_1))) := (hd56 2 rfl)
                exact L_op (.guard 2 true 28 rfl rfl (ltb rfl) (d60.trans (congrArg Value.bool g59))) rfl (ltb rfl) (X_move (v := v_a0) ((hf55 0 rfl).trans (K12 0 rfl))) <| L_nil <| stepEnd rfl rfl (Ext.refl w53) ⟨fun _ => rfl, fun h => absurd (b58.symm.trans h) (by decide)⟩
              · have d62 : s52 28 = (.bool (decide (0 < x4_1))) := (hd56 2 rfl)
                have g63 : (decide (0 < x4_1)) = false := b58
                exact L_skip rfl rfl (ltb rfl) (d62.trans (congrArg Value.bool g63)) rfl rfl (ltb rfl) <| L_nil <| stepEnd rfl rfl (Ext.refl w53) ⟨fun h => absurd (b58.symm.trans h) (by decide), fun _ => rfl⟩
            · intro s64 w65 e66 hf67 hd68 hu69
              rcases bool_two (decide (0 < x4_1)) with b70 | b70
              · have g71 : (decide (0 < x4_1)) = true := b70
                have d72 : s64 28 = (.bool (decide (0 < x4_1))) := (hd68 2 rfl)
                have d73 : s64 28 = (.bool (decide (0 < x4_1))) := (hd68 2 rfl)
                exact L_op (.guard 2 true 28 rfl rfl (ltb rfl) (d72.trans (congrArg Value.bool g71))) rfl (ltb rfl) (X_move (v := (.int .i64 x4_1)) ((hf67 4 rfl).trans h15)) <| L_nil <| stepEnd rfl rfl (Ext.refl w65) ⟨fun _ => rfl, fun h => absurd (b70.symm.trans h) (by decide)⟩
              · have d74 : s64 28 = (.bool (decide (0 < x4_1))) := (hd68 2 rfl)
                have g75 : (decide (0 < x4_1)) = false := b70
                exact L_skip rfl rfl (ltb rfl) (d74.trans (congrArg Value.bool g75)) rfl rfl (ltb rfl) <| L_nil <| stepEnd rfl rfl (Ext.refl w65) ⟨fun h => absurd (b70.symm.trans h) (by decide), fun _ => rfl⟩
            · intro s76 w77 e78 hf79 hd80 hu81
              rcases bool_two (decide (0 < x4_1)) with b82 | b82
              · have g83 : (decide (0 < x4_1)) = true := b82
                have d84 : s76 28 = (.bool (decide (0 < x4_1))) := (hd80 2 rfl)
                have d85 : s76 28 = (.bool (decide (0 < x4_1))) := (hd80 2 rfl)
                have d86 : s76 29 = v_a0 := ((hd80 3 rfl).1 b82)
                have d87 : s76 30 = (.int .i64 x4_1) := ((hd80 4 rfl).1 b82)
                have c88 := imp_take b82 c26
                exact L_idx (.guard 2 true 28 rfl rfl (ltb rfl) (d84.trans (congrArg Value.bool g83))) rfl (ltb rfl) rfl Tryz.underlying28 Tryz.sizeOf78 d86 (Rd.ext f_a0 (Ext.trans (Ext.trans e13 e24) e78)) d87 c88 <| fun p89 h90 => L_nil <| stepEnd rfl rfl (Ext.refl w77) ⟨fun _ => ⟨_, rfl, h90⟩, fun h => absurd (b82.symm.trans h) (by decide)⟩
              · have d91 : s76 28 = (.bool (decide (0 < x4_1))) := (hd80 2 rfl)
                have g92 : (decide (0 < x4_1)) = false := b82
                exact L_skip rfl rfl (ltb rfl) (d91.trans (congrArg Value.bool g92)) rfl rfl (ltb rfl) <| L_nil <| stepEnd rfl rfl (Ext.refl w77) ⟨fun h => absurd (b82.symm.trans h) (by decide), fun _ => rfl⟩
            · intro s93 w94 e95 hf96 hd97 hu98
              rcases bool_two (decide (0 < x4_1)) with b99 | b99
              · have g100 : (decide (0 < x4_1)) = true := b99
                have d101 : s93 28 = (.bool (decide (0 < x4_1))) := (hd97 2 rfl)
                have d102 : s93 28 = (.bool (decide (0 < x4_1))) := (hd97 2 rfl)
                obtain ⟨p103, h104, h105⟩ := ((hd97 5 rfl).1 b99)
                exact L_op (.guard 2 true 28 rfl rfl (ltb rfl) (d101.trans (congrArg Value.bool g100))) rfl (ltb rfl) (X_fieldAddr Tryz.underlying78 rfl Tryz.sizeOf9 rfl h104) <| L_nil <| stepEnd rfl rfl (Ext.refl w94) ⟨fun _ => ⟨_, rfl, h105⟩, fun h => absurd (b99.symm.trans h) (by decide)⟩
              · have d106 : s93 28 = (.bool (decide (0 < x4_1))) := (hd97 2 rfl)
                have g107 : (decide (0 < x4_1)) = false := b99
                exact L_skip rfl rfl (ltb rfl) (d106.trans (congrArg Value.bool g107)) rfl rfl (ltb rfl) <| L_nil <| stepEnd rfl rfl (Ext.refl w94) ⟨fun h => absurd (b99.symm.trans h) (by decide), fun _ => rfl⟩
            · intro s108 w109 e110 hf111 hd112 hu113
              rcases bool_two (decide (0 < x4_1)) with b114 | b114
              · have g115 : (decide (0 < x4_1)) = true := b114
                have d116 : s108 28 = (.bool (decide (0 < x4_1))) := (hd112 2 rfl)
                have d117 : s108 28 = (.bool (decide (0 < x4_1))) := (hd112 2 rfl)
                obtain ⟨p118, h119, h120⟩ := ((hd112 6 rfl).1 b114)
                exact L_op (.guard 2 true 28 rfl rfl (ltb rfl) (d116.trans (congrArg Value.bool g115))) rfl (ltb rfl) (X_loadF Tryz.isAgg9 (j := 1) h120 h119 rfl) <| L_nil <| stepEnd rfl rfl (Ext.refl w109) ⟨fun _ => rfl, fun h => absurd (b114.symm.trans h) (by decide)⟩
              · have d121 : s108 28 = (.bool (decide (0 < x4_1))) := (hd112 2 rfl)
                have g122 : (decide (0 < x4_1)) = false := b114
                exact L_skip rfl rfl (ltb rfl) (d121.trans (congrArg Value.bool g122)) rfl rfl (ltb rfl) <| L_nil <| stepEnd rfl rfl (Ext.refl w109) ⟨fun h => absurd (b114.symm.trans h) (by decide), fun _ => rfl⟩
            · intro s123 w124 e125 hf126 hd127 hu128
              rcases bool_two (decide (0 < x4_1)) with b129 | b129
              · have g130 : (decide (0 < x4_1)) = true := b129
                have d131 : s123 28 = (.bool (decide (0 < x4_1))) := (hd127 2 rfl)
                have d132 : s123 28 = (.bool (decide (0 < x4_1))) := (hd127 2 rfl)
                exact L_op (.guard 2 true 28 rfl rfl (ltb rfl) (d131.trans (congrArg Value.bool g130))) rfl (ltb rfl) (X_move (v := v_a0) ((hf126 0 rfl).trans (K12 0 rfl))) <| L_nil <| stepEnd rfl rfl (Ext.refl w124) ⟨fun _ => rfl, fun h => absurd (b129.symm.trans h) (by decide)⟩
              · have d133 : s123 28 = (.bool (decide (0 < x4_1))) := (hd127 2 rfl)
                have g134 : (decide (0 < x4_1)) = false := b129
                exact L_skip rfl rfl (ltb rfl) (d133.trans (congrArg Value.bool g134)) rfl rfl (ltb rfl) <| L_nil <| stepEnd rfl rfl (Ext.refl w124) ⟨fun h => absurd (b129.symm.trans h) (by decide), fun _ => rfl⟩
            · intro s135 w136 e137 hf138 hd139 hu140
              rcases bool_two (decide (0 < x4_1)) with b141 | b141
              · have g142 : (decide (0 < x4_1)) = true := b141
                have d143 : s135 28 = (.bool (decide (0 < x4_1))) := (hd139 2 rfl)
                have d144 : s135 28 = (.bool (decide (0 < x4_1))) := (hd139 2 rfl)
                exact L_op (.guard 2 true 28 rfl rfl (ltb rfl) (d143.trans (congrArg Value.bool g142))) rfl (ltb rfl) (X_move (v := (.int .i64 x4_1)) ((hf138 4 rfl).trans h15)) <| L_nil <| stepEnd rfl rfl (Ext.refl w136) ⟨fun _ => rfl, fun h => absurd (b141.symm.trans h) (by decide)⟩
              · have d145 : s135 28 = (.bool (decide (0 < x4_1))) := (hd139 2 rfl)
                have g146 : (decide (0 < x4_1)) = false := b141
                exact L_skip rfl rfl (ltb rfl) (d145.trans (congrArg Value.bool g146)) rfl rfl (ltb rfl) <| L_nil <| stepEnd rfl rfl (Ext.refl w136) ⟨fun h => absurd (b141.symm.trans h) (by decide), fun _ => rfl⟩
            · intro s147 w148 e149 hf150 hd151 hu152
              rcases bool_two (decide (0 < x4_1)) with b153 | b153
              · have g154 : (decide (0 < x4_1)) = true := b153
                have d155 : s147 28 = (.bool (decide (0 < x4_1))) := (hd151 2 rfl)
                have d156 : s147 28 = (.bool (decide (0 < x4_1))) := (hd151 2 rfl)
                have d157 : s147 35 = (.int .i64 x4_1) := ((hd151 9 rfl).1 b153)
                exact L_op (.guard 2 true 28 rfl rfl (ltb rfl) (d155.trans (congrArg Value.bool g154))) rfl (ltb rfl) (X_sub d157 rfl) <| L_nil <| stepEnd rfl rfl (Ext.refl w148) ⟨fun _ => rfl, fun h => absurd (b153.symm.trans h) (by decide)⟩
              · have d158 : s147 28 = (.bool (decide (0 < x4_1))) := (hd151 2 rfl)
                have g159 : (decide (0 < x4_1)) = false := b153
                exact L_skip rfl rfl (ltb rfl) (d158.trans (congrArg Value.bool g159)) rfl rfl (ltb rfl) <| L_nil <| stepEnd rfl rfl (Ext.refl w148) ⟨fun h => absurd (b153.symm.trans h) (by decide), fun _ => rfl⟩
            · intro s160 w161 e162 hf163 hd164 hu165
              rcases bool_two (decide (0 < x4_1)) with b166 | b166
              · have g167 : (decide (0 < x4_1)) = true := b166
                have d168 : s160 28 = (.bool (decide (0 < x4_1))) := (hd164 2 rfl)
                have d169 : s160 28 = (.bool (decide (0 < x4_1))) := (hd164 2 rfl)
                have d170 : s160 34 = v_a0 := ((hd164 8 rfl).1 b166)
                have d171 : s160 36 = (.int .i64 (IntKind.wrap .i64 (x4_1 - 1))) := ((hd164 10 rfl).1 b166)
                have c172 := imp_take b166 c29
                exact L_idx (.guard 2 true 28 rfl rfl (ltb rfl) (d168.trans (congrArg Value.bool g167))) rfl (ltb rfl) rfl Tryz.underlying28 Tryz.sizeOf78 d170 (Rd.ext f_a0 (Ext.trans (Ext.trans e13 e24) e162)) d171 c172 <| fun p173 h174 => L_nil <| stepEnd rfl rfl (Ext.refl w161) ⟨fun _ => ⟨_, rfl, h174⟩, fun h => absurd (b166.symm.trans h) (by decide)⟩
              · have d175 : s160 28 = (.bool (decide (0 < x4_1))) := (hd164 2 rfl)
                have g176 : (decide (0 < x4_1)) = false := b166
                exact L_skip rfl rfl (ltb rfl) (d175.trans (congrArg Value.bool g176)) rfl rfl (ltb rfl) <| L_nil <| stepEnd rfl rfl (Ext.refl w161) ⟨fun h => absurd (b166.symm.trans h) (by decide), fun _ => rfl⟩
            · intro s177 w178 e179 hf180 hd181 hu182
              rcases bool_two (decide (0 < x4_1)) with b183 | b183
              · have g184 : (decide (0 < x4_1)) = true := b183
                have d185 : s177 28 = (.bool (decide (0 < x4_1))) := (hd181 2 rfl)
                have d186 : s177 28 = (.bool (decide (0 < x4_1))) := (hd181 2 rfl)
                obtain ⟨p187, h188, h189⟩ := ((hd181 11 rfl).1 b183)
                exact L_op (.guard 2 true 28 rfl rfl (ltb rfl) (d185.trans (congrArg Value.bool g184))) rfl (ltb rfl) (X_fieldAddr Tryz.underlying78 rfl Tryz.sizeOf9 rfl h188) <| L_nil <| stepEnd rfl rfl (Ext.refl w178) ⟨fun _ => ⟨_, rfl, h189⟩, fun h => absurd (b183.symm.trans h) (by decide)⟩
              · have d190 : s177 28 = (.bool (decide (0 < x4_1))) := (hd181 2 rfl)
                have g191 : (decide (0 < x4_1)) = false := b183
                exact L_skip rfl rfl (ltb rfl) (d190.trans (congrArg Value.bool g191)) rfl rfl (ltb rfl) <| L_nil <| stepEnd rfl rfl (Ext.refl w178) ⟨fun h => absurd (b183.symm.trans h) (by decide), fun _ => rfl⟩
            · intro s192 w193 e194 hf195 hd196 hu197
              rcases bool_two (decide (0 < x4_1)) with b198 | b198
              · have g199 : (decide (0 < x4_1)) = true := b198
                have d200 : s192 28 = (.bool (decide (0 < x4_1))) := (hd196 2 rfl)
                have d201 : s192 28 = (.bool (decide (0 < x4_1))) := (hd196 2 rfl)
                obtain ⟨p202, h203, h204⟩ := ((hd196 12 rfl).1 b198)
                exact L_op (.guard 2 true 28 rfl rfl (ltb rfl) (d200.trans (congrArg Value.bool g199))) rfl (ltb rfl) (X_loadF Tryz.isAgg9 (j := 1) h204 h203 rfl) <| L_nil <| stepEnd rfl rfl (Ext.refl w193) ⟨fun _ => rfl, fun h => absurd (b198.symm.trans h) (by decide)⟩
              · have d205 : s192 28 = (.bool (decide (0 < x4_1))) := (hd196 2 rfl)
                have g206 : (decide (0 < x4_1)) = false := b198
                exact L_skip rfl rfl (ltb rfl) (d205.trans (congrArg Value.bool g206)) rfl rfl (ltb rfl) <| L_nil <| stepEnd rfl rfl (Ext.refl w193) ⟨fun h => absurd (b198.symm.trans h) (by decide), fun _ => rfl⟩
            · intro s207 w208 e209 hf210 hd211 hu212
              rcases bool_two (decide (0 < x4_1)) with b213 | b213
              · have g214 : (decide (0 < x4_1)) = true := b213
                have d215 : s207 28 = (.bool (decide (0 < x4_1))) := (hd211 2 rfl)
                have d216 : s207 28 = (.bool (decide (0 < x4_1))) := (hd211 2 rfl)
                have d217 : s207 33 = (S ((gt a0 x4_1).path)) := ((hd211 7 rfl).1 b213)
                have d218 : s207 39 = (S ((gt a0 (IntKind.wrap .i64 (x4_1 - 1))).path)) := ((hd211 13 rfl).1 b213)
                exact L_op (.guard 2 true 28 rfl rfl (ltb rfl) (d215.trans (congrArg Value.bool g214))) rfl (ltb rfl) (X_seq d217 d218) <| L_nil <| stepEnd rfl rfl (Ext.refl w208) ⟨fun _ => rfl, fun h => absurd (b213.symm.trans h) (by decide)⟩
              · have d219 : s207 28 = (.bool (decide (0 < x4_1))) := (hd211 2 rfl)
                have g220 : (decide (0 < x4_1)) = false := b213
                exact L_skip rfl rfl (ltb rfl) (d219.trans (congrArg Value.bool g220)) rfl rfl (ltb rfl) <| L_nil <| stepEnd rfl rfl (Ext.refl w208) ⟨fun h => absurd (b213.symm.trans h) (by decide), fun _ => rfl⟩
            · intro s221 w222 e223 hf224 hd225 hu226
              rcases bool_two (decide (0 < x4_1)) with b227 | b227
              · have d228 : s221 28 = (.bool (decide (0 < x4_1))) := (hd225 2 rfl)
                have d229 : s221 40 = (.bool (decide (((gt a0 x4_1).path) = ((gt a0 (IntKind.wrap .i64 (x4_1 - 1))).path)))) := ((hd225 14 rfl).1 b227)
                exact L_op (.plain rfl) rfl (ltb rfl) (X_pick (b := true) (v := (.bool (decide (((gt a0 x4_1).path) = ((gt a0 (IntKind.wrap .i64 (x4_1 - 1))).path))))) (d228.trans (congrArg Value.bool b227)) d229) <| L_nil <| stepEnd rfl rfl (Ext.refl w222) (and_t b227)
              · have d230 : s221 28 = (.bool (decide (0 < x4_1))) := (hd225 2 rfl)
                exact L_op (.plain rfl) rfl (ltb rfl) (X_pick (b := false) (v := (.bool false)) (d230.trans (congrArg Value.bool b227)) rfl) <| L_nil <| stepEnd rfl rfl (Ext.refl w222) (and_f b227)
            intro s231 w232 e233 hf234 ha235
            have K236 := Kp.ofD (kp := [(26, 42)]) rfl hf234
            have d237 : s231 41 = (.bool ((decide (0 < x4_1)) && (decide (((gt a0 x4_1).path) = ((gt a0 (IntKind.wrap .i64 (x4_1 - 1))).path))))) := ha235 15 rfl
            clear ha235 hf234
            refine thn_n ?_
            rcases bif_two H with ⟨q238, H⟩ | ⟨q238, H⟩
            · refine W_true (d237.trans (congrArg Value.bool q238)) <| W_seq <| W_reg <| L_op (.plain rfl) rfl (ltb rfl) (X_move (v := (.int .i64 x4_1)) ((K236 4 rfl).trans h15)) <| L_op (.plain rfl) rfl (ltb rfl) (X_assign (v := (.int .i64 x4_1)) rfl) <| L_op (.plain rfl) rfl (ltb rfl) (X_assign (v := (.int .i64 18)) rfl) <| L_nil <| thn_n <| W_ret <| thn_r <| blk_r <| thn_r <| thn_r <| blk_r <| thn_r <| thn_r <| fin_r ?_
              obtain rfl := Option.some.inj H
              obtain rfl := Option.some.inj S17
              have H := C4
              obtain rfl := Option.some.inj H
              exact fin2 rfl rfl (Ext.trans (Ext.trans e13 e24) e233)
            · refine W_false (d237.trans (congrArg Value.bool q238)) <| W_skip <| thn_n <| W_seq <| W_seq ?_
              obtain ⟨c239, H⟩ := bif_some H
              obtain ⟨c242, H⟩ := bif_some H
              obtain ⟨c245, H⟩ := bif_some H
              obtain ⟨c246, H⟩ := bif_some H
              refine W_drawM [LEq (.int .i64 x4_1), LEq (.bool (decide (0 < x4_1))), LEq (.bool (decide (0 < x4_1))), LIf (decide (0 < x4_1)) (LEq v_a0), LIf (decide (0 < x4_1)) (LEq (.int .i64 x4_1)), LIf (decide (0 < x4_1)) (LEq (.int .i64 (IntKind.wrap .i64 (x4_1 - 1)))), LIf (decide (0 < x4_1)) (LAt0 (encRec (gt a0 (IntKind.wrap .i64 (x4_1 - 1))))), LIf (decide (0 < x4_1)) (LAt 1 (encRec (gt a0 (IntKind.wrap .i64 (x4_1 - 1))))), LIf (decide (0 < x4_1)) (LEq (S ((gt a0 (IntKind.wrap .i64 (x4_1 - 1))).path))), LIf (decide (0 < x4_1)) (LEq v_a0), LIf (decide (0 < x4_1)) (LEq (.int .i64 x4_1)), LIf (decide (0 < x4_1)) (LAt0 (encRec (gt a0 x4_1))), LIf (decide (0 < x4_1)) (LAt 1 (encRec (gt a0 x4_1))), LIf (decide (0 < x4_1)) (LEq (S ((gt a0 x4_1).path))), LIf (decide (0 < x4_1)) (LEq (.bool (spec_l03Fault.e1 a0 x4_1))), LIf (decide (0 < x4_1)) (LEq (.bool (!(spec_l03Fault.e1 a0 x4_1)))), LEq (.bool ((decide (0 < x4_1)) && (!(spec_l03Fault.e1 a0 x4_1))))] (by kernel_rfl) (by kernel_rfl) ⟨LEq.mono, LEq.mono, LEq.mono, (LIf.mono LEq.mono), (LIf.mono LEq.mono), (LIf.mono LEq.mono), (LIf.mono LAt0.mono), (LIf.mono LAt.mono), (LIf.mono LEq.mono), (LIf.mono LEq.mono), (LIf.mono LEq.mono), (LIf.mono LAt0.mono), (LIf.mono LAt.mono), (LIf.mono LEq.mono), (LIf.mono LEq.mono), (LIf.mono LEq.mono), LEq.mono, trivial⟩ ⟨?_, ?_, ?_, ?_, ?_, ?_, ?_, ?_, ?_, ?_, ?_, ?_, ?_, ?_, ?_, ?_, ?_, trivial⟩ ?_
              · intro s249 w250 e251 hf252 hd253 hu254
                exact L_op (.plain rfl) rfl (ltb rfl) (X_move (v := (.int .i64 x4_1)) ((hf252 4 rfl).trans ((K236 4 rfl).trans h15))) <| L_nil <| stepEnd rfl rfl (Ext.refl w250) rfl
              · intro s255 w256 e257 hf258 hd259 hu260
                have d261 : s255 43 = (.int .i64 x4_1) := (hd259 0 rfl)
                exact L_op (.plain rfl) rfl (ltb rfl) (X_gtr d261 rfl) <| L_nil <| stepEnd rfl rfl (Ext.refl w256) rfl
              · intro s262 w263 e264 hf265 hd266 hu267
                have d268 : s262 44 = (.bool (decide (0 < x4_1))) := (hd266 1 rfl)
                exact L_op (.plain rfl) rfl (ltb rfl) (X_move (v := (.bool (decide (0 < x4_1)))) d268) <| L_nil <| stepEnd rfl rfl (Ext.refl w263) rfl
              · intro s269 w270 e271 hf272 hd273 hu274
                rcases bool_two (decide (0 < x4_1)) with b275 | b275
                · have g276 : (decide (0 < x4_1)) = true := b275
                  have d277 : s269 45 = (.bool (decide (0 < x4_1))) := (hd273 2 rfl)
                  have d278 : s269 45 = (.bool (decide (0 < x4_1))) := (hd273 2 rfl)
                  exact L_op (.guard 2 true 45 rfl rfl (ltb rfl) (d277.trans (congrArg Value.bool g276))) rfl (ltb rfl) (X_move (v := v_a0) ((hf272 0 rfl).trans ((K236 0 rfl).trans (K12 0 rfl)))) <| L_nil <| stepEnd rfl rfl (Ext.refl w270) ⟨fun _ => rfl, fun h => absurd (b275.symm.trans h) (by decide)⟩
                · have d279 : s269 45 = (.bool (decide (0 < x4_1))) := (hd273 2 rfl)
                  have g280 : (decide (0 < x4_1)) = false := b275
                  exact L_skip rfl rfl (ltb rfl) (d279.trans (congrArg Value.bool g280)) rfl rfl (ltb rfl) <| L_nil <| stepEnd rfl rfl (Ext.refl w270) ⟨fun h => absurd (b275.symm.trans h) (by decide), fun _ => rfl⟩
              · intro s281 w282 e283 hf284 hd285 hu286
                rcases bool_two (decide (0 < x4_1)) with b287 | b287
                · have g288 : (decide (0 < x4_1)) = true := b287
                  have d289 : s281 45 = (.bool (decide (0 < x4_1))) := (hd285 2 rfl)
                  have d290 : s281 45 = (.bool (decide (0 < x4_1))) := (hd285 2 rfl)
                  exact L_op (.guard 2 true 45 rfl rfl (ltb rfl) (d289.trans (congrArg Value.bool g288))) rfl (ltb rfl) (X_move (v := (.int .i64 x4_1)) ((hf284 4 rfl).trans ((K236 4 rfl).trans h15))) <| L_nil <| stepEnd rfl rfl (Ext.refl w282) ⟨fun _ => rfl, fun h => absurd (b287.symm.trans h) (by decide)⟩
                · have d291 : s281 45 = (.bool (decide (0 < x4_1))) := (hd285 2 rfl)
                  have g292 : (decide (0 < x4_1)) = false := b287
                  exact L_skip rfl rfl (ltb rfl) (d291.trans (congrArg Value.bool g292)) rfl rfl (ltb rfl) <| L_nil <| stepEnd rfl rfl (Ext.refl w282) ⟨fun h => absurd (b287.symm.trans h) (by decide), fun _ => rfl⟩
              · intro s293 w294 e295 hf296 hd297 hu298
                rcases bool_two (decide (0 < x4_1)) with b299 | b299
                · have g300 : (decide (0 < x4_1)) = true := b299
                  have d301 : s293 45 = (.bool (decide (0 < x4_1))) := (hd297 2 rfl)
                  have d302 : s293 45 = (.bool (decide (0 < x4_1))) := (hd297 2 rfl)
                  have d303 : s293 47 = (.int .i64 x4_1) := ((hd297 4 rfl).1 b299)
                  exact L_op (.guard 2 true 45 rfl rfl (ltb rfl) (d301.trans (congrArg Value.bool g300))) rfl (ltb rfl) (X_sub d303 rfl) <| L_nil <| stepEnd rfl rfl (Ext.refl w294) ⟨fun _ => rfl, fun h => absurd (b299.symm.trans h) (by decide)⟩
                · have d304 : s293 45 = (.bool (decide (0 < x4_1))) := (hd297 2 rfl)
                  have g305 : (decide (0 < x4_1)) = false := b299
                  exact L_skip rfl rfl (ltb rfl) (d304.trans (congrArg Value.bool g305)) rfl rfl (ltb rfl) <| L_nil <| stepEnd rfl rfl (Ext.refl w294) ⟨fun h => absurd (b299.symm.trans h) (by decide), fun _ => rfl⟩
              · intro s306 w307 e308 hf309 hd310 hu311
                rcases bool_two (decide (0 < x4_1)) with b312 | b312
                · have g313 : (decide (0 < x4_1)) = true := b312
                  have d314 : s306 45 = (.bool (decide (0 < x4_1))) := (hd310 2 rfl)
                  have d315 : s306 45 = (.bool (decide (0 < x4_1))) := (hd310 2 rfl)
                  have d316 : s306 46 = v_a0 := ((hd310 3 rfl).1 b312)
                  have d317 : s306 48 = (.int .i64 (IntKind.wrap .i64 (x4_1 - 1))) := ((hd310 5 rfl).1 b312)
                  have c318 := imp_take b312 c239
                  exact L_idx (.guard 2 true 45 rfl rfl (ltb rfl) (d314.trans (congrArg Value.bool g313))) rfl (ltb rfl) rfl Tryz.underlying28 Tryz.sizeOf78 d316 (Rd.ext f_a0 (Ext.trans (Ext.trans (Ext.trans e13 e24) e233) e308)) d317 c318 <| fun p319 h320 => L_nil <| stepEnd rfl rfl (Ext.refl w307) ⟨fun _ => ⟨_, rfl, h320⟩, fun h => absurd (b312.symm.trans h) (by decide)⟩
                · have d321 : s306 45 = (.bool (decide (0 < x4_1))) := (hd310 2 rfl)
                  have g322 : (decide (0 < x4_1)) = false := b312
                  exact L_skip rfl rfl (ltb rfl) (d321.trans (congrArg Value.bool g322)) rfl rfl (ltb rfl) <| L_nil <| stepEnd rfl rfl (Ext.refl w307) ⟨fun h => absurd (b312.symm.trans h) (by decide), fun _ => rfl⟩
              · intro s323 w324 e325 hf326 hd327 hu328
                rcases bool_two (decide (0 < x4_1)) with b329 | b329
                · have g330 : (decide (0 < x4_1)) = true := b329
                  have d331 : s323 45 = (.bool (decide (0 < x4_1))) := (hd327 2 rfl)
                  have d332 : s323 45 = (.bool (decide (0 < x4_1))) := (hd327 2 rfl)
                  obtain ⟨p333, h334, h335⟩ := ((hd327 6 rfl).1 b329)
                  exact L_op (.guard 2 true 45 rfl rfl (ltb rfl) (d331.trans (congrArg Value.bool g330))) rfl (ltb rfl) (X_fieldAddr Tryz.underlying78 rfl Tryz.sizeOf9 rfl h334) <| L_nil <| stepEnd rfl rfl (Ext.refl w324) ⟨fun _ => ⟨_, rfl, h335⟩, fun h => absurd (b329.symm.trans h) (by decide)⟩
                · have d336 : s323 45 = (.bool (decide (0 < x4_1))) := (hd327 2 rfl)
                  have g337 : (decide (0 < x4_1)) = false := b329
                  exact L_skip rfl rfl (ltb rfl) (d336.trans (congrArg Value.bool g337)) rfl rfl (ltb rfl) <| L_nil <| stepEnd rfl rfl (Ext.refl w324) ⟨fun h => absurd (b329.symm.trans h) (by decide), fun _ => rfl⟩
              · intro s338 w339 e340 hf341 hd342 hu343
                rcases bool_two (decide (0 < x4_1)) with b344 | b344
                · have g345 : (decide (0 < x4_1)) = true := b344
                  have d346 : s338 45 = (.bool (decide (0 < x4_1))) := (hd342 2 rfl)
                  have d347 : s338 45 = (.bool (decide (0 < x4_1))) := (hd342 2 rfl)
                  obtain ⟨p348, h349, h350⟩ := ((hd342 7 rfl).1 b344)
                  exact L_op (.guard 2 true 45 rfl rfl (ltb rfl) (d346.trans (congrArg Value.bool g345))) rfl (ltb rfl) (X_loadF Tryz.isAgg9 (j := 1) h350 h349 rfl) <| L_nil <| stepEnd rfl rfl (Ext.refl w339) ⟨fun _ => rfl, fun h => absurd (b344.symm.trans h) (by decide)⟩
                · have d351 : s338 45 = (.bool (decide (0 < x4_1))) := (hd342 2 rfl)
                  have g352 : (decide (0 < x4_1)) = false := b344
                  exact L_skip rfl rfl (ltb rfl) (d351.trans (congrArg Value.bool g352)) rfl rfl (ltb rfl) <| L_nil <| stepEnd rfl rfl (Ext.refl w339) ⟨fun h => absurd (b344.symm.trans h) (by decide), fun _ => rfl⟩
              · intro s353 w354 e355 hf356 hd357 hu358
                rcases bool_two (decide (0 < x4_1)) with b359 | b359
                · have g360 : (decide (0 < x4_1)) = true := b359
                  have d361 : s353 45 = (.bool (decide (0 < x4_1))) := (hd357 2 rfl)
                  have d362 : s353 45 = (.bool (decide (0 < x4_1))) := (hd357 2 rfl)
                  exact L_op (.guard 2 true 45 rfl rfl (ltb rfl) (d361.trans (congrArg Value.bool g360))) rfl (ltb rfl) (X_move (v := v_a0) ((hf356 0 rfl).trans ((K236 0 rfl).trans (K12 0 rfl)))) <| L_nil <| stepEnd rfl rfl (Ext.refl w354) ⟨fun _ => rfl, fun h => absurd (b359.symm.trans h) (by decide)⟩
                · have d363 : s353 45 = (.bool (decide (0 < x4_1))) := (hd357 2 rfl)
                  have g364 : (decide (0 < x4_1)) = false := b359
                  exact L_skip rfl rfl (ltb rfl) (d363.trans (congrArg Value.bool g364)) rfl rfl (ltb rfl) <| L_nil <| stepEnd rfl rfl (Ext.refl w354) ⟨fun h => absurd (b359.symm.trans h) (by decide), fun _ => rfl⟩
              · intro s365 w366 e367 hf368 hd369 hu370
                rcases bool_two (decide (0 < x4_1)) with b371 | b371
                · have g372 : (decide (0 < x4_1)) = true := b371
                  have d373 : s365 45 = (.bool (decide (0 < x4_1))) := (hd369 2 rfl)
                  have d374 : s365 45 = (.bool (decide (0 < x4_1))) := (hd369 2 rfl)
                  exact L_op (.guard 2 true 45 rfl rfl (ltb rfl) (d373.trans (congrArg Value.bool g372))) rfl (ltb rfl) (X_move (v := (.int .i64 x4_1)) ((hf368 4 rfl).trans ((K236 4 rfl).trans h15))) <| L_nil <| stepEnd rfl rfl (Ext.refl w366) ⟨fun _ => rfl, fun h => absurd (b371.symm.trans h) (by decide)⟩
                · have d375 : s365 45 = (.bool (decide (0 < x4_1))) := (hd369 2 rfl)
                  have g376 : (decide (0 < x4_1)) = false := b371
                  exact L_skip rfl rfl (ltb rfl) (d375.trans (congrArg Value.bool g376)) rfl rfl (ltb rfl) <| L_nil <| stepEnd rfl rfl (Ext.refl w366) ⟨fun h => absurd (b371.symm.trans h) (by decide), fun _ => rfl⟩
              · intro s377 w378 e379 hf380 hd381 hu382
                rcases bool_two (decide (0 < x4_1)) with b383 | b383
                · have g384 : (decide (0 < x4_1)) = true := b383
                  have d385 : s377 45 = (.bool (decide (0 < x4_1))) := (hd381 2 rfl)
                  have d386 : s377 45 = (.bool (decide (0 < x4_1))) := (hd381 2 rfl)
                  have d387 : s377 52 = v_a0 := ((hd381 9 rfl).1 b383)
                  have d388 : s377 53 = (.int .i64 x4_1) := ((hd381 10 rfl).1 b383)
                  have c389 := imp_take b383 c242
                  exact L_idx (.guard 2 true 45 rfl rfl (ltb rfl) (d385.trans (congrArg Value.bool g384))) rfl (ltb rfl) rfl Tryz.underlying28 Tryz.sizeOf78 d387 (Rd.ext f_a0 (Ext.trans (Ext.trans (Ext.trans e13 e24) e233) e379)) d388 c389 <| fun p390 h391 => L_nil <| stepEnd rfl rfl (Ext.refl w378) ⟨fun _ => ⟨_, rfl, h391⟩, fun h => absurd (b383.symm.trans h) (by decide)⟩
                · have d392 : s377 45 = (.bool (decide (0 < x4_1))) := (hd381 2 rfl)
                  have g393 : (decide (0 < x4_1)) = false := b383
                  exact L_skip rfl rfl (ltb rfl) (d392.trans (congrArg Value.bool g393)) rfl rfl (ltb rfl) <| L_nil <| stepEnd rfl rfl (Ext.refl w378) ⟨fun h => absurd (b383.symm.trans h) (by decide), fun _ => rfl⟩
              · intro s394 w395 e396 hf397 hd398 hu399
                rcases bool_two (decide (0 < x4_1)) with b400 | b400
                · have g401 : (decide (0 < x4_1)) = true := b400
                  have d402 : s394 45 = (.bool (decide (0 < x4_1))) := (hd398 2 rfl)
                  have d403 : s394 45 = (.bool (decide (0 < x4_1))) := (hd398 2 rfl)
                  obtain ⟨p404, h405, h406⟩ := ((hd398 11 rfl).1 b400)
                  exact L_op (.guard 2 true 45 rfl rfl (ltb rfl) (d402.trans (congrArg Value.bool g401))) rfl (ltb rfl) (X_fieldAddr Tryz.underlying78 rfl Tryz.sizeOf9 rfl h405) <| L_nil <| stepEnd rfl rfl (Ext.refl w395) ⟨fun _ => ⟨_, rfl, h406⟩, fun h => absurd (b400.symm.trans h) (by decide)⟩
                · have d407 : s394 45 = (.bool (decide (0 < x4_1))) := (hd398 2 rfl)
                  have g408 : (decide (0 < x4_1)) = false := b400
                  exact L_skip rfl rfl (ltb rfl) (d407.trans (congrArg Value.bool g408)) rfl rfl (ltb rfl) <| L_nil <| stepEnd rfl rfl (Ext.refl w395) ⟨fun h => absurd (b400.symm.trans h) (by decide), fun _ => rfl⟩
              · intro s409 w410 e411 hf412 hd413 hu414
                rcases bool_two (decide (0 < x4_1)) with b415 | b415
                · have g416 : (decide (0 < x4_1)) = true := b415
                  have d417 : s409 45 = (.bool (decide (0 < x4_1))) := (hd413 2 rfl)
                  have d418 : s409 45 = (.bool (decide (0 < x4_1))) := (hd413 2 rfl)
                  obtain ⟨p419, h420, h421⟩ := ((hd413 12 rfl).1 b415)
                  exact L_op (.guard 2 true 45 rfl rfl (ltb rfl) (d417.trans (congrArg Value.bool g416))) rfl (ltb rfl) (X_loadF Tryz.isAgg9 (j := 1) h421 h420 rfl) <| L_nil <| stepEnd rfl rfl (Ext.refl w410) ⟨fun _ => rfl, fun h => absurd (b415.symm.trans h) (by decide)⟩
                · have d422 : s409 45 = (.bool (decide (0 < x4_1))) := (hd413 2 rfl)
                  have g423 : (decide (0 < x4_1)) = false := b415
                  exact L_skip rfl rfl (ltb rfl) (d422.trans (congrArg Value.bool g423)) rfl rfl (ltb rfl) <| L_nil <| stepEnd rfl rfl (Ext.refl w410) ⟨fun h => absurd (b415.symm.trans h) (by decide), fun _ => rfl⟩
              · intro s424 w425 e426 hf427 hd428 hu429
                rcases bool_two (decide (0 < x4_1)) with b430 | b430
                · have g431 : (decide (0 < x4_1)) = true := b430
                  have d432 : s424 45 = (.bool (decide (0 < x4_1))) := (hd428 2 rfl)
                  have d433 : s424 45 = (.bool (decide (0 < x4_1))) := (hd428 2 rfl)
                  have d434 : s424 51 = (S ((gt a0 (IntKind.wrap .i64 (x4_1 - 1))).path)) := ((hd428 8 rfl).1 b430)
                  have d435 : s424 56 = (S ((gt a0 x4_1).path)) := ((hd428 13 rfl).1 b430)
                  have c436 := imp_take b430 c245
                  have c437 := imp_take b430 c246
                  exact L_callP (.guard 2 true 45 rfl rfl (ltb rfl) (d432.trans (congrArg Value.bool g431))) rfl (ltb rfl) rfl Tryz.call112 (spec_l01Less.calls (w := w425) (a0 := (gt a0 (IntKind.wrap .i64 (x4_1 - 1))).path) (a1 := (gt a0 x4_1).path) (of_decide_eq_true c436) (of_decide_eq_true c437)) (cons2 d434 (cons2 d435 rfl)) <| fun w438 e439 => L_nil <| stepEnd rfl rfl e439 ⟨fun _ => rfl, fun h => absurd (b430.symm.trans h) (by decide)⟩
                · have d440 : s424 45 = (.bool (decide (0 < x4_1))) := (hd428 2 rfl)
                  have g441 : (decide (0 < x4_1)) = false := b430
                  exact L_skip rfl rfl (ltb rfl) (d440.trans (congrArg Value.bool g441)) rfl rfl (ltb rfl) <| L_nil <| stepEnd rfl rfl (Ext.refl w425) ⟨fun h => absurd (b430.symm.trans h) (by decide), fun _ => rfl⟩
              · intro s442 w443 e444 hf445 hd446 hu447
                rcases bool_two (decide (0 < x4_1)) with b448 | b448
                · have g449 : (decide (0 < x4_1)) = true := b448
                  have d450 : s442 45 = (.bool (decide (0 < x4_1))) := (hd446 2 rfl)
                  have d451 : s442 45 = (.bool (decide (0 < x4_1))) := (hd446 2 rfl)
                  have d452 : s442 57 = (.bool (spec_l03Fault.e1 a0 x4_1)) := ((hd446 14 rfl).1 b448)
                  exact L_op (.guard 2 true 45 rfl rfl (ltb rfl) (d450.trans (congrArg Value.bool g449))) rfl (ltb rfl) (X_not d452) <| L_nil <| stepEnd rfl rfl (Ext.refl w443) ⟨fun _ => rfl, fun h => absurd (b448.symm.trans h) (by decide)⟩
                · have d453 : s442 45 = (.bool (decide (0 < x4_1))) := (hd446 2 rfl)
                  have g454 : (decide (0 < x4_1)) = false := b448
                  exact L_skip rfl rfl (ltb rfl) (d453.trans (congrArg Value.bool g454)) rfl rfl (ltb rfl) <| L_nil <| stepEnd rfl rfl (Ext.refl w443) ⟨fun h => absurd (b448.symm.trans h) (by decide), fun _ => rfl⟩
              · intro s455 w456 e457 hf458 hd459 hu460
                rcases bool_two (decide (0 < x4_1)) with b461 | b461
                · have d462 : s455 45 = (.bool (decide (0 < x4_1))) := (hd459 2 rfl)
                  have d463 : s455 58 = (.bool (!(spec_l03Fault.e1 a0 x4_1))) := ((hd459 15 rfl).1 b461)
                  exact L_op (.plain rfl) rfl (ltb rfl) (X_pick (b := true) (v := (.bool (!(spec_l03Fault.e1 a0 x4_1)))) (d462.trans (congrArg Value.bool b461)) d463) <| L_nil <| stepEnd rfl rfl (Ext.refl w456) (and_t b461)
                · have d464 : s455 45 = (.bool (decide (0 < x4_1))) := (hd459 2 rfl)
                  exact L_op (.plain rfl) rfl (ltb rfl) (X_pick (b := false) (v := (.bool false)) (d464.trans (congrArg Value.bool b461)) rfl) <| L_nil <| stepEnd rfl rfl (Ext.refl w456) (and_f b461)
              intro s465 w466 e467 hf468 ha469
              have K470 := Kp.ofD (kp := [(43, 60)]) rfl hf468
              have d471 : s465 59 = (.bool ((decide (0 < x4_1)) && (!(spec_l03Fault.e1 a0 x4_1)))) := ha469 16 rfl
              clear ha469 hf468
              refine thn_n ?_
              rcases bif_two H with ⟨q472, H⟩ | ⟨q472, H⟩
              · refine W_true (d471.trans (congrArg Value.bool q472)) <| W_seq <| W_reg <| L_op (.plain rfl) rfl (ltb rfl) (X_move (v := (.int .i64 x4_1)) ((K470 4 rfl).trans ((K236 4 rfl).trans h15))) <| L_op (.plain rfl) rfl (ltb rfl) (X_assign (v := (.int .i64 x4_1)) rfl) <| L_op (.plain rfl) rfl (ltb rfl) (X_assign (v := (.int .i64 11)) rfl) <| L_nil <| thn_n <| W_ret <| thn_r <| blk_r <| thn_r <| thn_r <| blk_r <| thn_r <| thn_r <| fin_r ?_
                obtain rfl := Option.some.inj H
                obtain rfl := Option.some.inj S17
                have H := C4
                obtain rfl := Option.some.inj H
                exact fin2 rfl rfl (Ext.trans (Ext.trans (Ext.trans e13 e24) e233) e467)
              · refine W_false (d471.trans (congrArg Value.bool q472)) <| W_skip <| thn_n <| W_seq <| W_reg <| L_op (.plain rfl) rfl (ltb rfl) (X_move (v := v_a0) ((K470 0 rfl).trans ((K236 0 rfl).trans (K12 0 rfl)))) <| L_op (.plain rfl) rfl (ltb rfl) (X_move (v := (.int .i64 x4_1)) ((K470 4 rfl).trans ((K236 4 rfl).trans h15))) ?_
                obtain ⟨c473, H⟩ := bif_some H
                refine L_idx (.plain rfl) rfl (ltb rfl) rfl Tryz.underlying28 Tryz.sizeOf78 rfl (Rd.ext f_a0 (Ext.trans (Ext.trans (Ext.trans e13 e24) e233) e467)) rfl c473 <| fun p474 h475 => L_op (.plain rfl) rfl (ltb rfl) (X_fieldAddr Tryz.underlying78 rfl Tryz.sizeOf9 rfl rfl) <| L_op (.plain rfl) rfl (ltb rfl) (X_loadF Tryz.isAgg9 (j := 1) h475 rfl rfl) ?_
                obtain ⟨c476, H⟩ := bif_some H
                refine L_callP (.plain rfl) rfl (ltb rfl) rfl Tryz.call113 (spec_l01Parent.calls (w := w466) (a0 := (gt a0 x4_1).path) (of_decide_eq_true c476)) rfl <| fun w477 e478 => L_op (.plain rfl) rfl (ltb rfl) (X_assign (v := (S (parentP ((gt a0 x4_1).path)))) rfl) <| L_nil <| thn_n <| W_seq <| W_seq <| W_reg <| L_op (.plain rfl) rfl (ltb rfl) (X_move (v := (S (parentP ((gt a0 x4_1).path)))) rfl) <| L_op (.plain rfl) rfl (ltb rfl) (X_seq rfl rfl) <| L_nil <| thn_n ?_
                rcases bif_two H with ⟨q479, H⟩ | ⟨q479, H⟩
                · refine W_true (congrArg Value.bool q479) <| W_exit <| thn_x <| blk_x <| thn_n <| W_reg <| L_op (.plain rfl) rfl (ltb rfl) (X_move (v := (.int .i64 x4_1)) ((K470 4 rfl).trans ((K236 4 rfl).trans h15))) <| L_op (.plain rfl) rfl (ltb rfl) (X_add rfl rfl) <| L_op (.plain rfl) rfl (ltb rfl) (X_assign (v := (.int .i64 (IntKind.wrap .i64 (x4_1 + 1)))) rfl) <| L_nil <| thn_n ?_
                  obtain rfl := Option.some.inj H
                  exact ⟨_, Nat.lt_succ_self _, IntKind.wrap .i64 (x4_1 + 1), (Kp.upd (Kp.upd (Kp.upd (Kp.upd (Kp.upd (Kp.upd (Kp.upd (Kp.upd (Kp.upd (Kp.upd (Kp.upd (Kp.upd (Kp.cut (Kp.cut (Kp.upd (Kp.upd (Kp.upd (Kp.upd (Kp.upd (Kp.upd (Kp.upd (Kp.upd (Kp.upd (Kp.upd (Kp.upd (Kp.upd (Kp.upd (Kp.upd K12 rfl) rfl) rfl) rfl) rfl) rfl) rfl) rfl) rfl) rfl) rfl) rfl) rfl) rfl) K236 rfl) K470 rfl) rfl) rfl) rfl) rfl) rfl) rfl) rfl) rfl) rfl) rfl) rfl) rfl), rfl, (Ext.trans (Ext.trans (Ext.trans (Ext.trans e13 e24) e233) e467) e478), S17⟩
                · refine W_false (congrArg Value.bool q479) <| W_skip <| thn_n <| W_seq <| W_reg <| L_op (.plain rfl) rfl (ltb rfl) (X_move (v := v_a0) ((K470 0 rfl).trans ((K236 0 rfl).trans (K12 0 rfl)))) <| L_op (.plain rfl) rfl (ltb rfl) (X_move (v := (.int .i64 x4_1)) ((K470 4 rfl).trans ((K236 4 rfl).trans h15))) ?_
                  obtain ⟨c480, H⟩ := bif_some H
                  refine L_sub (.plain rfl) rfl (ltb rfl) rfl Tryz.underlying28 Tryz.sizeOf78 rfl (Rd.ext f_a0 (Ext.trans (Ext.trans (Ext.trans (Ext.trans e13 e24) e233) e467) e478)) (l := 0) (h := x4_1) rfl ⟨_, rfl⟩ c480 <| fun v481 h482 => L_op (.plain rfl) rfl (ltb rfl) (X_move (v := (S (parentP ((gt a0 x4_1).path)))) rfl) ?_
                  obtain ⟨c483, H⟩ := bif_some H
                  refine L_callP (.plain rfl) rfl (ltb rfl) rfl Tryz.call137 (spec_l03At.calls (w := w477) (a0 := sub a0 0 x4_1) (a1 := (parentP ((gt a0 x4_1).path))) h482 (of_decide_eq_true c483)) rfl <| fun w484 e485 => L_op (.plain rfl) rfl (ltb rfl) (X_assign (v := (.int .i64 (findR (sub a0 0 x4_1) (parentP ((gt a0 x4_1).path))))) rfl) <| L_nil <| thn_n <| W_seq <| W_seq <| W_reg <| L_op (.plain rfl) rfl (ltb rfl) (X_move (v := (.int .i64 (findR (sub a0 0 x4_1) (parentP ((gt a0 x4_1).path))))) rfl) <| L_op (.plain rfl) rfl (ltb rfl) (X_lss rfl rfl) <| L_nil <| thn_n ?_
                  rcases bif_two H with ⟨q486, H⟩ | ⟨q486, H⟩
                  · refine W_true (congrArg Value.bool q486) <| W_seq <| W_reg <| L_op (.plain rfl) rfl (ltb rfl) (X_move (v := (.int .i64 x4_1)) ((K470 4 rfl).trans ((K236 4 rfl).trans h15))) <| L_op (.plain rfl) rfl (ltb rfl) (X_assign (v := (.int .i64 x4_1)) rfl) <| L_op (.plain rfl) rfl (ltb rfl) (X_assign (v := (.int .i64 12)) rfl) <| L_nil <| thn_n <| W_ret <| thn_r <| blk_r <| thn_r <| thn_r <| blk_r <| thn_r <| thn_r <| fin_r ?_
                    obtain rfl := Option.some.inj H
                    obtain rfl := Option.some.inj S17
                    have H := C4
                    obtain rfl := Option.some.inj H
                    exact fin2 rfl rfl (Ext.trans (Ext.trans (Ext.trans (Ext.trans (Ext.trans e13 e24) e233) e467) e478) e485)
                  · refine W_false (congrArg Value.bool q486) <| W_skip <| thn_n <| W_seq <| W_reg <| L_op (.plain rfl) rfl (ltb rfl) (X_move (v := v_a0) ((K470 0 rfl).trans ((K236 0 rfl).trans (K12 0 rfl)))) <| L_op (.plain rfl) rfl (ltb rfl) (X_move (v := (.int .i64 (findR (sub a0 0 x4_1) (parentP ((gt a0 x4_1).path))))) rfl) ?_
                    obtain ⟨c487, H⟩ := bif_some H
                    refine L_idx (.plain rfl) rfl (ltb rfl) rfl Tryz.underlying28 Tryz.sizeOf78 rfl (Rd.ext f_a0 (Ext.trans (Ext.trans (Ext.trans (Ext.trans (Ext.trans e13 e24) e233) e467) e478) e485)) rfl c487 <| fun p488 h489 => L_op (.plain rfl) rfl (ltb rfl) (X_fieldAddr Tryz.underlying78 rfl Tryz.sizeOf3 rfl rfl) <| L_op (.plain rfl) rfl (ltb rfl) (X_loadF Tryz.isAgg3 (j := 0) h489 rfl rfl) <| L_op (.plain rfl) rfl (ltb rfl) (X_neq rfl rfl) <| L_nil <| thn_n ?_
                    rcases bif_two H with ⟨q490, H⟩ | ⟨q490, H⟩
                    · refine W_true (congrArg Value.bool q490) <| W_seq <| W_reg <| L_op (.plain rfl) rfl (ltb rfl) (X_move (v := (.int .i64 x4_1)) ((K470 4 rfl).trans ((K236 4 rfl).trans h15))) <| L_op (.plain rfl) rfl (ltb rfl) (X_assign (v := (.int .i64 x4_1)) rfl) <| L_op (.plain rfl) rfl (ltb rfl) (X_assign (v := (.int .i64 13)) rfl) <| L_nil <| thn_n <| W_ret <| blk_r <| thn_r <| thn_r <| blk_r <| thn_r <| thn_r <| fin_r ?_
                      obtain rfl := Option.some.inj H
                      obtain rfl := Option.some.inj S17
                      have H := C4
                      obtain rfl := Option.some.inj H
                      exact fin2 rfl rfl (Ext.trans (Ext.trans (Ext.trans (Ext.trans (Ext.trans e13 e24) e233) e467) e478) e485)
                    · refine W_false (congrArg Value.bool q490) <| W_skip <| blk_n <| thn_n <| W_reg <| L_op (.plain rfl) rfl (ltb rfl) (X_move (v := (.int .i64 x4_1)) ((K470 4 rfl).trans ((K236 4 rfl).trans h15))) <| L_op (.plain rfl) rfl (ltb rfl) (X_add rfl rfl) <| L_op (.plain rfl) rfl (ltb rfl) (X_assign (v := (.int .i64 (IntKind.wrap .i64 (x4_1 + 1)))) rfl) <| L_nil <| thn_n ?_
                      obtain rfl := Option.some.inj H
                      exact ⟨_, Nat.lt_succ_self _, IntKind.wrap .i64 (x4_1 + 1), (Kp.upd (Kp.upd (Kp.upd (Kp.upd (Kp.upd (Kp.upd (Kp.upd (Kp.upd (Kp.upd (Kp.upd (Kp.upd (Kp.upd (Kp.upd (Kp.upd (Kp.upd (Kp.upd (Kp.upd (Kp.upd (Kp.upd (Kp.upd (Kp.upd (Kp.upd (Kp.upd (Kp.upd (Kp.upd (Kp.upd (Kp.cut (Kp.cut (Kp.upd (Kp.upd (Kp.upd (Kp.upd (Kp.upd (Kp.upd (Kp.upd (Kp.upd (Kp.upd (Kp.upd (Kp.upd (Kp.upd (Kp.upd (Kp.upd K12 rfl) rfl) rfl) rfl) rfl) rfl) rfl) rfl) rfl) rfl) rfl) rfl) rfl) rfl) K236 rfl) K470 rfl) rfl) rfl) rfl) rfl) rfl) rfl) rfl) rfl) rfl) rfl) rfl) rfl) rfl) rfl) rfl) rfl) rfl) rfl) rfl) rfl) rfl) rfl) rfl) rfl) rfl) rfl), rfl, (Ext.trans (Ext.trans (Ext.trans (Ext.trans (Ext.trans e13 e24) e233) e467) e478) e485), S17⟩
      · refine W_false (congrArg Value.bool q18) <| W_exit <| thn_x <| thn_x <| blk_x <| thn_n ?_
        obtain rfl := Option.some.inj H
        obtain rfl := Option.some.inj S17
        exact ⟨(Kp.upd (Kp.upd (Kp.upd (Kp.upd K12 rfl) rfl) rfl) rfl), e13, rfl⟩
  · rintro s6 w5 ⟨K7, e8, y491⟩
    rw [y491] at C4
    have H := C4
    replace H : _ = some _ := H
    refine thn_n <| W_seq <| W_reg <| L_op (.plain rfl) rfl (ltb rfl) (X_assign (v := (.int .i64 0)) rfl) <| L_op (.plain rfl) rfl (ltb rfl) (X_assign (v := (.int .i64 0)) rfl) <| L_nil <| thn_n <| W_ret <| fin_r ?_
    obtain rfl := Option.some.inj H
    exact fin2 rfl rfl e8
theorem spec_l03Fault.calls {w : World} {a0 : List Rec} {v_a0 : Value} (f_a0 : Rd 5 encRec w v_a0 a0) (h0 : a0.length ≤ 1048576) (h1 : ∀ x ∈ a0, x.path.length ≤ 1048576) :
    Calls Tryz.prog 109 #[v_a0] w (Rt (RP w (.tuple #[.int .i64 ((layerFault a0).1), .int .i64 ((layerFault a0).2)]))) := by
  obtain ⟨k, h⟩ := spec_l03Fault.eq a0 h0 h1
  exact spec_l03Fault.walk f_a0 h
/-! impl.isLongList(impl.Record) -/
theorem impl_isLongListR.walk {w : World} {a0 : List Rec} {v_a0 : Value} (f_a0 : Rd 5 encRec w v_a0 a0) {r : Bool} (H : impl_isLongListR.sh a0 = some r) :
    Calls Tryz.prog 69 #[v_a0] w (Rt (RP w (.bool r))) := by
  unfold impl_isLongListR.sh at H
  refine calls_of_W Tryz.func69 rfl (Nat.le_of_ble_eq_true rfl) Tryz.ntmps69 rfl ?_
  refine W_seq <| W_reg <| L_op (.plain rfl) rfl (ltb rfl) (X_assign (v := (.bool false)) rfl) <| L_nil <| thn_n <| W_seq <| W_reg <| L_op (.plain rfl) rfl (ltb rfl) (X_move (v := v_a0) rfl) <| L_op (.plain rfl) rfl (ltb rfl) (X_lenR Tryz.underlying28 rfl f_a0) <| L_op (.plain rfl) rfl (ltb rfl) (X_gtr rfl rfl) <| L_op (.plain rfl) rfl (ltb rfl) (X_assign (v := (.bool (decide (4096 < (a0.length : Int))))) rfl) <| L_nil <| thn_n <| W_ret <| fin_r ?_
  obtain rfl := Option.some.inj H
  exact fin1 rfl (Ext.refl w)
theorem impl_isLongListR.calls {w : World} {a0 : List Rec} {v_a0 : Value} (f_a0 : Rd 5 encRec w v_a0 a0) :
    Calls Tryz.prog 69 #[v_a0] w (Rt (RP w (.bool (decide (4096 < a0.length))))) := impl_isLongListR.walk f_a0 (impl_isLongListR.eq a0)
/-! impl.find$1 -/
theorem impl_find_1.walk {w : World} {a0 : Rec} {a1 : List UInt8} {b_a1 : Nat} (k_a1 : Blk w b_a1 #[(S a1)] 9) {r : Bool} (H : impl_find_1.sh a0 a1 = some r) :
    Calls Tryz.prog 157 #[.agg (encRec a0).toArray, .pointer (some ⟨b_a1, 0, none⟩)] w (Rt (RP w (.bool r))) := by
  unfold impl_find_1.sh at H
  refine calls_of_W Tryz.func157 rfl (Nat.le_of_ble_eq_true rfl) Tryz.ntmps157 rfl ?_
  refine W_seq <| W_reg <| L_box (.plain rfl) rfl (ltb rfl) rfl rfl <| fun b1 w2 z3 z4 e5 k6 => L_op (.plain rfl) rfl (ltb rfl) (X_assign (v := (.bool false)) rfl) <| L_nil <| thn_n <| W_seq <| W_reg <| L_op (.plain rfl) rfl (ltb rfl) (X_fieldAddr Tryz.underlying78 rfl Tryz.sizeOf9 rfl rfl) <| L_op (.plain rfl) rfl (ltb rfl) (X_loadB Tryz.isAgg9 k6 rfl rfl) <| L_op (.plain rfl) rfl (ltb rfl) (X_loadB Tryz.isAgg9 (Blk.ext k_a1 e5) rfl rfl) <| L_op (.plain rfl) rfl (ltb rfl) (X_seq rfl rfl) <| L_op (.plain rfl) rfl (ltb rfl) (X_assign (v := (.bool (decide (a0.path = a1)))) rfl) <| L_nil <| thn_n <| W_ret <| fin_r ?_
  obtain rfl := Option.some.inj H
  exact fin1 rfl e5
theorem impl_find_1.calls {w : World} {a0 : Rec} {a1 : List UInt8} {b_a1 : Nat} (k_a1 : Blk w b_a1 #[(S a1)] 9) :
    Calls Tryz.prog 157 #[.agg (encRec a0).toArray, .pointer (some ⟨b_a1, 0, none⟩)] w (Rt (RP w (.bool (decide (a0.path = a1))))) := impl_find_1.walk k_a1 (impl_find_1.eq a0 a1)
/-! slices.IndexFunc(()impl.Record,impl.Record) -/
theorem slices_IndexFuncR.walk {k : Nat} {w : World} {a0 : List Rec} {a1 : Rec → Option Bool} {v_a0 : Value} (f_a0 : Rd 5 encRec w v_a0 a0) {v_a1 : Value} (f_a1 : ∀ (x0 : Rec) (r : Bool), a1 x0 = some r → FnAt Tryz.prog w v_a1 [(.agg (encRec x0).toArray)] (.bool r)) (g_a1 : v_a1.cells = #[v_a1]) {r : Int} (H : slices_IndexFuncR.sh k a0 a1 = some r) :
    Calls Tryz.prog 156 #[v_a0, v_a1] w (Rt (RP w (.int .i64 r))) := by
  unfold slices_IndexFuncR.sh at H
  refine calls_of_W Tryz.func156 rfl (Nat.le_of_ble_eq_true rfl) Tryz.ntmps156 rfl ?_
  refine W_seq <| W_reg <| L_op (.plain rfl) rfl (ltb rfl) (X_assign (v := (.int .i64 0)) rfl) <| L_nil <| thn_n <| W_seq <| W_seq <| W_reg <| L_op (.plain rfl) rfl (ltb rfl) (X_move (v := v_a0) rfl) <| L_op (.plain rfl) rfl (ltb rfl) (X_lenR Tryz.underlying28 rfl f_a0) <| L_op (.plain rfl) rfl (ltb rfl) (X_move (v := (.int .i64 0)) rfl) <| L_nil <| thn_n ?_
  obtain ⟨z2, L3, C4⟩ := bind_some H
  clear H
  refine  W_cutQ (fun s0 sQ wQ => Kp [(4, 6), (8, 19)] s0 sQ ∧ Ext w wQ ∧ z2 = .inr ()) ?_ ?_
  · refine W_block <| W_loopI (fun s0 kk sQ wQ => ∃ (x8_1 : Int), Kp [(4, 6), (8, 19)] s0 sQ ∧ sQ 8 = .int .i64 x8_1 ∧ Ext w wQ ∧ loopF (slices_IndexFuncR.b1 a0 a1) kk x8_1 = some z2) k ⟨0, (Kp.refl _ _), rfl, (Ext.refl w), L3⟩ ?_
    rintro k9 s10 w11 ⟨x8_1, K12, h15, e13, L14⟩
    cases k9 with
    | zero => exact absurd L14 (by simp [loopF])
    | succ k9 =>
      obtain ⟨t16, H, S17⟩ := loopF_succ L14
      clear L14
      unfold slices_IndexFuncR.b1 at H
      refine W_seq <| W_reg <| L_op (.plain rfl) rfl (ltb rfl) (X_lss h15 (K12 7 rfl)) <| L_nil <| thn_n <| W_seq ?_
      rcases bif_two H with ⟨q18, H⟩ | ⟨q18, H⟩
      · refine W_true (congrArg Value.bool q18) <| W_skip <| thn_n <| W_seq <| W_block <| W_seq <| W_reg <| L_op (.plain rfl) rfl (ltb rfl) (X_move (v := (.int .i64 x8_1)) h15) <| L_op (.plain rfl) rfl (ltb rfl) (X_assign (v := (.int .i64 x8_1)) rfl) <| L_nil <| thn_n <| W_seq <| W_reg <| L_op (.plain rfl) rfl (ltb rfl) (X_move (v := v_a1) (K12 1 rfl)) <| L_op (.plain rfl) rfl (ltb rfl) (X_move (v := v_a0) (K12 0 rfl)) <| L_op (.plain rfl) rfl (ltb rfl) (X_move (v := (.int .i64 x8_1)) rfl) ?_
        obtain ⟨c19, H⟩ := bif_some H
        refine L_idx (.plain rfl) rfl (ltb rfl) rfl Tryz.underlying28 Tryz.sizeOf78 rfl (Rd.ext f_a0 e13) rfl c19 <| fun p20 h21 => L_op (.plain rfl) rfl (ltb rfl) (X_loadS Tryz.isAgg78 Tryz.sizeOf78 rfl rfl h21) ?_
        obtain ⟨z22, x23, H⟩ := bind_some H
        refine L_callF (.plain rfl) rfl (ltb rfl) rfl rfl (FnAt.ext (f_a1 _ _ x23) e13) rfl <| fun w24 e25 => L_nil <| thn_n ?_
        rcases bif_two H with ⟨q26, H⟩ | ⟨q26, H⟩
        · refine W_true (congrArg Value.bool q26) <| W_seq <| W_reg <| L_op (.plain rfl) rfl (ltb rfl) (X_move (v := (.int .i64 x8_1)) rfl) <| L_op (.plain rfl) rfl (ltb rfl) (X_assign (v := (.int .i64 x8_1)) rfl) <| L_nil <| thn_n <| W_ret <| blk_r <| thn_r <| thn_r <| blk_r <| thn_r <| thn_r <| fin_r ?_
          obtain rfl := Option.some.inj H
          obtain rfl := Option.some.inj S17
          have H := C4
          obtain rfl := Option.some.inj H
          exact fin1 rfl (Ext.trans e13 e25)
        · refine W_false (congrArg Value.bool q26) <| W_skip <| blk_n <| thn_n <| W_reg <| L_op (.plain rfl) rfl (ltb rfl) (X_add h15 rfl) <| L_op (.plain rfl) rfl (ltb rfl) (X_move (v := (.int .i64 (IntKind.wrap .i64 (x8_1 + 1)))) rfl) <| L_nil <| thn_n ?_
          obtain rfl := Option.some.inj H
          exact ⟨_, Nat.lt_succ_self _, IntKind.wrap .i64 (x8_1 + 1), (Kp.upd (Kp.upd (Kp.upd (Kp.upd (Kp.upd (Kp.upd (Kp.upd (Kp.upd (Kp.upd (Kp.upd (Kp.upd K12 rfl) rfl) rfl) rfl) rfl) rfl) rfl) rfl) rfl) rfl) rfl), rfl, (Ext.trans e13 e25), S17⟩
      · refine W_false (congrArg Value.bool q18) <| W_exit <| thn_x <| thn_x <| blk_x <| thn_n ?_
        obtain rfl := Option.some.inj H
        obtain rfl := Option.some.inj S17
        exact ⟨(Kp.upd K12 rfl), e13, rfl⟩
  · rintro s6 w5 ⟨K7, e8, y27⟩
    rw [y27] at C4
    have H := C4
    replace H : _ = some _ := H
    refine thn_n <| W_seq <| W_reg <| L_op (.plain rfl) rfl (ltb rfl) (X_assign (v := (.int .i64 (-1))) rfl) <| L_nil <| thn_n <| W_ret <| fin_r ?_
    obtain rfl := Option.some.inj H
    exact fin1 rfl e8
theorem slices_IndexFuncR.calls {w : World} {a0 : List Rec} {a1 : Rec → Option Bool} {r : Int} {v_a0 : Value} (f_a0 : Rd 5 encRec w v_a0 a0) {v_a1 : Value} (f_a1 : ∀ (x0 : Rec) (r : Bool), a1 x0 = some r → FnAt Tryz.prog w v_a1 [(.agg (encRec x0).toArray)] (.bool r)) (g_a1 : v_a1.cells = #[v_a1]) (h0 : a0.length ≤ 4611686018427387904) (H : (idxO a1 a0) = some r) :
    Calls Tryz.prog 156 #[v_a0, v_a1] w (Rt (RP w (.int .i64 r))) := by
  obtain ⟨k, h⟩ := slices_IndexFuncR.eq a0 a1 h0 H
  exact slices_IndexFuncR.walk f_a0 f_a1 g_a1 h
/-! impl.find -/
theorem impl_find.walk {w : World} {a0 : List Rec} {a1 : List UInt8} {v_a0 : Value} (f_a0 : Rd 5 encRec w v_a0 a0) {r : Int} (H : impl_find.sh a0 a1 = some r) :
    Calls Tryz.prog 105 #[v_a0, S a1] w (Rt (RP w (.int .i64 r))) := by
  unfold impl_find.sh at H
  refine calls_of_W Tryz.func105 rfl (Nat.le_of_ble_eq_true rfl) Tryz.ntmps105 rfl ?_
  refine W_seq <| W_reg <| L_box (.plain rfl) rfl (ltb rfl) rfl rfl <| fun b1 w2 z3 z4 e5 k6 => L_op (.plain rfl) rfl (ltb rfl) (X_assign (v := (.int .i64 0)) rfl) <| L_nil <| thn_n <| W_seq <| W_reg <| L_op (.plain rfl) rfl (ltb rfl) (X_move (v := v_a0) rfl) <| L_op (.plain rfl) rfl (ltb rfl) (X_makeFunc (vs := #[]) (us := #[.pointer (some ⟨b1, 0, none⟩)]) rfl rfl) ?_
  obtain ⟨c11, H⟩ := bif_some H
  obtain ⟨z12, x13, H⟩ := bind_some H
  refine L_callP (.plain rfl) rfl (ltb rfl) rfl Tryz.call156 (slices_IndexFuncR.calls (w := w2) (a0 := a0) (a1 := (fun (x0_ : Rec) => some (decide (x0_.path = a1)))) (Rd.ext f_a0 e5) (fun x0_ r h => by have h := Option.some.inj h; subst h; exact FnAt.mk Tryz.call157 (by rfl) fun w9 k10 => impl_find_1.calls (w := w9) (a0 := x0_) (a1 := a1) (Blk.ext k6 k10)) rfl (of_decide_eq_true c11) x13) rfl <| fun w14 e15 => L_op (.plain rfl) rfl (ltb rfl) (X_assign (v := (.int .i64 z12)) rfl) <| L_nil <| thn_n <| W_ret <| fin_r ?_
  obtain rfl := Option.some.inj H
  exact fin1 rfl (Ext.trans e5 e15)
theorem impl_find.calls {w : World} {a0 : List Rec} {a1 : List UInt8} {v_a0 : Value} (f_a0 : Rd 5 encRec w v_a0 a0) (h0 : a0.length ≤ 1048576) :
    Calls Tryz.prog 105 #[v_a0, S a1] w (Rt (RP w (.int .i64 (findR a0 a1)))) := impl_find.walk f_a0 (impl_find.eq a0 a1 h0)
/-! impl.faultAt -/
abbrev impl_faultAt.e1 (a0 : List Rec) (a1 : Int) (x6_19 : Int) := ([.inl (!(decide (recFault (gt a0 a1) = 0))), .inr (recFault (gt a0 a1)), .inl ((decide (0 < a1)) && (decide (((gt a0 (if ((IntKind.wrap .i64 (a1 - 1)) < 0 : Prop) then 0 else (IntKind.wrap .i64 (a1 - 1)))).path) = ((gt a0 a1).path)))), .inr 18, .inl ((decide (0 < a1)) && (!(pathLess ((gt a0 (if ((IntKind.wrap .i64 (a1 - 1)) < 0 : Prop) then 0 else (IntKind.wrap .i64 (a1 - 1)))).path) ((gt a0 a1).path)))), .inr 11, .inl (decide (x6_19 < 0)), .inr 12, .inl ((!decide ((parentP ((gt a0 a1).path)) = ([] : List UInt8))) && (!decide (((gt a0 (if (x6_19 < 0 : Prop) then 0 else x6_19)).kind) = 3))), .inr 13] : List (Bool ⊕ Int))
abbrev impl_faultAt.e2 (a0 : List Rec) (a1 : Int) := (!decide ((parentP ((gt a0 a1).path)) = ([] : List UInt8)))
abbrev impl_faultAt.e3 (a1 : Int) := (if ((IntKind.wrap .i64 (a1 - 1)) < 0 : Prop) then 0 else (IntKind.wrap .i64 (a1 - 1)))
abbrev impl_faultAt.e4 (a0 : List Rec) (a1 : Int) (x6_19 : Int) := ([.inl (decide (16 ≤ a1)), .inr 6, .inl true, .inr (firstOf (impl_faultAt.e1 a0 a1 x6_19))] : List (Bool ⊕ Int))
abbrev impl_faultAt.e5 (a0 : List Rec) (a1 : Int) := (pathLess ((gt a0 (impl_faultAt.e3 a1)).path) ((gt a0 a1).path))
abbrev impl_faultAt.e6 (a0 : List Rec) (x6_19 : Int) := (!decide (((gt a0 (if (x6_19 < 0 : Prop) then 0 else x6_19)).kind) = 3))
abbrev impl_faultAt.e7 (a0 : List Rec) (a1 : Int) := (decide (((gt a0 (impl_faultAt.e3 a1)).path) = ((gt a0 a1).path)))
theorem impl_faultAt.walk {w : World} {a0 : List Rec} {a1 : Int} (gv : GV 0 w) {v_a0 : Value} (f_a0 : Rd 5 encRec w v_a0 a0) {r : Int} (H : impl_faultAt.sh a0 a1 = some r) :
    Calls Tryz.prog 199 #[v_a0, .int .i64 a1] w (Rt (RP w (.int .i64 r))) := by
  unfold impl_faultAt.sh at H
  refine calls_of_W Tryz.func199 rfl (Nat.le_of_ble_eq_true rfl) Tryz.ntmps199 rfl ?_
  refine W_seq <| W_reg <| L_op (.plain rfl) rfl (ltb rfl) (X_assign (v := (.int .i64 0)) rfl) <| L_nil <| thn_n <| W_seq <| W_reg <| L_op (.plain rfl) rfl (ltb rfl) (X_move (v := v_a0) rfl) <| L_op (.plain rfl) rfl (ltb rfl) (X_move (v := (.int .i64 a1)) rfl) ?_
  obtain ⟨c1, H⟩ := bif_some H
  refine L_idx (.plain rfl) rfl (ltb rfl) rfl Tryz.underlying28 Tryz.sizeOf78 rfl f_a0 rfl c1 <| fun p2 h3 => L_op (.plain rfl) rfl (ltb rfl) (X_loadS Tryz.isAgg78 Tryz.sizeOf78 rfl rfl h3) <| L_alloc (.plain rfl) rfl (ltb rfl) rfl Tryz.zeroValue78 <| fun b4 w5 z6 z7 e8 k9 => L_storeA (.plain rfl) rfl rfl Tryz.sizeOf78 rfl rfl rfl rfl rfl k9 <| fun w10 h11 k12 => L_op (.plain rfl) rfl (ltb rfl) (X_assign (v := (.int .i64 0)) rfl) <| L_nil <| thn_n <| W_seq <| W_seq <| W_reg <| L_op (.plain rfl) rfl (ltb rfl) (X_fieldAddr Tryz.underlying78 rfl Tryz.sizeOf9 rfl rfl) <| L_op (.plain rfl) rfl (ltb rfl) (X_loadB Tryz.isAgg9 k12 rfl rfl) ?_
  obtain ⟨c13, H⟩ := bif_some H
  refine L_callP (.plain rfl) rfl (ltb rfl) rfl Tryz.call120 (impl_parent.calls (w := w10) (a0 := (gt a0 a1).path) (of_decide_eq_true c13)) rfl <| fun w14 e15 => L_op (.plain rfl) rfl (ltb rfl) (X_assign (v := (S (parentP ((gt a0 a1).path)))) rfl) <| L_nil <| thn_n <| W_seq <| W_reg <| L_op (.plain rfl) rfl (ltb rfl) (X_move (v := (S (parentP ((gt a0 a1).path)))) rfl) <| L_op (.plain rfl) rfl (ltb rfl) (X_sne rfl rfl) <| L_nil <| thn_n ?_
  obtain ⟨z16, L17, C18⟩ := bind_some H
  clear H
  refine W_cutQ (fun s0 sQ wQ => ∃ (x6_19 : Int), Kp [(6, 7), (17, 22)] s0 sQ ∧ sQ 6 = .int .i64 x6_19 ∧ Ext w14 wQ ∧ z16 = .inr x6_19) ?_ ?_
  · have H := L17
    rcases bif_two H with ⟨q20, H⟩ | ⟨q20, H⟩
    · refine W_true (congrArg Value.bool q20) <| W_reg <| L_op (.plain rfl) rfl (ltb rfl) (X_move (v := v_a0) rfl) <| L_op (.plain rfl) rfl (ltb rfl) (X_move (v := (.int .i64 a1)) rfl) ?_
      obtain ⟨c21, H⟩ := bif_some H
      refine L_sub (.plain rfl) rfl (ltb rfl) rfl Tryz.underlying28 Tryz.sizeOf78 rfl (Rd.ext f_a0 (Ext.trans (Below.trans e8 (Wr.below h11 (Nat.le_of_eq z6))) e15)) (l := 0) (h := a1) rfl ⟨_, rfl⟩ c21 <| fun v22 h23 => L_op (.plain rfl) rfl (ltb rfl) (X_move (v := (S (parentP ((gt a0 a1).path)))) rfl) ?_
      obtain ⟨c24, H⟩ := bif_some H
      refine L_callP (.plain rfl) rfl (ltb rfl) rfl Tryz.call105 (impl_find.calls (w := w14) (a0 := sub a0 0 a1) (a1 := (parentP ((gt a0 a1).path))) h23 (of_decide_eq_true c24)) rfl <| fun w25 e26 => L_op (.plain rfl) rfl (ltb rfl) (X_assign (v := (.int .i64 (findR (sub a0 0 a1) (parentP ((gt a0 a1).path))))) rfl) <| L_nil <| thn_n ?_
      obtain rfl := Option.some.inj H
      exact ⟨(findR (sub a0 0 a1) (parentP ((gt a0 a1).path))), (Kp.upd (Kp.upd (Kp.upd (Kp.upd (Kp.upd (Kp.upd (Kp.refl _ _) rfl) rfl) rfl) rfl) rfl) rfl), rfl, e26, rfl⟩
    · refine W_false (congrArg Value.bool q20) <| W_skip <| thn_n ?_
      obtain rfl := Option.some.inj H
      exact ⟨0, (Kp.refl _ _), rfl, (Ext.refl w14), rfl⟩
  · rintro s28 w27 ⟨x6_19, K29, h32, e30, y31⟩
    rw [y31] at C18
    have H := C18
    refine thn_n <| W_seq ?_
    obtain ⟨c37, H⟩ := bif_some H
    obtain ⟨c40, H⟩ := bif_some H
    obtain ⟨c45, H⟩ := bif_some H
    obtain ⟨c48, H⟩ := bif_some H
    obtain ⟨c57, H⟩ := bif_some H
    obtain ⟨c66, H⟩ := bif_some H
    refine W_drawM [LEq (.int .i64 a1), LEq (.bool (decide (16 ≤ a1))), LEq (.iface 4 (.bool (decide (16 ≤ a1)))), LEq (.iface 3 (.int .i64 6)), LEq (.iface 4 (.bool true)), LEq (.agg #[(.int .i64 ((gt a0 a1).kind)), (S ((gt a0 a1).path)), (S ((gt a0 a1).body)), (.int .i64 ((gt a0 a1).mode)), (.bool ((gt a0 a1).opq))]), LEq (.bool (decide (recFault (gt a0 a1) = 0))), LEq (.bool (!(decide (recFault (gt a0 a1) = 0)))), LEq (.iface 4 (.bool (!(decide (recFault (gt a0 a1) = 0))))), LEq (.agg #[(.int .i64 ((gt a0 a1).kind)), (S ((gt a0 a1).path)), (S ((gt a0 a1).body)), (.int .i64 ((gt a0 a1).mode)), (.bool ((gt a0 a1).opq))]), LEq (.int .i64 (recFault (gt a0 a1))), LEq (.iface 3 (.int .i64 (recFault (gt a0 a1)))), LEq (.int .i64 a1), LEq (.bool (decide (0 < a1))), LEq (.bool (decide (0 < a1))), LIf (decide (0 < a1)) (LEq v_a0), LIf (decide (0 < a1)) (LEq (.int .i64 a1)), LIf (decide (0 < a1)) (LEq (.int .i64 (IntKind.wrap .i64 (a1 - 1)))), LIf (decide (0 < a1)) (LEq (.int .i64 (impl_faultAt.e3 a1))), LIf (decide (0 < a1)) (LAt0 (encRec (gt a0 (impl_faultAt.e3 a1)))), LIf (decide (0 < a1)) (LAt 1 (encRec (gt a0 (impl_faultAt.e3 a1)))), LIf (decide (0 < a1)) (LEq (S ((gt a0 (impl_faultAt.e3 a1)).path))), LIf (decide (0 < a1)) (LEq (.pointer (some ⟨b4, 1, none⟩))), LIf (decide (0 < a1)) (LEq (S ((gt a0 a1).path))), LIf (decide (0 < a1)) (LEq (.bool (impl_faultAt.e7 a0 a1))), LEq (.bool ((decide (0 < a1)) && (impl_faultAt.e7 a0 a1))), LEq (.iface 4 (.bool ((decide (0 < a1)) && (impl_faultAt.e7 a0 a1)))), LEq (.iface 3 (.int .i64 18)), LEq (.int .i64 a1), LEq (.bool (decide (0 < a1))), LEq (.bool (decide (0 < a1))), LIf (decide (0 < a1)) (LEq v_a0), LIf (decide (0 < a1)) (LEq (.int .i64 a1)), LIf (decide (0 < a1)) (LEq (.int .i64 (IntKind.wrap .i64 (a1 - 1)))), LIf (decide (0 < a1)) (LEq (.int .i64 (impl_faultAt.e3 a1))), LIf (decide (0 < a1)) (LAt0 (encRec (gt a0 (impl_faultAt.e3 a1)))), LIf (decide (0 < a1)) (LAt 1 (encRec (gt a0 (impl_faultAt.e3 a1)))), LIf (decide (0 < a1)) (LEq (S ((gt a0 (impl_faultAt.e3 a1)).path))), LIf (decide (0 < a1)) (LEq (.pointer (some ⟨b4, 1, none⟩))), LIf (decide (0 < a1)) (LEq (S ((gt a0 a1).path))), LIf (decide (0 < a1)) (LEq (.bool (impl_faultAt.e5 a0 a1))), LIf (decide (0 < a1)) (LEq (.bool (!(impl_faultAt.e5 a0 a1)))), LEq (.bool ((decide (0 < a1)) && (!(impl_faultAt.e5 a0 a1)))), LEq (.iface 4 (.bool ((decide (0 < a1)) && (!(impl_faultAt.e5 a0 a1))))), LEq (.iface 3 (.int .i64 11)), LEq (.int .i64 x6_19), LEq (.bool (decide (x6_19 < 0))), LEq (.iface 4 (.bool (decide (x6_19 < 0)))), LEq (.iface 3 (.int .i64 12)), LEq (.pointer (some ⟨b4, 1, none⟩)), LEq (S ((gt a0 a1).path)), LEq (S (parentP ((gt a0 a1).path))), LEq (.bool (impl_faultAt.e2 a0 a1)), LEq (.bool (impl_faultAt.e2 a0 a1)), LIf (impl_faultAt.e2 a0 a1) (LEq v_a0), LIf (impl_faultAt.e2 a0 a1) (LEq (.int .i64 x6_19)), LIf (impl_faultAt.e2 a0 a1) (LEq (.int .i64 (if (x6_19 < 0 : Prop) then 0 else x6_19))), LIf (impl_faultAt.e2 a0 a1) (LAt0 (encRec (gt a0 (if (x6_19 < 0 : Prop) then 0 else x6_19)))), LIf (impl_faultAt.e2 a0 a1) (LAt 0 (encRec (gt a0 (if (x6_19 < 0 : Prop) then 0 else x6_19)))), LIf (impl_faultAt.e2 a0 a1) (LEq (.int .i64 ((gt a0 (if (x6_19 < 0 : Prop) then 0 else x6_19)).kind))), LIf (impl_faultAt.e2 a0 a1) (LEq (.bool (impl_faultAt.e6 a0 x6_19))), LEq (.bool ((impl_faultAt.e2 a0 a1) && (impl_faultAt.e6 a0 x6_19))), LEq (.iface 4 (.bool ((impl_faultAt.e2 a0 a1) && (impl_faultAt.e6 a0 x6_19)))), LEq (.iface 3 (.int .i64 13)), LRd 1 (encAny 4 3) (impl_faultAt.e1 a0 a1 x6_19), LEq (.int .i64 (firstOf (impl_faultAt.e1 a0 a1 x6_19))), LEq (.iface 3 (.int .i64 (firstOf (impl_faultAt.e1 a0 a1 x6_19)))), LRd 1 (encAny 4 3) (impl_faultAt.e4 a0 a1 x6_19), LEq (.int .i64 (firstOf (impl_faultAt.e4 a0 a1 x6_19))), LEq (.int .i64 (firstOf (impl_faultAt.e4 a0 a1 x6_19)))] (by kernel_rfl) (by kernel_rfl) ⟨LEq.mono, LEq.mono, LEq.mono, LEq.mono, LEq.mono, LEq.mono, LEq.mono, LEq.mono, LEq.mono, LEq.mono, LEq.mono, LEq.mono, LEq.mono, LEq.mono, LEq.mono, (LIf.mono LEq.mono), (LIf.mono LEq.mono), (LIf.mono LEq.mono), (LIf.mono LEq.mono), (LIf.mono LAt0.mono), (LIf.mono LAt.mono), (LIf.mono LEq.mono), (LIf.mono LEq.mono), (LIf.mono LEq.mono), (LIf.mono LEq.mono), LEq.mono, LEq.mono, LEq.mono, LEq.mono, LEq.mono, LEq.mono, (LIf.mono LEq.mono), (LIf.mono LEq.mono), (LIf.mono LEq.mono), (LIf.mono LEq.mono), (LIf.mono LAt0.mono), (LIf.mono LAt.mono), (LIf.mono LEq.mono), (LIf.mono LEq.mono), (LIf.mono LEq.mono), (LIf.mono LEq.mono), (LIf.mono LEq.mono), LEq.mono, LEq.mono, LEq.mono, LEq.mono, LEq.mono, LEq.mono, LEq.mono, LEq.mono, LEq.mono, LEq.mono, LEq.mono, LEq.mono, (LIf.mono LEq.mono), (LIf.mono LEq.mono), (LIf.mono LEq.mono), (LIf.mono LAt0.mono), (LIf.mono LAt.mono), (LIf.mono LEq.mono), (LIf.mono LEq.mono), LEq.mono, LEq.mono, LEq.mono, LRd.mono, LEq.mono, LEq.mono, LRd.mono, LEq.mono, LEq.mono, trivial⟩ ⟨?_, ?_, ?_, ?_, ?_, ?_, ?_, ?_, ?_, ?_, ?_, ?_, ?_, ?_, ?_, ?_, ?_, ?_, ?_, ?_, ?_, ?_, ?_, ?_, ?_, ?_, ?_, ?_, ?_, ?_, ?_, ?_, ?_, ?_, ?_, ?_, ?_, ?_, ?_, ?_, ?_, ?_, ?_, ?_, ?_, ?_, ?_, ?_, ?_, ?_, ?_, ?_, ?_, ?_, ?_, ?_, ?_, ?_, ?_, ?_, ?_, ?_, ?_, ?_, ?_, ?_, ?_, ?_, ?_, ?_, trivial⟩ ?_
    · intro s69 w70 e71 hf72 hd73 hu74
      exact L_op (.plain rfl) rfl (ltb rfl) (X_move (v := (.int .i64 a1)) ((hf72 1 rfl).trans (K29 1 rfl))) <| L_nil <| stepEnd rfl rfl (Ext.refl w70) rfl
    · intro s75 w76 e77 hf78 hd79 hu80
      have d81 : s75 22 = (.int .i64 a1) := (hd79 0 rfl)
      exact L_op (.plain rfl) rfl (ltb rfl) (X_geq d81 rfl) <| L_nil <| stepEnd rfl rfl (Ext.refl w76) rfl
    · intro s82 w83 e84 hf85 hd86 hu87
      have d88 : s82 23 = (.bool (decide (16 ≤ a1))) := (hd86 1 rfl)
      exact L_op (.plain rfl) rfl (ltb rfl) (X_mkiface Tryz.underlying4 rfl d88) <| L_nil <| stepEnd rfl rfl (Ext.refl w83) rfl
    · intro s89 w90 e91 hf92 hd93 hu94
      exact L_op (.plain rfl) rfl (ltb rfl) (X_mkiface Tryz.underlying3 rfl rfl) <| L_nil <| stepEnd rfl rfl (Ext.refl w90) rfl
    · intro s95 w96 e97 hf98 hd99 hu100
      exact L_op (.plain rfl) rfl (ltb rfl) (X_mkiface Tryz.underlying4 rfl rfl) <| L_nil <| stepEnd rfl rfl (Ext.refl w96) rfl
    · intro s101 w102 e103 hf104 hd105 hu106
      exact L_op (.plain rfl) rfl (ltb rfl) (X_loadS Tryz.isAgg78 Tryz.sizeOf78 rfl ((hf104 5 rfl).trans (K29 5 rfl)) (Blk.at0 (Blk.ext k12 (Ext.trans (Ext.trans e15 e30) e103)))) <| L_nil <| stepEnd rfl rfl (Ext.refl w102) rfl
    · intro s107 w108 e109 hf110 hd111 hu112
      have d113 : s107 27 = (.agg #[(.int .i64 ((gt a0 a1).kind)), (S ((gt a0 a1).path)), (S ((gt a0 a1).body)), (.int .i64 ((gt a0 a1).mode)), (.bool ((gt a0 a1).opq))]) := (hd111 5 rfl)
      exact L_callP (.plain rfl) rfl (ltb rfl) rfl Tryz.call166 (impl_RecordOK.calls (w := w108) (a0 := (gt a0 a1)) (GV.ext gv (Ext.trans (Ext.trans (Ext.trans (Below.trans e8 (Wr.below h11 (Nat.le_of_eq z6))) e15) e30) e109))) (cons2 d113 rfl) <| fun w114 e115 => L_nil <| stepEnd rfl rfl e115 rfl
    · intro s116 w117 e118 hf119 hd120 hu121
      have d122 : s116 28 = (.bool (decide (recFault (gt a0 a1) = 0))) := (hd120 6 rfl)
      exact L_op (.plain rfl) rfl (ltb rfl) (X_not d122) <| L_nil <| stepEnd rfl rfl (Ext.refl w117) rfl
    · intro s123 w124 e125 hf126 hd127 hu128
      have d129 : s123 29 = (.bool (!(decide (recFault (gt a0 a1) = 0)))) := (hd127 7 rfl)
      exact L_op (.plain rfl) rfl (ltb rfl) (X_mkiface Tryz.underlying4 rfl d129) <| L_nil <| stepEnd rfl rfl (Ext.refl w124) rfl
    · intro s130 w131 e132 hf133 hd134 hu135
      exact L_op (.plain rfl) rfl (ltb rfl) (X_loadS Tryz.isAgg78 Tryz.sizeOf78 rfl ((hf133 5 rfl).trans (K29 5 rfl)) (Blk.at0 (Blk.ext k12 (Ext.trans (Ext.trans e15 e30) e132)))) <| L_nil <| stepEnd rfl rfl (Ext.refl w131) rfl
    · intro s136 w137 e138 hf139 hd140 hu141
      have d142 : s136 31 = (.agg #[(.int .i64 ((gt a0 a1).kind)), (S ((gt a0 a1).path)), (S ((gt a0 a1).body)), (.int .i64 ((gt a0 a1).mode)), (.bool ((gt a0 a1).opq))]) := (hd140 9 rfl)
      exact L_callP (.plain rfl) rfl (ltb rfl) rfl Tryz.call200 (impl_RecordFault.calls (w := w137) (a0 := (gt a0 a1)) (GV.ext gv (Ext.trans (Ext.trans (Ext.trans (Below.trans e8 (Wr.below h11 (Nat.le_of_eq z6))) e15) e30) e138))) (cons2 d142 rfl) <| fun w143 e144 => L_nil <| stepEnd rfl rfl e144 rfl
    · intro s145 w146 e147 hf148 hd149 hu150
      have d151 : s145 32 = (.int .i64 (recFault (gt a0 a1))) := (hd149 10 rfl)
      exact L_op (.plain rfl) rfl (ltb rfl) (X_mkiface Tryz.underlying3 rfl d151) <| L_nil <| stepEnd rfl rfl (Ext.refl w146) rfl
    · intro s152 w153 e154 hf155 hd156 hu157
      exact L_op (.plain rfl) rfl (ltb rfl) (X_move (v := (.int .i64 a1)) ((hf155 1 rfl).trans (K29 1 rfl))) <| L_nil <| stepEnd rfl rfl (Ext.refl w153) rfl
    · intro s158 w159 e160 hf161 hd162 hu163
      have d164 : s158 34 = (.int .i64 a1) := (hd162 12 rfl)
      exact L_op (.plain rfl) rfl (ltb rfl) (X_gtr d164 rfl) <| L_nil <| stepEnd rfl rfl (Ext.refl w159) rfl
    · intro s165 w166 e167 hf168 hd169 hu170
      have d171 : s165 35 = (.bool (decide (0 < a1))) := (hd169 13 rfl)
      exact L_op (.plain rfl) rfl (ltb rfl) (X_move (v := (.bool (decide (0 < a1)))) d171) <| L_nil <| stepEnd rfl rfl (Ext.refl w166) rfl
    · intro s172 w173 e174 hf175 hd176 hu177
      rcases bool_two (decide (0 < a1)) with b178 | b178
      · have g179 : (decide (0 < a1)) = true := b178
        have d180 : s172 36 = (.bool (decide (0 < a1))) := (hd176 14 rfl)
        have d181 : s172 36 = (.bool (decide (0 < a1))) := (hd176 14 rfl)
        exact L_op (.guard 14 true 36 rfl rfl (ltb rfl) (d180.trans (congrArg Value.bool g179))) rfl (ltb rfl) (X_move (v := v_a0) ((hf175 0 rfl).trans (K29 0 rfl))) <| L_nil <| stepEnd rfl rfl (Ext.refl w173) ⟨fun _ => rfl, fun h => absurd (b178.symm.trans h) (by decide)⟩
      · have d182 : s172 36 = (.bool (decide (0 < a1))) := (hd176 14 rfl)
        have g183 : (decide (0 < a1)) = false := b178
        exact L_skip rfl rfl (ltb rfl) (d182.trans (congrArg Value.bool g183)) rfl rfl (ltb rfl) <| L_nil <| stepEnd rfl rfl (Ext.refl w173) ⟨fun h => absurd (b178.symm.trans h) (by decide), fun _ => rfl⟩
    · intro s184 w185 e186 hf187 hd188 hu189
      rcases bool_two (decide (0 < a1)) with b190 | b190
      · have g191 : (decide (0 < a1)) = true := b190
        have d192 : s184 36 = (.bool (decide (0 < a1))) := (hd188 14 rfl)
        have d193 : s184 36 = (.bool (decide (0 < a1))) := (hd188 14 rfl)
        exact L_op (.guard 14 true 36 rfl rfl (ltb rfl) (d192.trans (congrArg Value.bool g191))) rfl (ltb rfl) (X_move (v := (.int .i64 a1)) ((hf187 1 rfl).trans (K29 1 rfl))) <| L_nil <| stepEnd rfl rfl (Ext.refl w185) ⟨fun _ => rfl, fun h => absurd (b190.symm.trans h) (by decide)⟩
      · have d194 : s184 36 = (.bool (decide (0 < a1))) := (hd188 14 rfl)
        have g195 : (decide (0 < a1)) = false := b190
        exact L_skip rfl rfl (ltb rfl) (d194.trans (congrArg Value.bool g195)) rfl rfl (ltb rfl) <| L_nil <| stepEnd rfl rfl (Ext.refl w185) ⟨fun h => absurd (b190.symm.trans h) (by decide), fun _ => rfl⟩
    · intro s196 w197 e198 hf199 hd200 hu201
      rcases bool_two (decide (0 < a1)) with b202 | b202
      · have g203 : (decide (0 < a1)) = true := b202
        have d204 : s196 36 = (.bool (decide (0 < a1))) := (hd200 14 rfl)
        have d205 : s196 36 = (.bool (decide (0 < a1))) := (hd200 14 rfl)
        have d206 : s196 38 = (.int .i64 a1) := ((hd200 16 rfl).1 b202)
        exact L_op (.guard 14 true 36 rfl rfl (ltb rfl) (d204.trans (congrArg Value.bool g203))) rfl (ltb rfl) (X_sub d206 rfl) <| L_nil <| stepEnd rfl rfl (Ext.refl w197) ⟨fun _ => rfl, fun h => absurd (b202.symm.trans h) (by decide)⟩
      · have d207 : s196 36 = (.bool (decide (0 < a1))) := (hd200 14 rfl)
        have g208 : (decide (0 < a1)) = false := b202
        exact L_skip rfl rfl (ltb rfl) (d207.trans (congrArg Value.bool g208)) rfl rfl (ltb rfl) <| L_nil <| stepEnd rfl rfl (Ext.refl w197) ⟨fun h => absurd (b202.symm.trans h) (by decide), fun _ => rfl⟩
    · intro s209 w210 e211 hf212 hd213 hu214
      rcases bool_two (decide (0 < a1)) with b215 | b215
      · have g216 : (decide (0 < a1)) = true := b215
        have d217 : s209 36 = (.bool (decide (0 < a1))) := (hd213 14 rfl)
        have d218 : s209 36 = (.bool (decide (0 < a1))) := (hd213 14 rfl)
        have d219 : s209 39 = (.int .i64 (IntKind.wrap .i64 (a1 - 1))) := ((hd213 17 rfl).1 b215)
        exact L_op (.guard 14 true 36 rfl rfl (ltb rfl) (d217.trans (congrArg Value.bool g216))) rfl (ltb rfl) (X_max d219 rfl) <| L_nil <| stepEnd rfl rfl (Ext.refl w210) ⟨fun _ => rfl, fun h => absurd (b215.symm.trans h) (by decide)⟩
      · have d220 : s209 36 = (.bool (decide (0 < a1))) := (hd213 14 rfl)
        have g221 : (decide (0 < a1)) = false := b215
        exact L_skip rfl rfl (ltb rfl) (d220.trans (congrArg Value.bool g221)) rfl rfl (ltb rfl) <| L_nil <| stepEnd rfl rfl (Ext.refl w210) ⟨fun h => absurd (b215.symm.trans h) (by decide), fun _ => rfl⟩
    · intro s222 w223 e224 hf225 hd226 hu227
      rcases bool_two (decide (0 < a1)) with b228 | b228
      · have g229 : (decide (0 < a1)) = true := b228
        have d230 : s222 36 = (.bool (decide (0 < a1))) := (hd226 14 rfl)
        have d231 : s222 36 = (.bool (decide (0 < a1))) := (hd226 14 rfl)
        have d232 : s222 37 = v_a0 := ((hd226 15 rfl).1 b228)
        have d233 : s222 40 = (.int .i64 (impl_faultAt.e3 a1)) := ((hd226 18 rfl).1 b228)
        have c234 := imp_take b228 c40
        exact L_idx (.guard 14 true 36 rfl rfl (ltb rfl) (d230.trans (congrArg Value.bool g229))) rfl (ltb rfl) rfl Tryz.underlying28 Tryz.sizeOf78 d232 (Rd.ext f_a0 (Ext.trans (Ext.trans (Ext.trans (Below.trans e8 (Wr.below h11 (Nat.le_of_eq z6))) e15) e30) e224)) d233 c234 <| fun p235 h236 => L_nil <| stepEnd rfl rfl (Ext.refl w223) ⟨fun _ => ⟨_, rfl, h236⟩, fun h => absurd (b228.symm.trans h) (by decide)⟩
      · have d237 : s222 36 = (.bool (decide (0 < a1))) := (hd226 14 rfl)
        have g238 : (decide (0 < a1)) = false := b228
        exact L_skip rfl rfl (ltb rfl) (d237.trans (congrArg Value.bool g238)) rfl rfl (ltb rfl) <| L_nil <| stepEnd rfl rfl (Ext.refl w223) ⟨fun h => absurd (b228.symm.trans h) (by decide), fun _ => rfl⟩
    · intro s239 w240 e241 hf242 hd243 hu244
      rcases bool_two (decide (0 < a1)) with b245 | b245
      · have g246 : (decide (0 < a1)) = true := b245
        have d247 : s239 36 = (.bool (decide (0 < a1))) := (hd243 14 rfl)
        have d248 : s239 36 = (.bool (decide (0 < a1))) := (hd243 14 rfl)
        obtain ⟨p249, h250, h251⟩ := ((hd243 19 rfl).1 b245)
        exact L_op (.guard 14 true 36 rfl rfl (ltb rfl) (d247.trans (congrArg Value.bool g246))) rfl (ltb rfl) (X_fieldAddr Tryz.underlying78 rfl Tryz.sizeOf9 rfl h250) <| L_nil <| stepEnd rfl rfl (Ext.refl w240) ⟨fun _ => ⟨_, rfl, h251⟩, fun h => absurd (b245.symm.trans h) (by decide)⟩
      · have d252 : s239 36 = (.bool (decide (0 < a1))) := (hd243 14 rfl)
        have g253 : (decide (0 < a1)) = false := b245
        exact L_skip rfl rfl (ltb rfl) (d252.trans (congrArg Value.bool g253)) rfl rfl (ltb rfl) <| L_nil <| stepEnd rfl rfl (Ext.refl w240) ⟨fun h => absurd (b245.symm.trans h) (by decide), fun _ => rfl⟩
    · intro s254 w255 e256 hf257 hd258 hu259
      rcases bool_two (decide (0 < a1)) with b260 | b260
      · have g261 : (decide (0 < a1)) = true := b260
        have d262 : s254 36 = (.bool (decide (0 < a1))) := (hd258 14 rfl)
        have d263 : s254 36 = (.bool (decide (0 < a1))) := (hd258 14 rfl)
        obtain ⟨p264, h265, h266⟩ := ((hd258 20 rfl).1 b260)
        exact L_op (.guard 14 true 36 rfl rfl (ltb rfl) (d262.trans (congrArg Value.bool g261))) rfl (ltb rfl) (X_loadF Tryz.isAgg9 (j := 1) h266 h265 rfl) <| L_nil <| stepEnd rfl rfl (Ext.refl w255) ⟨fun _ => rfl, fun h => absurd (b260.symm.trans h) (by decide)⟩
      · have d267 : s254 36 = (.bool (decide (0 < a1))) := (hd258 14 rfl)
        have g268 : (decide (0 < a1)) = false := b260
        exact L_skip rfl rfl (ltb rfl) (d267.trans (congrArg Value.bool g268)) rfl rfl (ltb rfl) <| L_nil <| stepEnd rfl rfl (Ext.refl w255) ⟨fun h => absurd (b260.symm.trans h) (by decide), fun _ => rfl⟩
    · intro s269 w270 e271 hf272 hd273 hu274
      rcases bool_two (decide (0 < a1)) with b275 | b275
      · have g276 : (decide (0 < a1)) = true := b275
        have d277 : s269 36 = (.bool (decide (0 < a1))) := (hd273 14 rfl)
        have d278 : s269 36 = (.bool (decide (0 < a1))) := (hd273 14 rfl)
        exact L_op (.guard 14 true 36 rfl rfl (ltb rfl) (d277.trans (congrArg Value.bool g276))) rfl (ltb rfl) (X_fieldAddr Tryz.underlying78 rfl Tryz.sizeOf9 rfl ((hf272 5 rfl).trans (K29 5 rfl))) <| L_nil <| stepEnd rfl rfl (Ext.refl w270) ⟨fun _ => rfl, fun h => absurd (b275.symm.trans h) (by decide)⟩
      · have d279 : s269 36 = (.bool (decide (0 < a1))) := (hd273 14 rfl)
        have g280 : (decide (0 < a1)) = false := b275
        exact L_skip rfl rfl (ltb rfl) (d279.trans (congrArg Value.bool g280)) rfl rfl (ltb rfl) <| L_nil <| stepEnd rfl rfl (Ext.refl w270) ⟨fun h => absurd (b275.symm.trans h) (by decide), fun _ => rfl⟩
    · intro s281 w282 e283 hf284 hd285 hu286
      rcases bool_two (decide (0 < a1)) with b287 | b287
      · have g288 : (decide (0 < a1)) = true := b287
        have d289 : s281 36 = (.bool (decide (0 < a1))) := (hd285 14 rfl)
        have d290 : s281 36 = (.bool (decide (0 < a1))) := (hd285 14 rfl)
        have d291 : s281 44 = (.pointer (some ⟨b4, 1, none⟩)) := ((hd285 22 rfl).1 b287)
        exact L_op (.guard 14 true 36 rfl rfl (ltb rfl) (d289.trans (congrArg Value.bool g288))) rfl (ltb rfl) (X_loadB Tryz.isAgg9 (Blk.ext k12 (Ext.trans (Ext.trans e15 e30) e283)) d291 rfl) <| L_nil <| stepEnd rfl rfl (Ext.refl w282) ⟨fun _ => rfl, fun h => absurd (b287.symm.trans h) (by decide)⟩
      · have d292 : s281 36 = (.bool (decide (0 < a1))) := (hd285 14 rfl)
        have g293 : (decide (0 < a1)) = false := b287
        exact L_skip rfl rfl (ltb rfl) (d292.trans (congrArg Value.bool g293)) rfl rfl (ltb rfl) <| L_nil <| stepEnd rfl rfl (Ext.refl w282) ⟨fun h => absurd (b287.symm.trans h) (by decide), fun _ => rfl⟩
    · intro s294 w295 e296 hf297 hd298 hu299
      rcases bool_two (decide (0 < a1)) with b300 | b300
      · have g301 : (decide (0 < a1)) = true := b300
        have d302 : s294 36 = (.bool (decide (0 < a1))) := (hd298 14 rfl)
        have d303 : s294 36 = (.bool (decide (0 < a1))) := (hd298 14 rfl)
        have d304 : s294 43 = (S ((gt a0 (impl_faultAt.e3 a1)).path)) := ((hd298 21 rfl).1 b300)
        have d305 : s294 45 = (S ((gt a0 a1).path)) := ((hd298 23 rfl).1 b300)
        exact L_op (.guard 14 true 36 rfl rfl (ltb rfl) (d302.trans (congrArg Value.bool g301))) rfl (ltb rfl) (X_seq d304 d305) <| L_nil <| stepEnd rfl rfl (Ext.refl w295) ⟨fun _ => rfl, fun h => absurd (b300.symm.trans h) (by decide)⟩
      · have d306 : s294 36 = (.bool (decide (0 < a1))) := (hd298 14 rfl)
        have g307 : (decide (0 < a1)) = false := b300
        exact L_skip rfl rfl (ltb rfl) (d306.trans (congrArg Value.bool g307)) rfl rfl (ltb rfl) <| L_nil <| stepEnd rfl rfl (Ext.refl w295) ⟨fun h => absurd (b300.symm.trans h) (by decide), fun _ => rfl⟩
    · intro s308 w309 e310 hf311 hd312 hu313
      rcases bool_two (decide (0 < a1)) with b314 | b314
      · have d315 : s308 36 = (.bool (decide (0 < a1))) := (hd312 14 rfl)
        have d316 : s308 46 = (.bool (impl_faultAt.e7 a0 a1)) := ((hd312 24 rfl).1 b314)
        exact L_op (.plain rfl) rfl (ltb rfl) (X_pick (b := true) (v := (.bool (impl_faultAt.e7 a0 a1))) (d315.trans (congrArg Value.bool b314)) d316) <| L_nil <| stepEnd rfl rfl (Ext.refl w309) (and_t b314)
      · have d317 : s308 36 = (.bool (decide (0 < a1))) := (hd312 14 rfl)
        exact L_op (.plain rfl) rfl (ltb rfl) (X_pick (b := false) (v := (.bool false)) (d317.trans (congrArg Value.bool b314)) rfl) <| L_nil <| stepEnd rfl rfl (Ext.refl w309) (and_f b314)
    · intro s318 w319 e320 hf321 hd322 hu323
      have d324 : s318 47 = (.bool ((decide (0 < a1)) && (impl_faultAt.e7 a0 a1))) := (hd322 25 rfl)
      exact L_op (.plain rfl) rfl (ltb rfl) (X_mkiface Tryz.underlying4 rfl d324) <| L_nil <| stepEnd rfl rfl (Ext.refl w319) rfl
    · intro s325 w326 e327 hf328 hd329 hu330
      exact L_op (.plain rfl) rfl (ltb rfl) (X_mkiface Tryz.underlying3 rfl rfl) <| L_nil <| stepEnd rfl rfl (Ext.refl w326) rfl
    · intro s331 w332 e333 hf334 hd335 hu336
      exact L_op (.plain rfl) rfl (ltb rfl) (X_move (v := (.int .i64 a1)) ((hf334 1 rfl).trans (K29 1 rfl))) <| L_nil <| stepEnd rfl rfl (Ext.refl w332) rfl
    · intro s337 w338 e339 hf340 hd341 hu342
      have d343 : s337 50 = (.int .i64 a1) := (hd341 28 rfl)
      exact L_op (.plain rfl) rfl (ltb rfl) (X_gtr d343 rfl) <| L_nil <| stepEnd rfl rfl (Ext.refl w338) rfl
    · intro s344 w345 e346 hf347 hd348 hu349
      have d350 : s344 51 = (.bool (decide (0 < a1))) := (hd348 29 rfl)
      exact L_op (.plain rfl) rfl (ltb rfl) (X_move (v := (.bool (decide (0 < a1)))) d350) <| L_nil <| stepEnd rfl rfl (Ext.refl w345) rfl
    · intro s351 w352 e353 hf354 hd355 hu356
      rcases bool_two (decide (0 < a1)) with b357 | b357
      · have g358 : (decide (0 < a1)) = true := b357
        have d359 : s351 52 = (.bool (decide (0 < a1))) := (hd355 30 rfl)
        have d360 : s351 52 = (.bool (decide (0 < a1))) := (hd355 30 rfl)
        exact L_op (.guard 30 true 52 rfl rfl (ltb rfl) (d359.trans (congrArg Value.bool g358))) rfl (ltb rfl) (X_move (v := v_a0) ((hf354 0 rfl).trans (K29 0 rfl))) <| L_nil <| stepEnd rfl rfl (Ext.refl w352) ⟨fun _ => rfl, fun h => absurd (b357.symm.trans h) (by decide)⟩
      · have d361 : s351 52 = (.bool (decide (0 < a1))) := (hd355 30 rfl)
        have g362 : (decide (0 < a1)) = false := b357
        exact L_skip rfl rfl (ltb rfl) (d361.trans (congrArg Value.bool g362)) rfl rfl (ltb rfl) <| L_nil <| stepEnd rfl rfl (Ext.refl w352) ⟨fun h => absurd (b357.symm.trans h) (by decide), fun _ => rfl⟩
    · intro s363 w364 e365 hf366 hd367 hu368
      rcases bool_two (decide (0 < a1)) with b369 | b369
      · have g370 : (decide (0 < a1)) = true := b369
        have d371 : s363 52 = (.bool (decide (0 < a1))) := (hd367 30 rfl)
        have d372 : s363 52 = (.bool (decide (0 < a1))) := (hd367 30 rfl)
        exact L_op (.guard 30 true 52 rfl rfl (ltb rfl) (d371.trans (congrArg Value.bool g370))) rfl (ltb rfl) (X_move (v := (.int .i64 a1)) ((hf366 1 rfl).trans (K29 1 rfl))) <| L_nil <| stepEnd rfl rfl (Ext.refl w364) ⟨fun _ => rfl, fun h => absurd (b369.symm.trans h) (by decide)⟩
      · have d373 : s363 52 = (.bool (decide (0 < a1))) := (hd367 30 rfl)
        have g374 : (decide (0 < a1)) = false := b369
        exact L_skip rfl rfl (ltb rfl) (d373.trans (congrArg Value.bool g374)) rfl rfl (ltb rfl) <| L_nil <| stepEnd rfl rfl (Ext.refl w364) ⟨fun h => absurd (b369.symm.trans h) (by decide), fun _ => rfl⟩
    · intro s375 w376 e377 hf378 hd379 hu380
      rcases bool_two (decide (0 < a1)) with b381 | b381
      · have g382 : (decide (0 < a1)) = true := b381
        have d383 : s375 52 = (.bool (decide (0 < a1))) := (hd379 30 rfl)
        have d384 : s375 52 = (.bool (decide (0 < a1))) := (hd379 30 rfl)
        have d385 : s375 54 = (.int .i64 a1) := ((hd379 32 rfl).1 b381)
        exact L_op (.guard 30 true 52 rfl rfl (ltb rfl) (d383.trans (congrArg Value.bool g382))) rfl (ltb rfl) (X_sub d385 rfl) <| L_nil <| stepEnd rfl rfl (Ext.refl w376) ⟨fun _ => rfl, fun h => absurd (b381.symm.trans h) (by decide)⟩
      · have d386 : s375 52 = (.bool (decide (0 < a1))) := (hd379 30 rfl)
        have g387 : (decide (0 < a1)) = false := b381
        exact L_skip rfl rfl (ltb rfl) (d386.trans (congrArg Value.bool g387)) rfl rfl (ltb rfl) <| L_nil <| stepEnd rfl rfl (Ext.refl w376) ⟨fun h => absurd (b381.symm.trans h) (by decide), fun _ => rfl⟩
    · intro s388 w389 e390 hf391 hd392 hu393
      rcases bool_two (decide (0 < a1)) with b394 | b394
      · have g395 : (decide (0 < a1)) = true := b394
        have d396 : s388 52 = (.bool (decide (0 < a1))) := (hd392 30 rfl)
        have d397 : s388 52 = (.bool (decide (0 < a1))) := (hd392 30 rfl)
        have d398 : s388 55 = (.int .i64 (IntKind.wrap .i64 (a1 - 1))) := ((hd392 33 rfl).1 b394)
        exact L_op (.guard 30 true 52 rfl rfl (ltb rfl) (d396.trans (congrArg Value.bool g395))) rfl (ltb rfl) (X_max d398 rfl) <| L_nil <| stepEnd rfl rfl (Ext.refl w389) ⟨fun _ => rfl, fun h => absurd (b394.symm.trans h) (by decide)⟩
      · have d399 : s388 52 = (.bool (decide (0 < a1))) := (hd392 30 rfl)
        have g400 : (decide (0 < a1)) = false := b394
        exact L_skip rfl rfl (ltb rfl) (d399.trans (congrArg Value.bool g400)) rfl rfl (ltb rfl) <| L_nil <| stepEnd rfl rfl (Ext.refl w389) ⟨fun h => absurd (b394.symm.trans h) (by decide), fun _ => rfl⟩
    · intro s401 w402 e403 hf404 hd405 hu406
      rcases bool_two (decide (0 < a1)) with b407 | b407
      · have g408 : (decide (0 < a1)) = true := b407
        have d409 : s401 52 = (.bool (decide (0 < a1))) := (hd405 30 rfl)
        have d410 : s401 52 = (.bool (decide (0 < a1))) := (hd405 30 rfl)
        have d411 : s401 53 = v_a0 := ((hd405 31 rfl).1 b407)
        have d412 : s401 56 = (.int .i64 (impl_faultAt.e3 a1)) := ((hd405 34 rfl).1 b407)
        have c413 := imp_take b407 c40
        exact L_idx (.guard 30 true 52 rfl rfl (ltb rfl) (d409.trans (congrArg Value.bool g408))) rfl (ltb rfl) rfl Tryz.underlying28 Tryz.sizeOf78 d411 (Rd.ext f_a0 (Ext.trans (Ext.trans (Ext.trans (Below.trans e8 (Wr.below h11 (Nat.le_of_eq z6))) e15) e30) e403)) d412 c413 <| fun p414 h415 => L_nil <| stepEnd rfl rfl (Ext.refl w402) ⟨fun _ => ⟨_, rfl, h415⟩, fun h => absurd (b407.symm.trans h) (by decide)⟩
      · have d416 : s401 52 = (.bool (decide (0 < a1))) := (hd405 30 rfl)
        have g417 : (decide (0 < a1)) = false := b407
        exact L_skip rfl rfl (ltb rfl) (d416.trans (congrArg Value.bool g417)) rfl rfl (ltb rfl) <| L_nil <| stepEnd rfl rfl (Ext.refl w402) ⟨fun h => absurd (b407.symm.trans h) (by decide), fun _ => rfl⟩
    · intro s418 w419 e420 hf421 hd422 hu423
      rcases bool_two (decide (0 < a1)) with b424 | b424
      · have g425 : (decide (0 < a1)) = true := b424
        have d426 : s418 52 = (.bool (decide (0 < a1))) := (hd422 30 rfl)
        have d427 : s418 52 = (.bool (decide (0 < a1))) := (hd422 30 rfl)
        obtain ⟨p428, h429, h430⟩ := ((hd422 35 rfl).1 b424)
        exact L_op (.guard 30 true 52 rfl rfl (ltb rfl) (d426.trans (congrArg Value.bool g425))) rfl (ltb rfl) (X_fieldAddr Tryz.underlying78 rfl Tryz.sizeOf9 rfl h429) <| L_nil <| stepEnd rfl rfl (Ext.refl w419) ⟨fun _ => ⟨_, rfl, h430⟩, fun h => absurd (b424.symm.trans h) (by decide)⟩
      · have d431 : s418 52 = (.bool (decide (0 < a1))) := (hd422 30 rfl)
        have g432 : (decide (0 < a1)) = false := b424
        exact L_skip rfl rfl (ltb rfl) (d431.trans (congrArg Value.bool g432)) rfl rfl (ltb rfl) <| L_nil <| stepEnd rfl rfl (Ext.refl w419) ⟨fun h => absurd (b424.symm.trans h) (by decide), fun _ => rfl⟩
    · intro s433 w434 e435 hf436 hd437 hu438
      rcases bool_two (decide (0 < a1)) with b439 | b439
      · have g440 : (decide (0 < a1)) = true := b439
        have d441 : s433 52 = (.bool (decide (0 < a1))) := (hd437 30 rfl)
        have d442 : s433 52 = (.bool (decide (0 < a1))) := (hd437 30 rfl)
        obtain ⟨p443, h444, h445⟩ := ((hd437 36 rfl).1 b439)
        exact L_op (.guard 30 true 52 rfl rfl (ltb rfl) (d441.trans (congrArg Value.bool g440))) rfl (ltb rfl) (X_loadF Tryz.isAgg9 (j := 1) h445 h444 rfl) <| L_nil <| stepEnd rfl rfl (Ext.refl w434) ⟨fun _ => rfl, fun h => absurd (b439.symm.trans h) (by decide)⟩
      · have d446 : s433 52 = (.bool (decide (0 < a1))) := (hd437 30 rfl)
        have g447 : (decide (0 < a1)) = false := b439
        exact L_skip rfl rfl (ltb rfl) (d446.trans (congrArg Value.bool g447)) rfl rfl (ltb rfl) <| L_nil <| stepEnd rfl rfl (Ext.refl w434) ⟨fun h => absurd (b439.symm.trans h) (by decide), fun _ => rfl⟩
    · intro s448 w449 e450 hf451 hd452 hu453
      rcases bool_two (decide (0 < a1)) with b454 | b454
      · have g455 : (decide (0 < a1)) = true := b454
        have d456 : s448 52 = (.bool (decide (0 < a1))) := (hd452 30 rfl)
        have d457 : s448 52 = (.bool (decide (0 < a1))) := (hd452 30 rfl)
        exact L_op (.guard 30 true 52 rfl rfl (ltb rfl) (d456.trans (congrArg Value.bool g455))) rfl (ltb rfl) (X_fieldAddr Tryz.underlying78 rfl Tryz.sizeOf9 rfl ((hf451 5 rfl).trans (K29 5 rfl))) <| L_nil <| stepEnd rfl rfl (Ext.refl w449) ⟨fun _ => rfl, fun h => absurd (b454.symm.trans h) (by decide)⟩
      · have d458 : s448 52 = (.bool (decide (0 < a1))) := (hd452 30 rfl)
        have g459 : (decide (0 < a1)) = false := b454
        exact L_skip rfl rfl (ltb rfl) (d458.trans (congrArg Value.bool g459)) rfl rfl (ltb rfl) <| L_nil <| stepEnd rfl rfl (Ext.refl w449) ⟨fun h => absurd (b454.symm.trans h) (by decide), fun _ => rfl⟩
    · intro s460 w461 e462 hf463 hd464 hu465
      rcases bool_two (decide (0 < a1)) with b466 | b466
      · have g467 : (decide (0 < a1)) = true := b466
        have d468 : s460 52 = (.bool (decide (0 < a1))) := (hd464 30 rfl)
        have d469 : s460 52 = (.bool (decide (0 < a1))) := (hd464 30 rfl)
        have d470 : s460 60 = (.pointer (some ⟨b4, 1, none⟩)) := ((hd464 38 rfl).1 b466)
        exact L_op (.guard 30 true 52 rfl rfl (ltb rfl) (d468.trans (congrArg Value.bool g467))) rfl (ltb rfl) (X_loadB Tryz.isAgg9 (Blk.ext k12 (Ext.trans (Ext.trans e15 e30) e462)) d470 rfl) <| L_nil <| stepEnd rfl rfl (Ext.refl w461) ⟨fun _ => rfl, fun h => absurd (b466.symm.trans h) (by decide)⟩
      · have d471 : s460 52 = (.bool (decide (0 < a1))) := (hd464 30 rfl)
        have g472 : (decide (0 < a1)) = false := b466
        exact L_skip rfl rfl (ltb rfl) (d471.trans (congrArg Value.bool g472)) rfl rfl (ltb rfl) <| L_nil <| stepEnd rfl rfl (Ext.refl w461) ⟨fun h => absurd (b466.symm.trans h) (by decide), fun _ => rfl⟩
    · intro s473 w474 e475 hf476 hd477 hu478
      rcases bool_two (decide (0 < a1)) with b479 | b479
      · have g480 : (decide (0 < a1)) = true := b479
        have d481 : s473 52 = (.bool (decide (0 < a1))) := (hd477 30 rfl)
        have d482 : s473 52 = (.bool (decide (0 < a1))) := (hd477 30 rfl)
        have d483 : s473 59 = (S ((gt a0 (impl_faultAt.e3 a1)).path)) := ((hd477 37 rfl).1 b479)
        have d484 : s473 61 = (S ((gt a0 a1).path)) := ((hd477 39 rfl).1 b479)
        exact L_callP (.guard 30 true 52 rfl rfl (ltb rfl) (d481.trans (congrArg Value.bool g480))) rfl (ltb rfl) rfl Tryz.call118 (impl_PathLess.calls (w := w474) (a0 := (gt a0 (impl_faultAt.e3 a1)).path) (a1 := (gt a0 a1).path) (GV.ext gv (Ext.trans (Ext.trans (Ext.trans (Below.trans e8 (Wr.below h11 (Nat.le_of_eq z6))) e15) e30) e475))) (cons2 d483 (cons2 d484 rfl)) <| fun w485 e486 => L_nil <| stepEnd rfl rfl e486 ⟨fun _ => rfl, fun h => absurd (b479.symm.trans h) (by decide)⟩
      · have d487 : s473 52 = (.bool (decide (0 < a1))) := (hd477 30 rfl)
        have g488 : (decide (0 < a1)) = false := b479
        exact L_skip rfl rfl (ltb rfl) (d487.trans (congrArg Value.bool g488)) rfl rfl (ltb rfl) <| L_nil <| stepEnd rfl rfl (Ext.refl w474) ⟨fun h => absurd (b479.symm.trans h) (by decide), fun _ => rfl⟩
    · intro s489 w490 e491 hf492 hd493 hu494
      rcases bool_two (decide (0 < a1)) with b495 | b495
      · have g496 : (decide (0 < a1)) = true := b495
        have d497 : s489 52 = (.bool (decide (0 < a1))) := (hd493 30 rfl)
        have d498 : s489 52 = (.bool (decide (0 < a1))) := (hd493 30 rfl)
        have d499 : s489 62 = (.bool (impl_faultAt.e5 a0 a1)) := ((hd493 40 rfl).1 b495)
        exact L_op (.guard 30 true 52 rfl rfl (ltb rfl) (d497.trans (congrArg Value.bool g496))) rfl (ltb rfl) (X_not d499) <| L_nil <| stepEnd rfl rfl (Ext.refl w490) ⟨fun _ => rfl, fun h => absurd (b495.symm.trans h) (by decide)⟩
      · have d500 : s489 52 = (.bool (decide (0 < a1))) := (hd493 30 rfl)
        have g501 : (decide (0 < a1)) = false := b495
        exact L_skip rfl rfl (ltb rfl) (d500.trans (congrArg Value.bool g501)) rfl rfl (ltb rfl) <| L_nil <| stepEnd rfl rfl (Ext.refl w490) ⟨fun h => absurd (b495.symm.trans h) (by decide), fun _ => rfl⟩
    · intro s502 w503 e504 hf505 hd506 hu507
      rcases bool_two (decide (0 < a1)) with b508 | b508
      · have d509 : s502 52 = (.bool (decide (0 < a1))) := (hd506 30 rfl)
        have d510 : s502 63 = (.bool (!(impl_faultAt.e5 a0 a1))) := ((hd506 41 rfl).1 b508)
        exact L_op (.plain rfl) rfl (ltb rfl) (X_pick (b := true) (v := (.bool (!(impl_faultAt.e5 a0 a1)))) (d509.trans (congrArg Value.bool b508)) d510) <| L_nil <| stepEnd rfl rfl (Ext.refl w503) (and_t b508)
      · have d511 : s502 52 = (.bool (decide (0 < a1))) := (hd506 30 rfl)
        exact L_op (.plain rfl) rfl (ltb rfl) (X_pick (b := false) (v := (.bool false)) (d511.trans (congrArg Value.bool b508)) rfl) <| L_nil <| stepEnd rfl rfl (Ext.refl w503) (and_f b508)
    · intro s512 w513 e514 hf515 hd516 hu517
      have d518 : s512 64 = (.bool ((decide (0 < a1)) && (!(impl_faultAt.e5 a0 a1)))) := (hd516 42 rfl)
      exact L_op (.plain rfl) rfl (ltb rfl) (X_mkiface Tryz.underlying4 rfl d518) <| L_nil <| stepEnd rfl rfl (Ext.refl w513) rfl
    · intro s519 w520 e521 hf522 hd523 hu524
      exact L_op (.plain rfl) rfl (ltb rfl) (X_mkiface Tryz.underlying3 rfl rfl) <| L_nil <| stepEnd rfl rfl (Ext.refl w520) rfl
    · intro s525 w526 e527 hf528 hd529 hu530
      exact L_op (.plain rfl) rfl (ltb rfl) (X_move (v := (.int .i64 x6_19)) ((hf528 6 rfl).trans h32)) <| L_nil <| stepEnd rfl rfl (Ext.refl w526) rfl
    · intro s531 w532 e533 hf534 hd535 hu536
      have d537 : s531 67 = (.int .i64 x6_19) := (hd535 45 rfl)
      exact L_op (.plain rfl) rfl (ltb rfl) (X_lss d537 rfl) <| L_nil <| stepEnd rfl rfl (Ext.refl w532) rfl
    · intro s538 w539 e540 hf541 hd542 hu543
      have d544 : s538 68 = (.bool (decide (x6_19 < 0))) := (hd542 46 rfl)
      exact L_op (.plain rfl) rfl (ltb rfl) (X_mkiface Tryz.underlying4 rfl d544) <| L_nil <| stepEnd rfl rfl (Ext.refl w539) rfl
    · intro s545 w546 e547 hf548 hd549 hu550
      exact L_op (.plain rfl) rfl (ltb rfl) (X_mkiface Tryz.underlying3 rfl rfl) <| L_nil <| stepEnd rfl rfl (Ext.refl w546) rfl
    · intro s551 w552 e553 hf554 hd555 hu556
      exact L_op (.plain rfl) rfl (ltb rfl) (X_fieldAddr Tryz.underlying78 rfl Tryz.sizeOf9 rfl ((hf554 5 rfl).trans (K29 5 rfl))) <| L_nil <| stepEnd rfl rfl (Ext.refl w552) rfl
    · intro s557 w558 e559 hf560 hd561 hu562
      have d563 : s557 71 = (.pointer (some ⟨b4, 1, none⟩)) := (hd561 49 rfl)
      exact L_op (.plain rfl) rfl (ltb rfl) (X_loadB Tryz.isAgg9 (Blk.ext k12 (Ext.trans (Ext.trans e15 e30) e559)) d563 rfl) <| L_nil <| stepEnd rfl rfl (Ext.refl w558) rfl
    · intro s564 w565 e566 hf567 hd568 hu569
      have d570 : s564 72 = (S ((gt a0 a1).path)) := (hd568 50 rfl)
      have c571 := c45
      exact L_callP (.plain rfl) rfl (ltb rfl) rfl Tryz.call120 (impl_parent.calls (w := w565) (a0 := (gt a0 a1).path) (of_decide_eq_true c571)) (cons2 d570 rfl) <| fun w572 e573 => L_nil <| stepEnd rfl rfl e573 rfl
    · intro s574 w575 e576 hf577 hd578 hu579
      have d580 : s574 73 = (S (parentP ((gt a0 a1).path))) := (hd578 51 rfl)
      exact L_op (.plain rfl) rfl (ltb rfl) (X_sne d580 rfl) <| L_nil <| stepEnd rfl rfl (Ext.refl w575) rfl
    · intro s581 w582 e583 hf584 hd585 hu586
      have d587 : s581 74 = (.bool (impl_faultAt.e2 a0 a1)) := (hd585 52 rfl)
      exact L_op (.plain rfl) rfl (ltb rfl) (X_move (v := (.bool (impl_faultAt.e2 a0 a1))) d587) <| L_nil <| stepEnd rfl rfl (Ext.refl w582) rfl
    · intro s588 w589 e590 hf591 hd592 hu593
      rcases bool_two (impl_faultAt.e2 a0 a1) with b594 | b594
      · have g595 : (impl_faultAt.e2 a0 a1) = true := b594
        have d596 : s588 75 = (.bool (impl_faultAt.e2 a0 a1)) := (hd592 53 rfl)
        have d597 : s588 75 = (.bool (impl_faultAt.e2 a0 a1)) := (hd592 53 rfl)
        exact L_op (.guard 53 true 75 rfl rfl (ltb rfl) (d596.trans (congrArg Value.bool g595))) rfl (ltb rfl) (X_move (v := v_a0) ((hf591 0 rfl).trans (K29 0 rfl))) <| L_nil <| stepEnd rfl rfl (Ext.refl w589) ⟨fun _ => rfl, fun h => absurd (b594.symm.trans h) (by decide)⟩
      · have d598 : s588 75 = (.bool (impl_faultAt.e2 a0 a1)) := (hd592 53 rfl)
        have g599 : (impl_faultAt.e2 a0 a1) = false := b594
        exact L_skip rfl rfl (ltb rfl) (d598.trans (congrArg Value.bool g599)) rfl rfl (ltb rfl) <| L_nil <| stepEnd rfl rfl (Ext.refl w589) ⟨fun h => absurd (b594.symm.trans h) (by decide), fun _ => rfl⟩
    · intro s600 w601 e602 hf603 hd604 hu605
      rcases bool_two (impl_faultAt.e2 a0 a1) with b606 | b606
      · have g607 : (impl_faultAt.e2 a0 a1) = true := b606
        have d608 : s600 75 = (.bool (impl_faultAt.e2 a0 a1)) := (hd604 53 rfl)
        have d609 : s600 75 = (.bool (impl_faultAt.e2 a0 a1)) := (hd604 53 rfl)
        exact L_op (.guard 53 true 75 rfl rfl (ltb rfl) (d608.trans (congrArg Value.bool g607))) rfl (ltb rfl) (X_move (v := (.int .i64 x6_19)) ((hf603 6 rfl).trans h32)) <| L_nil <| stepEnd rfl rfl (Ext.refl w601) ⟨fun _ => rfl, fun h => absurd (b606.symm.trans h) (by decide)⟩
      · have d610 : s600 75 = (.bool (impl_faultAt.e2 a0 a1)) := (hd604 53 rfl)
        have g611 : (impl_faultAt.e2 a0 a1) = false := b606
        exact L_skip rfl rfl (ltb rfl) (d610.trans (congrArg Value.bool g611)) rfl rfl (ltb rfl) <| L_nil <| stepEnd rfl rfl (Ext.refl w601) ⟨fun h => absurd (b606.symm.trans h) (by decide), fun _ => rfl⟩
    · intro s612 w613 e614 hf615 hd616 hu617
      rcases bool_two (impl_faultAt.e2 a0 a1) with b618 | b618
      · have g619 : (impl_faultAt.e2 a0 a1) = true := b618
        have d620 : s612 75 = (.bool (impl_faultAt.e2 a0 a1)) := (hd616 53 rfl)
        have d621 : s612 75 = (.bool (impl_faultAt.e2 a0 a1)) := (hd616 53 rfl)
        have d622 : s612 77 = (.int .i64 x6_19) := ((hd616 55 rfl).1 b618)
        exact L_op (.guard 53 true 75 rfl rfl (ltb rfl) (d620.trans (congrArg Value.bool g619))) rfl (ltb rfl) (X_max d622 rfl) <| L_nil <| stepEnd rfl rfl (Ext.refl w613) ⟨fun _ => rfl, fun h => absurd (b618.symm.trans h) (by decide)⟩
      · have d623 : s612 75 = (.bool (impl_faultAt.e2 a0 a1)) := (hd616 53 rfl)
        have g624 : (impl_faultAt.e2 a0 a1) = false := b618
        exact L_skip rfl rfl (ltb rfl) (d623.trans (congrArg Value.bool g624)) rfl rfl (ltb rfl) <| L_nil <| stepEnd rfl rfl (Ext.refl w613) ⟨fun h => absurd (b618.symm.trans h) (by decide), fun _ => rfl⟩
    · intro s625 w626 e627 hf628 hd629 hu630
      rcases bool_two (impl_faultAt.e2 a0 a1) with b631 | b631
      · have g632 : (impl_faultAt.e2 a0 a1) = true := b631
        have d633 : s625 75 = (.bool (impl_faultAt.e2 a0 a1)) := (hd629 53 rfl)
        have d634 : s625 75 = (.bool (impl_faultAt.e2 a0 a1)) := (hd629 53 rfl)
        have d635 : s625 76 = v_a0 := ((hd629 54 rfl).1 b631)
        have d636 : s625 78 = (.int .i64 (if (x6_19 < 0 : Prop) then 0 else x6_19)) := ((hd629 56 rfl).1 b631)
        have c637 := imp_take b631 c48
        exact L_idx (.guard 53 true 75 rfl rfl (ltb rfl) (d633.trans (congrArg Value.bool g632))) rfl (ltb rfl) rfl Tryz.underlying28 Tryz.sizeOf78 d635 (Rd.ext f_a0 (Ext.trans (Ext.trans (Ext.trans (Below.trans e8 (Wr.below h11 (Nat.le_of_eq z6))) e15) e30) e627)) d636 c637 <| fun p638 h639 => L_nil <| stepEnd rfl rfl (Ext.refl w626) ⟨fun _ => ⟨_, rfl, h639⟩, fun h => absurd (b631.symm.trans h) (by decide)⟩
      · have d640 : s625 75 = (.bool (impl_faultAt.e2 a0 a1)) := (hd629 53 rfl)
        have g641 : (impl_faultAt.e2 a0 a1) = false := b631
        exact L_skip rfl rfl (ltb rfl) (d640.trans (congrArg Value.bool g641)) rfl rfl (ltb rfl) <| L_nil <| stepEnd rfl rfl (Ext.refl w626) ⟨fun h => absurd (b631.symm.trans h) (by decide), fun _ => rfl⟩
    · intro s642 w643 e644 hf645 hd646 hu647
      rcases bool_two (impl_faultAt.e2 a0 a1) with b648 | b648
      · have g649 : (impl_faultAt.e2 a0 a1) = true := b648
        have d650 : s642 75 = (.bool (impl_faultAt.e2 a0 a1)) := (hd646 53 rfl)
        have d651 : s642 75 = (.bool (impl_faultAt.e2 a0 a1)) := (hd646 53 rfl)
        obtain ⟨p652, h653, h654⟩ := ((hd646 57 rfl).1 b648)
        exact L_op (.guard 53 true 75 rfl rfl (ltb rfl) (d650.trans (congrArg Value.bool g649))) rfl (ltb rfl) (X_fieldAddr Tryz.underlying78 rfl Tryz.sizeOf3 rfl h653) <| L_nil <| stepEnd rfl rfl (Ext.refl w643) ⟨fun _ => ⟨_, rfl, h654⟩, fun h => absurd (b648.symm.trans h) (by decide)⟩
      · have d655 : s642 75 = (.bool (impl_faultAt.e2 a0 a1)) := (hd646 53 rfl)
        have g656 : (impl_faultAt.e2 a0 a1) = false := b648
        exact L_skip rfl rfl (ltb rfl) (d655.trans (congrArg Value.bool g656)) rfl rfl (ltb rfl) <| L_nil <| stepEnd rfl rfl (Ext.refl w643) ⟨fun h => absurd (b648.symm.trans h) (by decide), fun _ => rfl⟩
    · intro s657 w658 e659 hf660 hd661 hu662
      rcases bool_two (impl_faultAt.e2 a0 a1) with b663 | b663
      · have g664 : (impl_faultAt.e2 a0 a1) = true := b663
        have d665 : s657 75 = (.bool (impl_faultAt.e2 a0 a1)) := (hd661 53 rfl)
        have d666 : s657 75 = (.bool (impl_faultAt.e2 a0 a1)) := (hd661 53 rfl)
        obtain ⟨p667, h668, h669⟩ := ((hd661 58 rfl).1 b663)
        exact L_op (.guard 53 true 75 rfl rfl (ltb rfl) (d665.trans (congrArg Value.bool g664))) rfl (ltb rfl) (X_loadF Tryz.isAgg3 (j := 0) h669 h668 rfl) <| L_nil <| stepEnd rfl rfl (Ext.refl w658) ⟨fun _ => rfl, fun h => absurd (b663.symm.trans h) (by decide)⟩
      · have d670 : s657 75 = (.bool (impl_faultAt.e2 a0 a1)) := (hd661 53 rfl)
        have g671 : (impl_faultAt.e2 a0 a1) = false := b663
        exact L_skip rfl rfl (ltb rfl) (d670.trans (congrArg Value.bool g671)) rfl rfl (ltb rfl) <| L_nil <| stepEnd rfl rfl (Ext.refl w658) ⟨fun h => absurd (b663.symm.trans h) (by decide), fun _ => rfl⟩
    · intro s672 w673 e674 hf675 hd676 hu677
      rcases bool_two (impl_faultAt.e2 a0 a1) with b678 | b678
      · have g679 : (impl_faultAt.e2 a0 a1) = true := b678
        have d680 : s672 75 = (.bool (impl_faultAt.e2 a0 a1)) := (hd676 53 rfl)
        have d681 : s672 75 = (.bool (impl_faultAt.e2 a0 a1)) := (hd676 53 rfl)
        have d682 : s672 81 = (.int .i64 ((gt a0 (if (x6_19 < 0 : Prop) then 0 else x6_19)).kind)) := ((hd676 59 rfl).1 b678)
        exact L_op (.guard 53 true 75 rfl rfl (ltb rfl) (d680.trans (congrArg Value.bool g679))) rfl (ltb rfl) (X_neq d682 rfl) <| L_nil <| stepEnd rfl rfl (Ext.refl w673) ⟨fun _ => rfl, fun h => absurd (b678.symm.trans h) (by decide)⟩
      · have d683 : s672 75 = (.bool (impl_faultAt.e2 a0 a1)) := (hd676 53 rfl)
        have g684 : (impl_faultAt.e2 a0 a1) = false := b678
        exact L_skip rfl rfl (ltb rfl) (d683.trans (congrArg Value.bool g684)) rfl rfl (ltb rfl) <| L_nil <| stepEnd rfl rfl (Ext.refl w673) ⟨fun h => absurd (b678.symm.trans h) (by decide), fun _ => rfl⟩
    · intro s685 w686 e687 hf688 hd689 hu690
      rcases bool_two (impl_faultAt.e2 a0 a1) with b691 | b691
      · have d692 : s685 75 = (.bool (impl_faultAt.e2 a0 a1)) := (hd689 53 rfl)
        have d693 : s685 82 = (.bool (impl_faultAt.e6 a0 x6_19)) := ((hd689 60 rfl).1 b691)
        exact L_op (.plain rfl) rfl (ltb rfl) (X_pick (b := true) (v := (.bool (impl_faultAt.e6 a0 x6_19))) (d692.trans (congrArg Value.bool b691)) d693) <| L_nil <| stepEnd rfl rfl (Ext.refl w686) (and_t b691)
      · have d694 : s685 75 = (.bool (impl_faultAt.e2 a0 a1)) := (hd689 53 rfl)
        exact L_op (.plain rfl) rfl (ltb rfl) (X_pick (b := false) (v := (.bool false)) (d694.trans (congrArg Value.bool b691)) rfl) <| L_nil <| stepEnd rfl rfl (Ext.refl w686) (and_f b691)
    · intro s695 w696 e697 hf698 hd699 hu700
      have d701 : s695 83 = (.bool ((impl_faultAt.e2 a0 a1) && (impl_faultAt.e6 a0 x6_19))) := (hd699 61 rfl)
      exact L_op (.plain rfl) rfl (ltb rfl) (X_mkiface Tryz.underlying4 rfl d701) <| L_nil <| stepEnd rfl rfl (Ext.refl w696) rfl
    · intro s702 w703 e704 hf705 hd706 hu707
      exact L_op (.plain rfl) rfl (ltb rfl) (X_mkiface Tryz.underlying3 rfl rfl) <| L_nil <| stepEnd rfl rfl (Ext.refl w703) rfl
    · intro s708 w709 e710 hf711 hd712 hu713
      have d714 : s708 30 = (.iface 4 (.bool (!(decide (recFault (gt a0 a1) = 0))))) := (hd712 8 rfl)
      have d715 : s708 33 = (.iface 3 (.int .i64 (recFault (gt a0 a1)))) := (hd712 11 rfl)
      have d716 : s708 48 = (.iface 4 (.bool ((decide (0 < a1)) && (impl_faultAt.e7 a0 a1)))) := (hd712 26 rfl)
      have d717 : s708 49 = (.iface 3 (.int .i64 18)) := (hd712 27 rfl)
      have d718 : s708 65 = (.iface 4 (.bool ((decide (0 < a1)) && (!(impl_faultAt.e5 a0 a1))))) := (hd712 43 rfl)
      have d719 : s708 66 = (.iface 3 (.int .i64 11)) := (hd712 44 rfl)
      have d720 : s708 69 = (.iface 4 (.bool (decide (x6_19 < 0)))) := (hd712 47 rfl)
      have d721 : s708 70 = (.iface 3 (.int .i64 12)) := (hd712 48 rfl)
      have d722 : s708 84 = (.iface 4 (.bool ((impl_faultAt.e2 a0 a1) && (impl_faultAt.e6 a0 x6_19)))) := (hd712 62 rfl)
      have d723 : s708 85 = (.iface 3 (.int .i64 13)) := (hd712 63 rfl)
      exact L_lit (.plain rfl) rfl (ltb rfl) rfl Tryz.underlying119 Tryz.sizeOf20 Tryz.zeroValue20 rfl rfl rfl (vs := [(.iface 4 (.bool (!(decide (recFault (gt a0 a1) = 0))))), (.iface 3 (.int .i64 (recFault (gt a0 a1)))), (.iface 4 (.bool ((decide (0 < a1)) && (impl_faultAt.e7 a0 a1)))), (.iface 3 (.int .i64 18)), (.iface 4 (.bool ((decide (0 < a1)) && (!(impl_faultAt.e5 a0 a1))))), (.iface 3 (.int .i64 11)), (.iface 4 (.bool (decide (x6_19 < 0)))), (.iface 3 (.int .i64 12)), (.iface 4 (.bool ((impl_faultAt.e2 a0 a1) && (impl_faultAt.e6 a0 x6_19)))), (.iface 3 (.int .i64 13))]) (cons2 d714 (cons2 d715 (cons2 d716 (cons2 d717 (cons2 d718 (cons2 d719 (cons2 d720 (cons2 d721 (cons2 d722 (cons2 d723 rfl)))))))))) (lit_all rfl) <| fun b724 w725 z726 z727 e728 k729 => L_nil <| stepEnd rfl rfl e728 (Ow.rd (Ow.new (xs := [.inl (!(decide (recFault (gt a0 a1) = 0))), .inr (recFault (gt a0 a1)), .inl ((decide (0 < a1)) && (impl_faultAt.e7 a0 a1)), .inr 18, .inl ((decide (0 < a1)) && (!(impl_faultAt.e5 a0 a1))), .inr 11, .inl (decide (x6_19 < 0)), .inr 12, .inl ((impl_faultAt.e2 a0 a1) && (impl_faultAt.e6 a0 x6_19)), .inr 13]) (sz := 1) (enc := (encAny 4 3)) (base := w709.heap.size) k729 (Nat.le_of_eq z726) rfl (fun _ _ => by first | rfl | exact encAny_len _ _ _) (Nat.le_of_ble_eq_true rfl)))
    · intro s730 w731 e732 hf733 hd734 hu735
      have d736 : Rd 1 (encAny 4 3) w731 (s730 86) (impl_faultAt.e1 a0 a1 x6_19) := (hd734 64 rfl)
      have c737 := c57
      exact L_callP (.plain rfl) rfl (ltb rfl) rfl Tryz.call68 (impl_first.calls (w := w731) (a0 := (impl_faultAt.e1 a0 a1 x6_19)) d736 (of_decide_eq_true c737)) rfl <| fun w738 e739 => L_nil <| stepEnd rfl rfl e739 rfl
    · intro s740 w741 e742 hf743 hd744 hu745
      have d746 : s740 87 = (.int .i64 (firstOf (impl_faultAt.e1 a0 a1 x6_19))) := (hd744 65 rfl)
      exact L_op (.plain rfl) rfl (ltb rfl) (X_mkiface Tryz.underlying3 rfl d746) <| L_nil <| stepEnd rfl rfl (Ext.refl w741) rfl
    · intro s747 w748 e749 hf750 hd751 hu752
      have d753 : s747 24 = (.iface 4 (.bool (decide (16 ≤ a1)))) := (hd751 2 rfl)
      have d754 : s747 25 = (.iface 3 (.int .i64 6)) := (hd751 3 rfl)
      have d755 : s747 26 = (.iface 4 (.bool true)) := (hd751 4 rfl)
      have d756 : s747 88 = (.iface 3 (.int .i64 (firstOf (impl_faultAt.e1 a0 a1 x6_19)))) := (hd751 66 rfl)
      exact L_lit (.plain rfl) rfl (ltb rfl) rfl Tryz.underlying119 Tryz.sizeOf20 Tryz.zeroValue20 rfl rfl rfl (vs := [(.iface 4 (.bool (decide (16 ≤ a1)))), (.iface 3 (.int .i64 6)), (.iface 4 (.bool true)), (.iface 3 (.int .i64 (firstOf (impl_faultAt.e1 a0 a1 x6_19))))]) (cons2 d753 (cons2 d754 (cons2 d755 (cons2 d756 rfl)))) (lit_all rfl) <| fun b757 w758 z759 z760 e761 k762 => L_nil <| stepEnd rfl rfl e761 (Ow.rd (Ow.new (xs := [.inl (decide (16 ≤ a1)), .inr 6, .inl true, .inr (firstOf (impl_faultAt.e1 a0 a1 x6_19))]) (sz := 1) (enc := (encAny 4 3)) (base := w748.heap.size) k762 (Nat.le_of_eq z759) rfl (fun _ _ => by first | rfl | exact encAny_len _ _ _) (Nat.le_of_ble_eq_true rfl)))
    · intro s763 w764 e765 hf766 hd767 hu768
      have d769 : Rd 1 (encAny 4 3) w764 (s763 89) (impl_faultAt.e4 a0 a1 x6_19) := (hd767 67 rfl)
      have c770 := c66
      exact L_callP (.plain rfl) rfl (ltb rfl) rfl Tryz.call68 (impl_first.calls (w := w764) (a0 := (impl_faultAt.e4 a0 a1 x6_19)) d769 (of_decide_eq_true c770)) rfl <| fun w771 e772 => L_nil <| stepEnd rfl rfl e772 rfl
    · intro s773 w774 e775 hf776 hd777 hu778
      have d779 : s773 90 = (.int .i64 (firstOf (impl_faultAt.e4 a0 a1 x6_19))) := (hd777 68 rfl)
      exact L_op (.plain rfl) rfl (ltb rfl) (X_assign d779) <| L_nil <| stepEnd rfl rfl (Ext.refl w774) rfl
    intro s780 w781 e782 hf783 ha784
    have K785 := Kp.ofD (kp := [(4, 5), (22, 91)]) rfl hf783
    have d786 : s780 4 = (.int .i64 (firstOf (impl_faultAt.e4 a0 a1 x6_19))) := ha784 69 rfl
    clear ha784 hf783
    refine thn_n <| W_ret <| fin_r ?_
    obtain rfl := Option.some.inj H
    exact fin1 d786 (Ext.trans (Ext.trans (Ext.trans (Below.trans e8 (Wr.below h11 (Nat.le_of_eq z6))) e15) e30) e782)
theorem impl_faultAt.calls {w : World} {a0 : List Rec} {a1 : Int} (gv : GV 0 w) {v_a0 : Value} (f_a0 : Rd 5 encRec w v_a0 a0) (h0 : a0.length ≤ 1048576) (h1 : ∀ x ∈ a0, x.path.length ≤ 1048576) (h2 : inR a1 a0.length = true) :
    Calls Tryz.prog 199 #[v_a0, .int .i64 a1] w (Rt (RP w (.int .i64 (faultAt a0 a1)))) := impl_faultAt.walk gv f_a0 (impl_faultAt.eq a0 a1 h0 h1 h2)
/-! impl.fault -/
theorem impl_fault.walk {k : Nat} {w : World} {a0 : List Rec} (gv : GV 0 w) {v_a0 : Value} (f_a0 : Rd 5 encRec w v_a0 a0) {r : Int × Int} (H : impl_fault.sh k a0 = some r) :
    Calls Tryz.prog 165 #[v_a0] w (Rt (RP w (.tuple #[.int .i64 r.1, .int .i64 r.2]))) := by
  unfold impl_fault.sh at H
  refine calls_of_W Tryz.func165 rfl (Nat.le_of_ble_eq_true rfl) Tryz.ntmps165 rfl ?_
  refine W_seq <| W_reg <| L_op (.plain rfl) rfl (ltb rfl) (X_assign (v := (.int .i64 0)) rfl) <| L_op (.plain rfl) rfl (ltb rfl) (X_assign (v := (.int .i64 0)) rfl) <| L_nil <| thn_n <| W_seq <| W_seq <| W_reg <| L_op (.plain rfl) rfl (ltb rfl) (X_move (v := v_a0) rfl) <| L_op (.plain rfl) rfl (ltb rfl) (X_lenR Tryz.underlying28 rfl f_a0) <| L_op (.plain rfl) rfl (ltb rfl) (X_move (v := (.int .i64 0)) rfl) <| L_nil <| thn_n ?_
  obtain ⟨z2, L3, C4⟩ := bind_some H
  clear H
  refine  W_cutQ (fun s0 sQ wQ => Kp [(2, 6), (8, 19)] s0 sQ ∧ Ext w wQ ∧ z2 = .inr ()) ?_ ?_
  · refine W_block <| W_loopI (fun s0 kk sQ wQ => ∃ (x8_1 : Int), Kp [(2, 6), (8, 19)] s0 sQ ∧ sQ 8 = .int .i64 x8_1 ∧ Ext w wQ ∧ loopF (impl_fault.b1 a0) kk x8_1 = some z2) k ⟨0, (Kp.refl _ _), rfl, (Ext.refl w), L3⟩ ?_
    rintro k9 s10 w11 ⟨x8_1, K12, h15, e13, L14⟩
    cases k9 with
    | zero => exact absurd L14 (by simp [loopF])
    | succ k9 =>
      obtain ⟨t16, H, S17⟩ := loopF_succ L14
      clear L14
      unfold impl_fault.b1 at H
      refine W_seq <| W_reg <| L_op (.plain rfl) rfl (ltb rfl) (X_lss h15 (K12 7 rfl)) <| L_nil <| thn_n <| W_seq ?_
      rcases bif_two H with ⟨q18, H⟩ | ⟨q18, H⟩
      · refine W_true (congrArg Value.bool q18) <| W_skip <| thn_n <| W_seq <| W_block <| W_seq <| W_reg <| L_op (.plain rfl) rfl (ltb rfl) (X_move (v := (.int .i64 x8_1)) h15) <| L_op (.plain rfl) rfl (ltb rfl) (X_assign (v := (.int .i64 x8_1)) rfl) <| L_nil <| thn_n <| W_seq <| W_reg <| L_op (.plain rfl) rfl (ltb rfl) (X_move (v := v_a0) (K12 0 rfl)) <| L_op (.plain rfl) rfl (ltb rfl) (X_move (v := (.int .i64 x8_1)) rfl) ?_
        obtain ⟨c19, H⟩ := bif_some H
        obtain ⟨c20, H⟩ := bif_some H
        obtain ⟨c21, H⟩ := bif_some H
        refine L_callP (.plain rfl) rfl (ltb rfl) rfl Tryz.call199 (impl_faultAt.calls (w := w11) (a0 := a0) (a1 := x8_1) (GV.ext gv e13) (Rd.ext f_a0 e13) (of_decide_eq_true c19) (of_decide_eq_true c20) (of_decide_eq_true c21)) rfl <| fun w22 e23 => L_op (.plain rfl) rfl (ltb rfl) (X_assign (v := (.int .i64 (faultAt a0 x8_1))) rfl) <| L_nil <| thn_n <| W_seq <| W_reg <| L_op (.plain rfl) rfl (ltb rfl) (X_move (v := (.int .i64 (faultAt a0 x8_1))) rfl) <| L_op (.plain rfl) rfl (ltb rfl) (X_neq rfl rfl) <| L_nil <| thn_n ?_
        rcases bif_two H with ⟨q24, H⟩ | ⟨q24, H⟩
        · refine W_true (congrArg Value.bool q24) <| W_seq <| W_reg <| L_op (.plain rfl) rfl (ltb rfl) (X_move (v := (.int .i64 x8_1)) rfl) <| L_op (.plain rfl) rfl (ltb rfl) (X_move (v := (.int .i64 (faultAt a0 x8_1))) rfl) <| L_op (.plain rfl) rfl (ltb rfl) (X_assign (v := (.int .i64 x8_1)) rfl) <| L_op (.plain rfl) rfl (ltb rfl) (X_assign (v := (.int .i64 (faultAt a0 x8_1))) rfl) <| L_nil <| thn_n <| W_ret <| blk_r <| thn_r <| thn_r <| blk_r <| thn_r <| thn_r <| fin_r ?_
          obtain rfl := Option.some.inj H
          obtain rfl := Option.some.inj S17
          have H := C4
          obtain rfl := Option.some.inj H
          exact fin2 rfl rfl (Ext.trans e13 e23)
        · refine W_false (congrArg Value.bool q24) <| W_skip <| blk_n <| thn_n <| W_reg <| L_op (.plain rfl) rfl (ltb rfl) (X_add h15 rfl) <| L_op (.plain rfl) rfl (ltb rfl) (X_move (v := (.int .i64 (IntKind.wrap .i64 (x8_1 + 1)))) rfl) <| L_nil <| thn_n ?_
          obtain rfl := Option.some.inj H
          exact ⟨_, Nat.lt_succ_self _, IntKind.wrap .i64 (x8_1 + 1), (Kp.upd (Kp.upd (Kp.upd (Kp.upd (Kp.upd (Kp.upd (Kp.upd (Kp.upd (Kp.upd (Kp.upd (Kp.upd K12 rfl) rfl) rfl) rfl) rfl) rfl) rfl) rfl) rfl) rfl) rfl), rfl, (Ext.trans e13 e23), S17⟩
      · refine W_false (congrArg Value.bool q18) <| W_exit <| thn_x <| thn_x <| blk_x <| thn_n ?_
        obtain rfl := Option.some.inj H
        obtain rfl := Option.some.inj S17
        exact ⟨(Kp.upd K12 rfl), e13, rfl⟩
  · rintro s6 w5 ⟨K7, e8, y25⟩
    rw [y25] at C4
    have H := C4
    replace H : _ = some _ := H
    refine thn_n <| W_seq <| W_reg <| L_op (.plain rfl) rfl (ltb rfl) (X_assign (v := (.int .i64 0)) rfl) <| L_op (.plain rfl) rfl (ltb rfl) (X_assign (v := (.int .i64 0)) rfl) <| L_nil <| thn_n <| W_ret <| fin_r ?_
    obtain rfl := Option.some.inj H
    exact fin2 rfl rfl e8
theorem impl_fault.calls {w : World} {a0 : List Rec} (gv : GV 0 w) {v_a0 : Value} (f_a0 : Rd 5 encRec w v_a0 a0) (h0 : a0.length ≤ 1048576) (h1 : ∀ x ∈ a0, x.path.length ≤ 1048576) :
    Calls Tryz.prog 165 #[v_a0] w (Rt (RP w (.tuple #[.int .i64 ((layerFault a0).1), .int .i64 ((layerFault a0).2)]))) := by
  obtain ⟨k, h⟩ := impl_fault.eq a0 h0 h1
  exact impl_fault.walk gv f_a0 h
/-! impl.LayerFault -/
theorem impl_LayerFault.walk {w : World} {a0 : List Rec} (gv : GV 0 w) {v_a0 : Value} (f_a0 : Rd 5 encRec w v_a0 a0) {r : Int × Int} (H : impl_LayerFault.sh a0 = some r) :
    Calls Tryz.prog 116 #[v_a0] w (Rt (RP w (.tuple #[.int .i64 r.1, .int .i64 r.2]))) := by
  unfold impl_LayerFault.sh at H
  refine calls_of_W Tryz.func116 rfl (Nat.le_of_ble_eq_true rfl) Tryz.ntmps116 rfl ?_
  refine W_seq <| W_reg <| L_op (.plain rfl) rfl (ltb rfl) (X_assign (v := (.int .i64 0)) rfl) <| L_op (.plain rfl) rfl (ltb rfl) (X_assign (v := (.int .i64 0)) rfl) <| L_nil <| thn_n <| W_seq <| W_seq <| W_reg <| L_op (.plain rfl) rfl (ltb rfl) (X_move (v := v_a0) rfl) <| L_callP (.plain rfl) rfl (ltb rfl) rfl Tryz.call69 (impl_isLongListR.calls (w := w) (a0 := a0) f_a0) rfl <| fun w1 e2 => L_nil <| thn_n ?_
  rcases bif_two H with ⟨q3, H⟩ | ⟨q3, H⟩
  · refine W_true (congrArg Value.bool q3) <| W_seq <| W_reg <| L_op (.plain rfl) rfl (ltb rfl) (X_assign (v := (.int .i64 0)) rfl) <| L_op (.plain rfl) rfl (ltb rfl) (X_assign (v := (.int .i64 2)) rfl) <| L_nil <| thn_n <| W_ret <| thn_r <| fin_r ?_
    obtain rfl := Option.some.inj H
    exact fin2 rfl rfl e2
  · refine W_false (congrArg Value.bool q3) <| W_skip <| thn_n <| W_seq <| W_reg <| L_op (.plain rfl) rfl (ltb rfl) (X_move (v := v_a0) rfl) ?_
    obtain ⟨c4, H⟩ := bif_some H
    obtain ⟨c5, H⟩ := bif_some H
    refine L_callP (.plain rfl) rfl (ltb rfl) rfl Tryz.call165 (impl_fault.calls (w := w1) (a0 := a0) (GV.ext gv e2) (Rd.ext f_a0 e2) (of_decide_eq_true c4) (of_decide_eq_true c5)) rfl <| fun w6 e7 => L_op (.plain rfl) rfl (ltb rfl) (X_extract (v := (.int .i64 ((layerFault a0).1))) rfl rfl) <| L_op (.plain rfl) rfl (ltb rfl) (X_extract (v := (.int .i64 ((layerFault a0).2))) rfl rfl) <| L_op (.plain rfl) rfl (ltb rfl) (X_assign (v := (.int .i64 ((layerFault a0).1))) rfl) <| L_op (.plain rfl) rfl (ltb rfl) (X_assign (v := (.int .i64 ((layerFault a0).2))) rfl) <| L_nil <| thn_n <| W_ret <| fin_r ?_
    obtain rfl := Option.some.inj H
    exact fin2 rfl rfl (Ext.trans e2 e7)
theorem impl_LayerFault.calls {w : World} {a0 : List Rec} (gv : GV 0 w) {v_a0 : Value} (f_a0 : Rd 5 encRec w v_a0 a0) (h0 : a0.length ≤ 1048576) (h1 : ∀ x ∈ a0, x.path.length ≤ 1048576) :
    Calls Tryz.prog 116 #[v_a0] w (Rt (RP w (.tuple #[.int .i64 ((layerFaultL a0).1), .int .i64 ((layerFaultL a0).2)]))) := impl_LayerFault.walk gv f_a0 (impl_LayerFault.eq a0 h0 h1)
/-! laws.eqRecordS -/
theorem laws_eqRecordS.walk {k : Nat} {w : World} {a0 : List Rec} {a1 : List Rec} {v_a0 : Value} (f_a0 : Rd 5 encRec w v_a0 a0) {v_a1 : Value} (f_a1 : Rd 5 encRec w v_a1 a1) {r : Bool} (H : laws_eqRecordS.sh k a0 a1 = some r) :
    Calls Tryz.prog 21 #[v_a0, v_a1] w (Rt (RP w (.bool r))) := by
  unfold laws_eqRecordS.sh at H
  refine calls_of_W Tryz.func21 rfl (Nat.le_of_ble_eq_true rfl) Tryz.ntmps21 rfl ?_
  refine W_seq <| W_reg <| L_op (.plain rfl) rfl (ltb rfl) (X_assign (v := (.bool false)) rfl) <| L_nil <| thn_n <| W_seq <| W_seq <| W_reg <| L_op (.plain rfl) rfl (ltb rfl) (X_move (v := v_a0) rfl) <| L_op (.plain rfl) rfl (ltb rfl) (X_lenR Tryz.underlying28 rfl f_a0) <| L_op (.plain rfl) rfl (ltb rfl) (X_move (v := v_a1) rfl) <| L_op (.plain rfl) rfl (ltb rfl) (X_lenR Tryz.underlying28 rfl f_a1) <| L_op (.plain rfl) rfl (ltb rfl) (X_neq rfl rfl) <| L_nil <| thn_n ?_
  rcases bif_two H with ⟨q1, H⟩ | ⟨q1, H⟩
  · refine W_true (congrArg Value.bool q1) <| W_seq <| W_reg <| L_op (.plain rfl) rfl (ltb rfl) (X_assign (v := (.bool false)) rfl) <| L_nil <| thn_n <| W_ret <| thn_r <| fin_r ?_
    obtain rfl := Option.some.inj H
    exact fin1 rfl (Ext.refl w)
  · refine W_false (congrArg Value.bool q1) <| W_skip <| thn_n <| W_seq <| W_seq <| W_reg <| L_op (.plain rfl) rfl (ltb rfl) (X_assign (v := (.int .i64 0)) rfl) <| L_nil <| thn_n ?_
    obtain ⟨z3, L4, C5⟩ := bind_some H
    clear H
    refine  W_cutQ (fun s0 sQ wQ => Kp [(4, 6), (11, 27)] s0 sQ ∧ Ext w wQ ∧ z3 = .inr ()) ?_ ?_
    · refine W_block <| W_loopI (fun s0 kk sQ wQ => ∃ (x5_2 : Int), Kp [(4, 6), (11, 27)] s0 sQ ∧ sQ 5 = .int .i64 x5_2 ∧ Ext w wQ ∧ loopF (laws_eqRecordS.b1 a0 a1) kk x5_2 = some z3) k ⟨0, (Kp.refl _ _), rfl, (Ext.refl w), L4⟩ ?_
      rintro k10 s11 w12 ⟨x5_2, K13, h16, e14, L15⟩
      cases k10 with
      | zero => exact absurd L15 (by simp [loopF])
      | succ k10 =>
        obtain ⟨t17, H, S18⟩ := loopF_succ L15
        clear L15
        unfold laws_eqRecordS.b1 at H
        refine W_seq <| W_seq <| W_reg <| L_op (.plain rfl) rfl (ltb rfl) (X_move (v := (.int .i64 x5_2)) h16) <| L_op (.plain rfl) rfl (ltb rfl) (X_move (v := v_a0) (K13 0 rfl)) <| L_op (.plain rfl) rfl (ltb rfl) (X_lenR Tryz.underlying28 rfl (Rd.ext f_a0 e14)) <| L_op (.plain rfl) rfl (ltb rfl) (X_lss rfl rfl) <| L_nil <| thn_n ?_
        rcases bif_two H with ⟨q19, H⟩ | ⟨q19, H⟩
        · refine W_true (congrArg Value.bool q19) <| W_skip <| thn_n <| W_seq <| W_block <| W_seq ?_
          obtain ⟨c20, H⟩ := bif_some H
          obtain ⟨c23, H⟩ := bif_some H
          refine W_drawM [LEq v_a0, LEq (.int .i64 x5_2), LAt0 (encRec (gt a0 x5_2)), LEq (.agg (encRec (gt a0 x5_2)).toArray), LEq v_a1, LEq (.int .i64 x5_2), LAt0 (encRec (gt a1 x5_2)), LEq (.agg (encRec (gt a1 x5_2)).toArray), LEq (.bool (decide ((gt a0 x5_2) = (gt a1 x5_2)))), LEq (.bool (!(decide ((gt a0 x5_2) = (gt a1 x5_2)))))] (by kernel_rfl) (by kernel_rfl) ⟨LEq.mono, LEq.mono, LAt0.mono, LEq.mono, LEq.mono, LEq.mono, LAt0.mono, LEq.mono, LEq.mono, LEq.mono, trivial⟩ ⟨?_, ?_, ?_, ?_, ?_, ?_, ?_, ?_, ?_, ?_, trivial⟩ ?_
          · intro s28 w29 e30 hf31 hd32 hu33
            exact L_op (.plain rfl) rfl (ltb rfl) (X_move (v := v_a0) ((hf31 0 rfl).trans (K13 0 rfl))) <| L_nil <| stepEnd rfl rfl (Ext.refl w29) rfl
          · intro s34 w35 e36 hf37 hd38 hu39
            exact L_op (.plain rfl) rfl (ltb rfl) (X_move (v := (.int .i64 x5_2)) ((hf37 5 rfl).trans h16)) <| L_nil <| stepEnd rfl rfl (Ext.refl w35) rfl
          · intro s40 w41 e42 hf43 hd44 hu45
            have d46 : s40 17 = v_a0 := (hd44 0 rfl)
            have d47 : s40 18 = (.int .i64 x5_2) := (hd44 1 rfl)
            have c48 := c20
            exact L_idx (.plain rfl) rfl (ltb rfl) rfl Tryz.underlying28 Tryz.sizeOf78 d46 (Rd.ext f_a0 (Ext.trans e14 e42)) d47 c48 <| fun p49 h50 => L_nil <| stepEnd rfl rfl (Ext.refl w41) ⟨_, rfl, h50⟩
          · intro s51 w52 e53 hf54 hd55 hu56
            obtain ⟨p57, h58, h59⟩ := (hd55 2 rfl)
            exact L_op (.plain rfl) rfl (ltb rfl) (X_loadS Tryz.isAgg78 Tryz.sizeOf78 rfl h58 h59) <| L_nil <| stepEnd rfl rfl (Ext.refl w52) rfl
          · intro s60 w61 e62 hf63 hd64 hu65
            exact L_op (.plain rfl) rfl (ltb rfl) (X_move (v := v_a1) ((hf63 1 rfl).trans (K13 1 rfl))) <| L_nil <| stepEnd rfl rfl (Ext.refl w61) rfl
          · intro s66 w67 e68 hf69 hd70 hu71
            exact L_op (.plain rfl) rfl (ltb rfl) (X_move (v := (.int .i64 x5_2)) ((hf69 5 rfl).trans h16)) <| L_nil <| stepEnd rfl rfl (Ext.refl w67) rfl
          · intro s72 w73 e74 hf75 hd76 hu77
            have d78 : s72 21 = v_a1 := (hd76 4 rfl)
            have d79 : s72 22 = (.int .i64 x5_2) := (hd76 5 rfl)
            have c80 := c23
            exact L_idx (.plain rfl) rfl (ltb rfl) rfl Tryz.underlying28 Tryz.sizeOf78 d78 (Rd.ext f_a1 (Ext.trans e14 e74)) d79 c80 <| fun p81 h82 => L_nil <| stepEnd rfl rfl (Ext.refl w73) ⟨_, rfl, h82⟩
          · intro s83 w84 e85 hf86 hd87 hu88
            obtain ⟨p89, h90, h91⟩ := (hd87 6 rfl)
            exact L_op (.plain rfl) rfl (ltb rfl) (X_loadS Tryz.isAgg78 Tryz.sizeOf78 rfl h90 h91) <| L_nil <| stepEnd rfl rfl (Ext.refl w84) rfl
          · intro s92 w93 e94 hf95 hd96 hu97
            have d98 : s92 20 = (.agg (encRec (gt a0 x5_2)).toArray) := (hd96 3 rfl)
            have d99 : s92 24 = (.agg (encRec (gt a1 x5_2)).toArray) := (hd96 7 rfl)
            exact L_callP (.plain rfl) rfl (ltb rfl) rfl Tryz.call75 (laws_eqRecord.calls (w := w93) (a0 := gt a0 x5_2) (a1 := gt a1 x5_2)) (cons2 d98 (cons2 d99 rfl)) <| fun w100 e101 => L_nil <| stepEnd rfl rfl e101 rfl
          · intro s102 w103 e104 hf105 hd106 hu107
            have d108 : s102 25 = (.bool (decide ((gt a0 x5_2) = (gt a1 x5_2)))) := (hd106 8 rfl)
            exact L_op (.plain rfl) rfl (ltb rfl) (X_not d108) <| L_nil <| stepEnd rfl rfl (Ext.refl w103) rfl
          intro s109 w110 e111 hf112 ha113
          have K114 := Kp.ofD (kp := [(17, 27)]) rfl hf112
          have d115 : s109 26 = (.bool (!(decide ((gt a0 x5_2) = (gt a1 x5_2))))) := ha113 9 rfl
          clear ha113 hf112
          refine thn_n ?_
          rcases bif_two H with ⟨q116, H⟩ | ⟨q116, H⟩
          · refine W_true (d115.trans (congrArg Value.bool q116)) <| W_seq <| W_reg <| L_op (.plain rfl) rfl (ltb rfl) (X_assign (v := (.bool false)) rfl) <| L_nil <| thn_n <| W_ret <| blk_r <| thn_r <| thn_r <| blk_r <| thn_r <| thn_r <| fin_r ?_
            obtain rfl := Option.some.inj H
            obtain rfl := Option.some.inj S18
            have H := C5
            obtain rfl := Option.some.inj H
            exact fin1 rfl (Ext.trans e14 e111)
          · refine W_false (d115.trans (congrArg Value.bool q116)) <| W_skip <| blk_n <| thn_n <| W_reg <| L_op (.plain rfl) rfl (ltb rfl) (X_move (v := (.int .i64 x5_2)) ((K114 5 rfl).trans h16)) <| L_op (.plain rfl) rfl (ltb rfl) (X_add rfl rfl) <| L_op (.plain rfl) rfl (ltb rfl) (X_assign (v := (.int .i64 (IntKind.wrap .i64 (x5_2 + 1)))) rfl) <| L_nil <| thn_n ?_
            obtain rfl := Option.some.inj H
            exact ⟨_, Nat.lt_succ_self _, IntKind.wrap .i64 (x5_2 + 1), (Kp.upd (Kp.upd (Kp.upd (Kp.cut (Kp.upd (Kp.upd (Kp.upd (Kp.upd K13 rfl) rfl) rfl) rfl) K114 rfl) rfl) rfl) rfl), rfl, (Ext.trans e14 e111), S18⟩
        · refine W_false (congrArg Value.bool q19) <| W_exit <| thn_x <| thn_x <| blk_x <| thn_n ?_
          obtain rfl := Option.some.inj H
          obtain rfl := Option.some.inj S18
          exact ⟨(Kp.upd (Kp.upd (Kp.upd (Kp.upd K13 rfl) rfl) rfl) rfl), e14, rfl⟩
    · rintro s7 w6 ⟨K8, e9, y117⟩
      rw [y117] at C5
      have H := C5
      replace H : _ = some _ := H
      refine thn_n <| W_seq <| W_reg <| L_op (.plain rfl) rfl (ltb rfl) (X_assign (v := (.bool true)) rfl) <| L_nil <| thn_n <| W_ret <| fin_r ?_
      obtain rfl := Option.some.inj H
      exact fin1 rfl e9
theorem laws_eqRecordS.calls {w : World} {a0 : List Rec} {a1 : List Rec} {v_a0 : Value} (f_a0 : Rd 5 encRec w v_a0 a0) {v_a1 : Value} (f_a1 : Rd 5 encRec w v_a1 a1) (h0 : a0.length ≤ 4611686018427387904) :
    Calls Tryz.prog 21 #[v_a0, v_a1] w (Rt (RP w (.bool (decide (a0 = a1))))) := by
  obtain ⟨k, h⟩ := laws_eqRecordS.eq a0 a1 h0
  exact laws_eqRecordS.walk f_a0 f_a1 h
/-! spec.l03OK -/
theorem spec_l03OK.walk {w : World} {a0 : List Rec} {v_a0 : Value} (f_a0 : Rd 5 encRec w v_a0 a0) {r : Bool} (H : spec_l03OK.sh a0 = some r) :
    Calls Tryz.prog 62 #[v_a0] w (Rt (RP w (.bool r))) := by
  unfold spec_l03OK.sh at H
  refine calls_of_W Tryz.func62 rfl (Nat.le_of_ble_eq_true rfl) Tryz.ntmps62 rfl ?_
  refine W_seq <| W_reg <| L_op (.plain rfl) rfl (ltb rfl) (X_assign (v := (.bool false)) rfl) <| L_nil <| thn_n <| W_seq <| W_reg <| L_op (.plain rfl) rfl (ltb rfl) (X_move (v := v_a0) rfl) ?_
  obtain ⟨c1, H⟩ := bif_some H
  obtain ⟨c2, H⟩ := bif_some H
  refine L_callP (.plain rfl) rfl (ltb rfl) rfl Tryz.call109 (spec_l03Fault.calls (w := w) (a0 := a0) f_a0 (of_decide_eq_true c1) (of_decide_eq_true c2)) rfl <| fun w3 e4 => L_op (.plain rfl) rfl (ltb rfl) (X_move rfl) <| L_op (.plain rfl) rfl (ltb rfl) (X_extract (v := (.int .i64 ((layerFault a0).1))) rfl rfl) <| L_op (.plain rfl) rfl (ltb rfl) (X_extract (v := (.int .i64 ((layerFault a0).2))) rfl rfl) <| L_op (.plain rfl) rfl (ltb rfl) (X_assign (v := (.int .i64 ((layerFault a0).1))) rfl) <| L_op (.plain rfl) rfl (ltb rfl) (X_assign (v := (.int .i64 ((layerFault a0).2))) rfl) <| L_nil <| thn_n <| W_seq <| W_reg <| L_op (.plain rfl) rfl (ltb rfl) (X_move (v := (.int .i64 ((layerFault a0).2))) rfl) <| L_op (.plain rfl) rfl (ltb rfl) (X_eql rfl rfl) <| L_op (.plain rfl) rfl (ltb rfl) (X_assign (v := (.bool (decide (((layerFault a0).2) = 0)))) rfl) <| L_nil <| thn_n <| W_ret <| fin_r ?_
  obtain rfl := Option.some.inj H
  exact fin1 rfl e4
theorem spec_l03OK.calls {w : World} {a0 : List Rec} {v_a0 : Value} (f_a0 : Rd 5 encRec w v_a0 a0) (h0 : a0.length ≤ 1048576) (h1 : ∀ x ∈ a0, x.path.length ≤ 1048576) :
    Calls Tryz.prog 62 #[v_a0] w (Rt (RP w (.bool (decide ((layerFault a0).2 = 0))))) := spec_l03OK.walk f_a0 (spec_l03OK.eq a0 h0 h1)
/-! impl.LayerOK -/
theorem impl_LayerOK.walk {w : World} {a0 : List Rec} (gv : GV 0 w) {v_a0 : Value} (f_a0 : Rd 5 encRec w v_a0 a0) {r : Bool} (H : impl_LayerOK.sh a0 = some r) :
    Calls Tryz.prog 71 #[v_a0] w (Rt (RP w (.bool r))) := by
  unfold impl_LayerOK.sh at H
  refine calls_of_W Tryz.func71 rfl (Nat.le_of_ble_eq_true rfl) Tryz.ntmps71 rfl ?_
  refine W_seq <| W_reg <| L_op (.plain rfl) rfl (ltb rfl) (X_assign (v := (.bool false)) rfl) <| L_nil <| thn_n <| W_seq <| W_reg <| L_op (.plain rfl) rfl (ltb rfl) (X_move (v := v_a0) rfl) ?_
  obtain ⟨c1, H⟩ := bif_some H
  obtain ⟨c2, H⟩ := bif_some H
  refine L_callP (.plain rfl) rfl (ltb rfl) rfl Tryz.call116 (impl_LayerFault.calls (w := w) (a0 := a0) gv f_a0 (of_decide_eq_true c1) (of_decide_eq_true c2)) rfl <| fun w3 e4 => L_op (.plain rfl) rfl (ltb rfl) (X_move rfl) <| L_op (.plain rfl) rfl (ltb rfl) (X_extract (v := (.int .i64 ((layerFaultL a0).1))) rfl rfl) <| L_op (.plain rfl) rfl (ltb rfl) (X_extract (v := (.int .i64 ((layerFaultL a0).2))) rfl rfl) <| L_op (.plain rfl) rfl (ltb rfl) (X_assign (v := (.int .i64 ((layerFaultL a0).1))) rfl) <| L_op (.plain rfl) rfl (ltb rfl) (X_assign (v := (.int .i64 ((layerFaultL a0).2))) rfl) <| L_nil <| thn_n <| W_seq <| W_reg <| L_op (.plain rfl) rfl (ltb rfl) (X_move (v := (.int .i64 ((layerFaultL a0).2))) rfl) <| L_op (.plain rfl) rfl (ltb rfl) (X_eql rfl rfl) <| L_op (.plain rfl) rfl (ltb rfl) (X_assign (v := (.bool (decide (((layerFaultL a0).2) = 0)))) rfl) <| L_nil <| thn_n <| W_ret <| fin_r ?_
  obtain rfl := Option.some.inj H
  exact fin1 rfl e4
theorem impl_LayerOK.calls {w : World} {a0 : List Rec} (gv : GV 0 w) {v_a0 : Value} (f_a0 : Rd 5 encRec w v_a0 a0) (h0 : a0.length ≤ 1048576) (h1 : ∀ x ∈ a0, x.path.length ≤ 1048576) :
    Calls Tryz.prog 71 #[v_a0] w (Rt (RP w (.bool (decide ((layerFaultL a0).2 = 0))))) := impl_LayerOK.walk gv f_a0 (impl_LayerOK.eq a0 h0 h1)
/-! laws.szNode -/
theorem laws_szNode.walk {w : World} {a0 : Nd} {a1 : Int} {r : Int} (H : laws_szNode.sh a0 a1 = some r) :
    Calls Tryz.prog 61 #[.agg (encNd a0).toArray, .int .i64 a1] w (Rt (RP w (.int .i64 r))) := by
  unfold laws_szNode.sh at H
  refine calls_of_W Tryz.func61 rfl (Nat.le_of_ble_eq_true rfl) Tryz.ntmps61 rfl ?_
  refine W_seq <| W_reg <| L_box (.plain rfl) rfl (ltb rfl) rfl rfl <| fun b1 w2 z3 z4 e5 k6 => L_op (.plain rfl) rfl (ltb rfl) (X_assign (v := (.int .i64 0)) rfl) <| L_nil <| thn_n <| W_seq <| W_reg <| L_op (.plain rfl) rfl (ltb rfl) (X_move (v := (.int .i64 a1)) rfl) <| L_op (.plain rfl) rfl (ltb rfl) (X_fieldAddr Tryz.underlying74 rfl Tryz.sizeOf9 rfl rfl) <| L_op (.plain rfl) rfl (ltb rfl) (X_loadB Tryz.isAgg9 k6 rfl rfl) <| L_op (.plain rfl) rfl (ltb rfl) (X_lenS Tryz.underlying9 rfl) <| L_op (.plain rfl) rfl (ltb rfl) (X_sub rfl rfl) <| L_op (.plain rfl) rfl (ltb rfl) (X_assign (v := (.int .i64 (IntKind.wrap .i64 (a1 - (a0.path.length : Int))))) rfl) <| L_nil <| thn_n <| W_seq <| W_seq <| W_reg <| L_op (.plain rfl) rfl (ltb rfl) (X_move (v := (.int .i64 (IntKind.wrap .i64 (a1 - (a0.path.length : Int))))) rfl) <| L_op (.plain rfl) rfl (ltb rfl) (X_lss rfl rfl) <| L_nil <| thn_n ?_
  rcases bif_two H with ⟨q7, H⟩ | ⟨q7, H⟩
  · refine W_true (congrArg Value.bool q7) <| W_seq <| W_reg <| L_op (.plain rfl) rfl (ltb rfl) (X_assign (v := (.int .i64 (-1))) rfl) <| L_nil <| thn_n <| W_ret <| thn_r <| fin_r ?_
    obtain rfl := Option.some.inj H
    exact fin1 rfl e5
  · refine W_false (congrArg Value.bool q7) <| W_skip <| thn_n <| W_seq <| W_reg <| L_op (.plain rfl) rfl (ltb rfl) (X_move (v := (.int .i64 (IntKind.wrap .i64 (a1 - (a0.path.length : Int))))) rfl) <| L_op (.plain rfl) rfl (ltb rfl) (X_fieldAddr Tryz.underlying74 rfl Tryz.sizeOf9 rfl rfl) <| L_op (.plain rfl) rfl (ltb rfl) (X_loadB Tryz.isAgg9 k6 rfl rfl) <| L_op (.plain rfl) rfl (ltb rfl) (X_lenS Tryz.underlying9 rfl) <| L_op (.plain rfl) rfl (ltb rfl) (X_sub rfl rfl) <| L_op (.plain rfl) rfl (ltb rfl) (X_assign rfl) <| L_nil <| thn_n <| W_seq <| W_seq <| W_reg <| L_op (.plain rfl) rfl (ltb rfl) (X_move rfl) <| L_op (.plain rfl) rfl (ltb rfl) (X_lss rfl rfl) <| L_nil <| thn_n ?_
    rcases bif_two H with ⟨q8, H⟩ | ⟨q8, H⟩
    · refine W_true (congrArg Value.bool q8) <| W_seq <| W_reg <| L_op (.plain rfl) rfl (ltb rfl) (X_assign (v := (.int .i64 (-1))) rfl) <| L_nil <| thn_n <| W_ret <| thn_r <| fin_r ?_
      obtain rfl := Option.some.inj H
      exact fin1 rfl e5
    · refine W_false (congrArg Value.bool q8) <| W_skip <| thn_n <| W_seq <| W_reg <| L_op (.plain rfl) rfl (ltb rfl) (X_move rfl) <| L_op (.plain rfl) rfl (ltb rfl) (X_assign rfl) <| L_nil <| thn_n <| W_ret <| fin_r ?_
      obtain rfl := Option.some.inj H
      exact fin1 rfl e5
theorem laws_szNode.calls {w : World} {a0 : Nd} {a1 : Int} (h0 : (0 : Int) ≤ a1) (h1 : (a1 : Int) ≤ 1048576) (h2 : a0.path.length ≤ 9223372036854775807) (h3 : a0.body.length ≤ 9223372036854775807) :
    Calls Tryz.prog 61 #[.agg (encNd a0).toArray, .int .i64 a1] w (Rt (RP w (.int .i64 (szNd a0 a1)))) := laws_szNode.walk (laws_szNode.eq a0 a1 h0 h1 h2 h3)
/-! laws.toNode -/
theorem laws_toNode.walk {w : World} {a0 : Nd} {r : Nd} (H : laws_toNode.sh a0 = some r) :
    Calls Tryz.prog 67 #[.agg (encNd a0).toArray] w (Rt (RP w (.agg (encNd r).toArray))) := by
  unfold laws_toNode.sh at H
  refine calls_of_WG Tryz.func67 rfl (Nat.le_of_ble_eq_true rfl) Tryz.ntmps67 ?_
  refine W_seq <| W_reg <| L_box (.plain rfl) rfl (ltb rfl) rfl rfl <| fun b1 w2 z3 z4 e5 k6 => L_alloc (.plain rfl) rfl (ltb rfl) rfl Tryz.zeroValue80 <| fun b7 w8 z9 z10 e11 k12 => L_nil <| thn_n <| W_seq <| W_reg <| L_alloc (.plain rfl) rfl (ltb rfl) rfl Tryz.zeroValue80 <| fun b13 w14 z15 z16 e17 k18 => L_nil <| thn_n <| W_seq <| W_reg <| L_op (.plain rfl) rfl (ltb rfl) (X_fieldAddr Tryz.underlying74 rfl Tryz.sizeOf3 rfl rfl) <| L_op (.plain rfl) rfl (ltb rfl) (X_loadB Tryz.isAgg3 (Blk.ext k6 (Ext.trans e11 e17)) rfl rfl) <| L_op (.plain rfl) rfl (ltb rfl) (X_fieldAddr Tryz.underlying80 rfl Tryz.sizeOf3 rfl rfl) <| L_store1 (.plain rfl) rfl rfl Tryz.sizeOf3 rfl rfl rfl k18 (ltb rfl) <| fun w19 h20 k21 => L_nil <| thn_n <| W_seq <| W_reg <| L_op (.plain rfl) rfl (ltb rfl) (X_fieldAddr Tryz.underlying74 rfl Tryz.sizeOf9 rfl rfl) <| L_op (.plain rfl) rfl (ltb rfl) (X_loadB Tryz.isAgg9 (Blk.ext k6 (Ext.trans e11 (Below.trans e17 (Wr.below h20 (Nat.le_of_eq z15))))) rfl rfl) <| L_op (.plain rfl) rfl (ltb rfl) (X_fieldAddr Tryz.underlying80 rfl Tryz.sizeOf9 rfl rfl) <| L_store1 (.plain rfl) rfl rfl Tryz.sizeOf9 rfl rfl rfl k21 (ltb rfl) <| fun w22 h23 k24 => L_nil <| thn_n <| W_seq <| W_reg <| L_op (.plain rfl) rfl (ltb rfl) (X_fieldAddr Tryz.underlying74 rfl Tryz.sizeOf9 rfl rfl) <| L_op (.plain rfl) rfl (ltb rfl) (X_loadB Tryz.isAgg9 (Blk.ext k6 (Ext.trans e11 (Below.trans (Below.trans e17 (Wr.below h20 (Nat.le_of_eq z15))) (Wr.below h23 (Nat.le_of_eq z15))))) rfl rfl) <| L_op (.plain rfl) rfl (ltb rfl) (X_fieldAddr Tryz.underlying80 rfl Tryz.sizeOf9 rfl rfl) <| L_store1 (.plain rfl) rfl rfl Tryz.sizeOf9 rfl rfl rfl k24 (ltb rfl) <| fun w25 h26 k27 => L_nil <| thn_n <| W_seq <| W_reg <| L_op (.plain rfl) rfl (ltb rfl) (X_fieldAddr Tryz.underlying74 rfl Tryz.sizeOf3 rfl rfl) <| L_op (.plain rfl) rfl (ltb rfl) (X_loadB Tryz.isAgg3 (Blk.ext k6 (Ext.trans e11 (Below.trans (Below.trans (Below.trans e17 (Wr.below h20 (Nat.le_of_eq z15))) (Wr.below h23 (Nat.le_of_eq z15))) (Wr.below h26 (Nat.le_of_eq z15))))) rfl rfl) <| L_op (.plain rfl) rfl (ltb rfl) (X_fieldAddr Tryz.underlying80 rfl Tryz.sizeOf3 rfl rfl) <| L_store1 (.plain rfl) rfl rfl Tryz.sizeOf3 rfl rfl rfl k27 (ltb rfl) <| fun w28 h29 k30 => L_nil <| thn_n <| W_seq <| W_reg <| L_op (.plain rfl) rfl (ltb rfl) (X_loadS Tryz.isAgg80 Tryz.sizeOf80 rfl rfl (Blk.at0 k30)) <| L_storeA (.plain rfl) rfl rfl Tryz.sizeOf80 rfl rfl rfl rfl rfl (Blk.ext k12 (Below.trans (Below.trans (Below.trans (Below.trans e17 (Wr.below h20 (Nat.le_of_eq z15))) (Wr.below h23 (Nat.le_of_eq z15))) (Wr.below h26 (Nat.le_of_eq z15))) (Wr.below h29 (Nat.le_of_eq z15)))) <| fun w31 h32 k33 => L_nil <| thn_n <| W_ret <| finG_r ?_
  obtain rfl := Option.some.inj H
  exact finC1 rfl rfl k33 Tryz.isAgg80 Tryz.sizeOf80 rfl (Ext.trans e5 (Below.trans (Ext.trans e11 (Below.trans (Below.trans (Below.trans (Below.trans e17 (Wr.below h20 (Nat.le_of_eq z15))) (Wr.below h23 (Nat.le_of_eq z15))) (Wr.below h26 (Nat.le_of_eq z15))) (Wr.below h29 (Nat.le_of_eq z15)))) (Wr.below h32 (Nat.le_of_eq z9))))
theorem laws_toNode.calls {w : World} {a0 : Nd} :
    Calls Tryz.prog 67 #[.agg (encNd a0).toArray] w (Rt (RP w (.agg (encNd a0).toArray))) := laws_toNode.walk (laws_toNode.eq a0)
/-! laws.szNodeS -/
theorem laws_szNodeS.walk {k : Nat} {w : World} {a0 : List Nd} {a1 : Int} {v_a0 : Value} (f_a0 : Rd 4 encNd w v_a0 a0) {r : Int} (H : laws_szNodeS.sh k a0 a1 = some r) :
    Calls Tryz.prog 16 #[v_a0, .int .i64 a1] w (Rt (RP w (.int .i64 r))) := by
  unfold laws_szNodeS.sh at H
  refine calls_of_W Tryz.func16 rfl (Nat.le_of_ble_eq_true rfl) Tryz.ntmps16 rfl ?_
  refine W_seq <| W_reg <| L_op (.plain rfl) rfl (ltb rfl) (X_assign (v := (.int .i64 0)) rfl) <| L_nil <| thn_n <| W_seq <| W_reg <| L_op (.plain rfl) rfl (ltb rfl) (X_move (v := (.int .i64 a1)) rfl) <| L_op (.plain rfl) rfl (ltb rfl) (X_move (v := v_a0) rfl) <| L_op (.plain rfl) rfl (ltb rfl) (X_lenR Tryz.underlying23 rfl f_a0) <| L_op (.plain rfl) rfl (ltb rfl) (X_sub rfl rfl) <| L_op (.plain rfl) rfl (ltb rfl) (X_assign (v := (.int .i64 (IntKind.wrap .i64 (a1 - (a0.length : Int))))) rfl) <| L_nil <| thn_n <| W_seq <| W_seq <| W_reg <| L_op (.plain rfl) rfl (ltb rfl) (X_move (v := (.int .i64 (IntKind.wrap .i64 (a1 - (a0.length : Int))))) rfl) <| L_op (.plain rfl) rfl (ltb rfl) (X_lss rfl rfl) <| L_nil <| thn_n ?_
  rcases bif_two H with ⟨q1, H⟩ | ⟨q1, H⟩
  · refine W_true (congrArg Value.bool q1) <| W_seq <| W_reg <| L_op (.plain rfl) rfl (ltb rfl) (X_assign (v := (.int .i64 (-1))) rfl) <| L_nil <| thn_n <| W_ret <| thn_r <| fin_r ?_
    obtain rfl := Option.some.inj H
    exact fin1 rfl (Ext.refl w)
  · refine W_false (congrArg Value.bool q1) <| W_skip <| thn_n <| W_seq <| W_seq <| W_reg <| L_op (.plain rfl) rfl (ltb rfl) (X_assign (v := (.int .i64 0)) rfl) <| L_nil <| thn_n ?_
    obtain ⟨z4, L5, C6⟩ := bind_some H
    clear H
    refine  W_cutQ (fun s0 sQ wQ => ∃ (x1_7 : Int), Kp [(1, 2), (4, 6), (12, 26)] s0 sQ ∧ sQ 1 = .int .i64 x1_7 ∧ Ext w wQ ∧ z4 = .inr x1_7) ?_ ?_
    · refine W_block <| W_loopI (fun s0 kk sQ wQ => ∃ (x1_2 : Int) (x5_3 : Int), Kp [(1, 2), (4, 6), (12, 26)] s0 sQ ∧ sQ 1 = .int .i64 x1_2 ∧ sQ 5 = .int .i64 x5_3 ∧ Ext w wQ ∧ loopF (laws_szNodeS.b1 a0) kk (x1_2, x5_3) = some z4) k ⟨IntKind.wrap .i64 (a1 - (a0.length : Int)), 0, (Kp.refl _ _), rfl, rfl, (Ext.refl w), L5⟩ ?_
      rintro k12 s13 w14 ⟨x1_2, x5_3, K15, h18, h19, e16, L17⟩
      cases k12 with
      | zero => exact absurd L17 (by simp [loopF])
      | succ k12 =>
        obtain ⟨t20, H, S21⟩ := loopF_succ L17
        clear L17
        unfold laws_szNodeS.b1 at H
        refine W_seq <| W_seq <| W_reg <| L_op (.plain rfl) rfl (ltb rfl) (X_move (v := (.int .i64 x5_3)) h19) <| L_op (.plain rfl) rfl (ltb rfl) (X_move (v := v_a0) (K15 0 rfl)) <| L_op (.plain rfl) rfl (ltb rfl) (X_lenR Tryz.underlying23 rfl (Rd.ext f_a0 e16)) <| L_op (.plain rfl) rfl (ltb rfl) (X_lss rfl rfl) <| L_nil <| thn_n ?_
        rcases bif_two H with ⟨q22, H⟩ | ⟨q22, H⟩
        · refine W_true (congrArg Value.bool q22) <| W_skip <| thn_n <| W_seq <| W_block <| W_seq <| W_reg <| L_op (.plain rfl) rfl (ltb rfl) (X_move (v := v_a0) (K15 0 rfl)) <| L_op (.plain rfl) rfl (ltb rfl) (X_move (v := (.int .i64 x5_3)) h19) ?_
          obtain ⟨c23, H⟩ := bif_some H
          refine L_idx (.plain rfl) rfl (ltb rfl) rfl Tryz.underlying23 Tryz.sizeOf74 rfl (Rd.ext f_a0 e16) rfl c23 <| fun p24 h25 => L_op (.plain rfl) rfl (ltb rfl) (X_loadS Tryz.isAgg74 Tryz.sizeOf74 rfl rfl h25) <| L_op (.plain rfl) rfl (ltb rfl) (X_move (v := (.int .i64 x1_2)) h18) ?_
          obtain ⟨c26, H⟩ := bif_some H
          obtain ⟨c27, H⟩ := bif_some H
          obtain ⟨c28, H⟩ := bif_some H
          obtain ⟨c29, H⟩ := bif_some H
          refine L_callP (.plain rfl) rfl (ltb rfl) rfl Tryz.call61 (laws_szNode.calls (w := w14) (a0 := gt a0 x5_3) (a1 := x1_2) (of_decide_eq_true c26) (of_decide_eq_true c27) (of_decide_eq_true c28) (of_decide_eq_true c29)) rfl <| fun w30 e31 => L_op (.plain rfl) rfl (ltb rfl) (X_assign (v := (.int .i64 (szNd (gt a0 x5_3) x1_2))) rfl) <| L_nil <| thn_n <| W_seq <| W_reg <| L_op (.plain rfl) rfl (ltb rfl) (X_move (v := (.int .i64 (szNd (gt a0 x5_3) x1_2))) rfl) <| L_op (.plain rfl) rfl (ltb rfl) (X_lss rfl rfl) <| L_nil <| thn_n ?_
          rcases bif_two H with ⟨q32, H⟩ | ⟨q32, H⟩
          · refine W_true (congrArg Value.bool q32) <| W_seq <| W_reg <| L_op (.plain rfl) rfl (ltb rfl) (X_assign (v := (.int .i64 (-1))) rfl) <| L_nil <| thn_n <| W_ret <| blk_r <| thn_r <| thn_r <| blk_r <| thn_r <| thn_r <| fin_r ?_
            obtain rfl := Option.some.inj H
            obtain rfl := Option.some.inj S21
            have H := C6
            obtain rfl := Option.some.inj H
            exact fin1 rfl (Ext.trans e16 e31)
          · refine W_false (congrArg Value.bool q32) <| W_skip <| blk_n <| thn_n <| W_reg <| L_op (.plain rfl) rfl (ltb rfl) (X_move (v := (.int .i64 x5_3)) h19) <| L_op (.plain rfl) rfl (ltb rfl) (X_add rfl rfl) <| L_op (.plain rfl) rfl (ltb rfl) (X_assign (v := (.int .i64 (IntKind.wrap .i64 (x5_3 + 1)))) rfl) <| L_nil <| thn_n ?_
            obtain rfl := Option.some.inj H
            exact ⟨_, Nat.lt_succ_self _, (szNd (gt a0 x5_3) x1_2), IntKind.wrap .i64 (x5_3 + 1), (Kp.upd (Kp.upd (Kp.upd (Kp.upd (Kp.upd (Kp.upd (Kp.upd (Kp.upd (Kp.upd (Kp.upd (Kp.upd (Kp.upd (Kp.upd (Kp.upd (Kp.upd (Kp.upd K15 rfl) rfl) rfl) rfl) rfl) rfl) rfl) rfl) rfl) rfl) rfl) rfl) rfl) rfl) rfl) rfl), rfl, rfl, (Ext.trans e16 e31), S21⟩
        · refine W_false (congrArg Value.bool q22) <| W_exit <| thn_x <| thn_x <| blk_x <| thn_n ?_
          obtain rfl := Option.some.inj H
          obtain rfl := Option.some.inj S21
          exact ⟨x1_2, (Kp.upd (Kp.upd (Kp.upd (Kp.upd K15 rfl) rfl) rfl) rfl), h18, e16, rfl⟩
    · rintro s9 w8 ⟨x1_7, K10, h33, e11, y34⟩
      rw [y34] at C6
      have H := C6
      replace H : _ = some _ := H
      refine thn_n <| W_seq <| W_reg <| L_op (.plain rfl) rfl (ltb rfl) (X_move (v := (.int .i64 x1_7)) h33) <| L_op (.plain rfl) rfl (ltb rfl) (X_assign (v := (.int .i64 x1_7)) rfl) <| L_nil <| thn_n <| W_ret <| fin_r ?_
      obtain rfl := Option.some.inj H
      exact fin1 rfl e11
theorem laws_szNodeS.calls {w : World} {a0 : List Nd} {a1 : Int} {v_a0 : Value} (f_a0 : Rd 4 encNd w v_a0 a0) (h0 : (0 : Int) ≤ a1) (h1 : (a1 : Int) ≤ 1048576) (h2 : a0.length ≤ 9223372036854775807) (h3 : ∀ x ∈ a0, okNd x) :
    Calls Tryz.prog 16 #[v_a0, .int .i64 a1] w (Rt (RP w (.int .i64 (szNdS a0 a1)))) := by
  obtain ⟨k, h⟩ := laws_szNodeS.eq a0 a1 h0 h1 h2 h3
  exact laws_szNodeS.walk f_a0 h
/-! laws.toNodeS -/
theorem laws_toNodeS.walk {k : Nat} {w : World} {a0 : List Nd} {v_a0 : Value} (f_a0 : Rd 4 encNd w v_a0 a0) {r : List Nd} (H : laws_toNodeS.sh k a0 = some r) :
    Calls Tryz.prog 19 #[v_a0] w (Rt (RO 80 4 encNd w r)) := by
  unfold laws_toNodeS.sh at H
  refine calls_of_W Tryz.func19 rfl (Nat.le_of_ble_eq_true rfl) Tryz.ntmps19 rfl ?_
  refine W_seq <| W_reg <| L_op (.plain rfl) rfl (ltb rfl) (X_assign (v := (.slice none 0 0)) rfl) <| L_nil <| thn_n <| W_seq <| W_reg <| L_op (.plain rfl) rfl (ltb rfl) (X_move (v := v_a0) rfl) <| L_op (.plain rfl) rfl (ltb rfl) (X_lenR Tryz.underlying23 rfl f_a0) ?_
  obtain ⟨c1, H⟩ := bif_some H
  refine L_make (enc := encNd) (zr := (⟨0, [], [], 0⟩ : Nd)) (n := a0.length) (.plain rfl) rfl (ltb rfl) rfl El.t30 rfl rfl rfl (of_decide_eq_true c1) (Nat.le_refl _) <| fun b2 w3 z4 z5 e6 o7 => L_op (.plain rfl) rfl (ltb rfl) (X_assign (v := (.slice (some ⟨b2, 0, none⟩) a0.length a0.length)) rfl) <| L_nil <| thn_n <| W_seq <| W_seq <| W_reg <| L_op (.plain rfl) rfl (ltb rfl) (X_assign (v := (.int .i64 0)) rfl) <| L_nil <| thn_n ?_
  obtain ⟨z10, L11, C12⟩ := bind_some H
  clear H
  refine  W_cutQ (fun s0 sQ wQ => ∃ (y13 : List Nd), Kp [(4, 5), (8, 22)] s0 sQ ∧ Ow 80 4 encNd w.heap.size wQ (.slice (some ⟨b2, 0, none⟩) a0.length a0.length) y13 ∧ Ext w wQ ∧ z10 = .inr y13) ?_ ?_
  · refine W_block <| W_loopI (fun s0 kk sQ wQ => ∃ (x4_8 : Int) (y9 : List Nd), Kp [(4, 5), (8, 22)] s0 sQ ∧ sQ 4 = .int .i64 x4_8 ∧ Ow 80 4 encNd w.heap.size wQ (.slice (some ⟨b2, 0, none⟩) a0.length a0.length) y9 ∧ Ext w wQ ∧ loopF (laws_toNodeS.b1 a0) kk (x4_8, y9) = some z10) k ⟨0, List.replicate a0.length (⟨0, [], [], 0⟩ : Nd), (Kp.refl _ _), rfl, o7, e6, L11⟩ ?_
    rintro k18 s19 w20 ⟨x4_8, y9, K21, h24, h25, e22, L23⟩
    cases k18 with
    | zero => exact absurd L23 (by simp [loopF])
    | succ k18 =>
      obtain ⟨t26, H, S27⟩ := loopF_succ L23
      clear L23
      unfold laws_toNodeS.b1 at H
      refine W_seq <| W_seq <| W_reg <| L_op (.plain rfl) rfl (ltb rfl) (X_move (v := (.int .i64 x4_8)) h24) <| L_op (.plain rfl) rfl (ltb rfl) (X_move (v := v_a0) (K21 0 rfl)) <| L_op (.plain rfl) rfl (ltb rfl) (X_lenR Tryz.underlying23 rfl (Rd.ext f_a0 e22)) <| L_op (.plain rfl) rfl (ltb rfl) (X_lss rfl rfl) <| L_nil <| thn_n ?_
      rcases bif_two H with ⟨q28, H⟩ | ⟨q28, H⟩
      · refine W_true (congrArg Value.bool q28) <| W_skip <| thn_n <| W_seq <| W_block <| W_reg <| L_op (.plain rfl) rfl (ltb rfl) (X_move (v := (.slice (some ⟨b2, 0, none⟩) a0.length a0.length)) (K21 3 rfl)) <| L_op (.plain rfl) rfl (ltb rfl) (X_move (v := (.int .i64 x4_8)) h24) <| L_op (.plain rfl) rfl (ltb rfl) (X_move (v := v_a0) (K21 0 rfl)) <| L_op (.plain rfl) rfl (ltb rfl) (X_move (v := (.int .i64 x4_8)) h24) ?_
        obtain ⟨c29, H⟩ := bif_some H
        refine L_idx (.plain rfl) rfl (ltb rfl) rfl Tryz.underlying23 Tryz.sizeOf74 rfl (Rd.ext f_a0 e22) rfl c29 <| fun p30 h31 => L_op (.plain rfl) rfl (ltb rfl) (X_loadS Tryz.isAgg74 Tryz.sizeOf74 rfl rfl h31) <| L_callP (.plain rfl) rfl (ltb rfl) rfl Tryz.call67 (laws_toNode.calls (w := w20) (a0 := gt a0 x4_8)) rfl <| fun w32 e33 => ?_
        obtain ⟨c36, H⟩ := bif_some H
        refine L_idxO (.plain rfl) rfl (ltb rfl) rfl Tryz.underlying30 Tryz.sizeOf80 rfl (Ow.ext h25 e33) rfl c36 <| fun p34 h35 => L_storeO (a := (gt a0 x4_8)) (vs := [(.int .i64 ((gt a0 x4_8).kind)), (S ((gt a0 x4_8).path)), (S ((gt a0 x4_8).body)), (.int .i64 ((gt a0 x4_8).mode))]) (off := 0) (.plain rfl) rfl rfl Tryz.sizeOf80 rfl h35 rfl rfl rfl rfl rfl rfl <| fun b37 w38 h39 h40 h41 o42 => L_nil <| blk_n <| thn_n <| W_reg <| L_op (.plain rfl) rfl (ltb rfl) (X_move (v := (.int .i64 x4_8)) h24) <| L_op (.plain rfl) rfl (ltb rfl) (X_add rfl rfl) <| L_op (.plain rfl) rfl (ltb rfl) (X_assign (v := (.int .i64 (IntKind.wrap .i64 (x4_8 + 1)))) rfl) <| L_nil <| thn_n ?_
        obtain rfl := Option.some.inj H
        exact ⟨_, Nat.lt_succ_self _, IntKind.wrap .i64 (x4_8 + 1), setI y9 x4_8 (gt a0 x4_8), (Kp.upd (Kp.upd (Kp.upd (Kp.upd (Kp.upd (Kp.upd (Kp.upd (Kp.upd (Kp.upd (Kp.upd (Kp.upd (Kp.upd (Kp.upd (Kp.upd (Kp.upd K21 rfl) rfl) rfl) rfl) rfl) rfl) rfl) rfl) rfl) rfl) rfl) rfl) rfl) rfl) rfl), rfl, o42, (Ext.wr (Ext.trans e22 e33) h41 h40 (Nat.le_refl _)), S27⟩
      · refine W_false (congrArg Value.bool q28) <| W_exit <| thn_x <| thn_x <| blk_x <| thn_n ?_
        obtain rfl := Option.some.inj H
        obtain rfl := Option.some.inj S27
        exact ⟨y9, (Kp.upd (Kp.upd (Kp.upd (Kp.upd K21 rfl) rfl) rfl) rfl), h25, e22, rfl⟩
  · rintro s15 w14 ⟨y13, K16, h43, e17, y44⟩
    rw [y44] at C12
    have H := C12
    replace H : _ = some _ := H
    refine thn_n <| W_seq <| W_reg <| L_op (.plain rfl) rfl (ltb rfl) (X_move (v := (.slice (some ⟨b2, 0, none⟩) a0.length a0.length)) (K16 3 rfl)) <| L_op (.plain rfl) rfl (ltb rfl) (X_assign (v := (.slice (some ⟨b2, 0, none⟩) a0.length a0.length)) rfl) <| L_nil <| thn_n <| W_ret <| fin_r ?_
    obtain rfl := Option.some.inj H
    exact fin1o rfl e17 h43 ((Ext.refl w)).size
theorem laws_toNodeS.calls {w : World} {a0 : List Nd} {v_a0 : Value} (f_a0 : Rd 4 encNd w v_a0 a0) (h0 : a0.length ≤ 1048576) :
    Calls Tryz.prog 19 #[v_a0] w (Rt (RO 80 4 encNd w a0)) := by
  obtain ⟨k, h⟩ := laws_toNodeS.eq a0 h0
  exact laws_toNodeS.walk f_a0 h
/-! laws.eqNodeS -/
theorem laws_eqNodeS.walk {k : Nat} {w : World} {a0 : List Nd} {a1 : List Nd} {v_a0 : Value} (f_a0 : Rd 4 encNd w v_a0 a0) {v_a1 : Value} (f_a1 : Rd 4 encNd w v_a1 a1) {r : Bool} (H : laws_eqNodeS.sh k a0 a1 = some r) :
    Calls Tryz.prog 22 #[v_a0, v_a1] w (Rt (RP w (.bool r))) := by
  unfold laws_eqNodeS.sh at H
  refine calls_of_W Tryz.func22 rfl (Nat.le_of_ble_eq_true rfl) Tryz.ntmps22 rfl ?_
  refine W_seq <| W_reg <| L_op (.plain rfl) rfl (ltb rfl) (X_assign (v := (.bool false)) rfl) <| L_nil <| thn_n <| W_seq <| W_seq <| W_reg <| L_op (.plain rfl) rfl (ltb rfl) (X_move (v := v_a0) rfl) <| L_op (.plain rfl) rfl (ltb rfl) (X_lenR Tryz.underlying30 rfl f_a0) <| L_op (.plain rfl) rfl (ltb rfl) (X_move (v := v_a1) rfl) <| L_op (.plain rfl) rfl (ltb rfl) (X_lenR Tryz.underlying30 rfl f_a1) <| L_op (.plain rfl) rfl (ltb rfl) (X_neq rfl rfl) <| L_nil <| thn_n ?_
  rcases bif_two H with ⟨q1, H⟩ | ⟨q1, H⟩
  · refine W_true (congrArg Value.bool q1) <| W_seq <| W_reg <| L_op (.plain rfl) rfl (ltb rfl) (X_assign (v := (.bool false)) rfl) <| L_nil <| thn_n <| W_ret <| thn_r <| fin_r ?_
    obtain rfl := Option.some.inj H
    exact fin1 rfl (Ext.refl w)
  · refine W_false (congrArg Value.bool q1) <| W_skip <| thn_n <| W_seq <| W_seq <| W_reg <| L_op (.plain rfl) rfl (ltb rfl) (X_assign (v := (.int .i64 0)) rfl) <| L_nil <| thn_n ?_
    obtain ⟨z3, L4, C5⟩ := bind_some H
    clear H
    refine  W_cutQ (fun s0 sQ wQ => Kp [(4, 6), (11, 27)] s0 sQ ∧ Ext w wQ ∧ z3 = .inr ()) ?_ ?_
    · refine W_block <| W_loopI (fun s0 kk sQ wQ => ∃ (x5_2 : Int), Kp [(4, 6), (11, 27)] s0 sQ ∧ sQ 5 = .int .i64 x5_2 ∧ Ext w wQ ∧ loopF (laws_eqNodeS.b1 a0 a1) kk x5_2 = some z3) k ⟨0, (Kp.refl _ _), rfl, (Ext.refl w), L4⟩ ?_
      rintro k10 s11 w12 ⟨x5_2, K13, h16, e14, L15⟩
      cases k10 with
      | zero => exact absurd L15 (by simp [loopF])
      | succ k10 =>
        obtain ⟨t17, H, S18⟩ := loopF_succ L15
        clear L15
        unfold laws_eqNodeS.b1 at H
        refine W_seq <| W_seq <| W_reg <| L_op (.plain rfl) rfl (ltb rfl) (X_move (v := (.int .i64 x5_2)) h16) <| L_op (.plain rfl) rfl (ltb rfl) (X_move (v := v_a0) (K13 0 rfl)) <| L_op (.plain rfl) rfl (ltb rfl) (X_lenR Tryz.underlying30 rfl (Rd.ext f_a0 e14)) <| L_op (.plain rfl) rfl (ltb rfl) (X_lss rfl rfl) <| L_nil <| thn_n ?_
        rcases bif_two H with ⟨q19, H⟩ | ⟨q19, H⟩
        · refine W_true (congrArg Value.bool q19) <| W_skip <| thn_n <| W_seq <| W_block <| W_seq ?_
          obtain ⟨c20, H⟩ := bif_some H
          obtain ⟨c23, H⟩ := bif_some H
          refine W_drawM [LEq v_a0, LEq (.int .i64 x5_2), LAt0 (encNd (gt a0 x5_2)), LEq (.agg (encNd (gt a0 x5_2)).toArray), LEq v_a1, LEq (.int .i64 x5_2), LAt0 (encNd (gt a1 x5_2)), LEq (.agg (encNd (gt a1 x5_2)).toArray), LEq (.bool (decide ((gt a0 x5_2) = (gt a1 x5_2)))), LEq (.bool (!(decide ((gt a0 x5_2) = (gt a1 x5_2)))))] (by kernel_rfl) (by kernel_rfl) ⟨LEq.mono, LEq.mono, LAt0.mono, LEq.mono, LEq.mono, LEq.mono, LAt0.mono, LEq.mono, LEq.mono, LEq.mono, trivial⟩ ⟨?_, ?_, ?_, ?_, ?_, ?_, ?_, ?_, ?_, ?_, trivial⟩ ?_
          · intro s28 w29 e30 hf31 hd32 hu33
            exact L_op (.plain rfl) rfl (ltb rfl) (X_move (v := v_a0) ((hf31 0 rfl).trans (K13 0 rfl))) <| L_nil <| stepEnd rfl rfl (Ext.refl w29) rfl
          · intro s34 w35 e36 hf37 hd38 hu39
            exact L_op (.plain rfl) rfl (ltb rfl) (X_move (v := (.int .i64 x5_2)) ((hf37 5 rfl).trans h16)) <| L_nil <| stepEnd rfl rfl (Ext.refl w35) rfl
          · intro s40 w41 e42 hf43 hd44 hu45
            have d46 : s40 17 = v_a0 := (hd44 0 rfl)
            have d47 : s40 18 = (.int .i64 x5_2) := (hd44 1 rfl)
            have c48 := c20
            exact L_idx (.plain rfl) rfl (ltb rfl) rfl Tryz.underlying30 Tryz.sizeOf80 d46 (Rd.ext f_a0 (Ext.trans e14 e42)) d47 c48 <| fun p49 h50 => L_nil <| stepEnd rfl rfl (Ext.refl w41) ⟨_, rfl, h50⟩
          · intro s51 w52 e53 hf54 hd55 hu56
            obtain ⟨p57, h58, h59⟩ := (hd55 2 rfl)
            exact L_op (.plain rfl) rfl (ltb rfl) (X_loadS Tryz.isAgg80 Tryz.sizeOf80 rfl h58 h59) <| L_nil <| stepEnd rfl rfl (Ext.refl w52) rfl
          · intro s60 w61 e62 hf63 hd64 hu65
            exact L_op (.plain rfl) rfl (ltb rfl) (X_move (v := v_a1) ((hf63 1 rfl).trans (K13 1 rfl))) <| L_nil <| stepEnd rfl rfl (Ext.refl w61) rfl
          · intro s66 w67 e68 hf69 hd70 hu71
            exact L_op (.plain rfl) rfl (ltb rfl) (X_move (v := (.int .i64 x5_2)) ((hf69 5 rfl).trans h16)) <| L_nil <| stepEnd rfl rfl (Ext.refl w67) rfl
          · intro s72 w73 e74 hf75 hd76 hu77
            have d78 : s72 21 = v_a1 := (hd76 4 rfl)
            have d79 : s72 22 = (.int .i64 x5_2) := (hd76 5 rfl)
            have c80 := c23
            exact L_idx (.plain rfl) rfl (ltb rfl) rfl Tryz.underlying30 Tryz.sizeOf80 d78 (Rd.ext f_a1 (Ext.trans e14 e74)) d79 c80 <| fun p81 h82 => L_nil <| stepEnd rfl rfl (Ext.refl w73) ⟨_, rfl, h82⟩
          · intro s83 w84 e85 hf86 hd87 hu88
            obtain ⟨p89, h90, h91⟩ := (hd87 6 rfl)
            exact L_op (.plain rfl) rfl (ltb rfl) (X_loadS Tryz.isAgg80 Tryz.sizeOf80 rfl h90 h91) <| L_nil <| stepEnd rfl rfl (Ext.refl w84) rfl
          · intro s92 w93 e94 hf95 hd96 hu97
            have d98 : s92 20 = (.agg (encNd (gt a0 x5_2)).toArray) := (hd96 3 rfl)
            have d99 : s92 24 = (.agg (encNd (gt a1 x5_2)).toArray) := (hd96 7 rfl)
            exact L_callP (.plain rfl) rfl (ltb rfl) rfl Tryz.call76 (laws_eqNode.calls (w := w93) (a0 := gt a0 x5_2) (a1 := gt a1 x5_2)) (cons2 d98 (cons2 d99 rfl)) <| fun w100 e101 => L_nil <| stepEnd rfl rfl e101 rfl
          · intro s102 w103 e104 hf105 hd106 hu107
            have d108 : s102 25 = (.bool (decide ((gt a0 x5_2) = (gt a1 x5_2)))) := (hd106 8 rfl)
            exact L_op (.plain rfl) rfl (ltb rfl) (X_not d108) <| L_nil <| stepEnd rfl rfl (Ext.refl w103) rfl
          intro s109 w110 e111 hf112 ha113
          have K114 := Kp.ofD (kp := [(17, 27)]) rfl hf112
          have d115 : s109 26 = (.bool (!(decide ((gt a0 x5_2) = (gt a1 x5_2))))) := ha113 9 rfl
          clear ha113 hf112
          refine thn_n ?_
          rcases bif_two H with ⟨q116, H⟩ | ⟨q116, H⟩
          · refine W_true (d115.trans (congrArg Value.bool q116)) <| W_seq <| W_reg <| L_op (.plain rfl) rfl (ltb rfl) (X_assign (v := (.bool false)) rfl) <| L_nil <| thn_n <| W_ret <| blk_r <| thn_r <| thn_r <| blk_r <| thn_r <| thn_r <| fin_r ?_
            obtain rfl := Option.some.inj H
            obtain rfl := Option.some.inj S18
            have H := C5
            obtain rfl := Option.some.inj H
            exact fin1 rfl (Ext.trans e14 e111)
          · refine W_false (d115.trans (congrArg Value.bool q116)) <| W_skip <| blk_n <| thn_n <| W_reg <| L_op (.plain rfl) rfl (ltb rfl) (X_move (v := (.int .i64 x5_2)) ((K114 5 rfl).trans h16)) <| L_op (.plain rfl) rfl (ltb rfl) (X_add rfl rfl) <| L_op (.plain rfl) rfl (ltb rfl) (X_assign (v := (.int .i64 (IntKind.wrap .i64 (x5_2 + 1)))) rfl) <| L_nil <| thn_n ?_
            obtain rfl := Option.some.inj H
            exact ⟨_, Nat.lt_succ_self _, IntKind.wrap .i64 (x5_2 + 1), (Kp.upd (Kp.upd (Kp.upd (Kp.cut (Kp.upd (Kp.upd (Kp.upd (Kp.upd K13 rfl) rfl) rfl) rfl) K114 rfl) rfl) rfl) rfl), rfl, (Ext.trans e14 e111), S18⟩
        · refine W_false (congrArg Value.bool q19) <| W_exit <| thn_x <| thn_x <| blk_x <| thn_n ?_
          obtain rfl := Option.some.inj H
          obtain rfl := Option.some.inj S18
          exact ⟨(Kp.upd (Kp.upd (Kp.upd (Kp.upd K13 rfl) rfl) rfl) rfl), e14, rfl⟩
    · rintro s7 w6 ⟨K8, e9, y117⟩
      rw [y117] at C5
      have H := C5
      replace H : _ = some _ := H
      refine thn_n <| W_seq <| W_reg <| L_op (.plain rfl) rfl (ltb rfl) (X_assign (v := (.bool true)) rfl) <| L_nil <| thn_n <| W_ret <| fin_r ?_
      obtain rfl := Option.some.inj H
      exact fin1 rfl e9
theorem laws_eqNodeS.calls {w : World} {a0 : List Nd} {a1 : List Nd} {v_a0 : Value} (f_a0 : Rd 4 encNd w v_a0 a0) {v_a1 : Value} (f_a1 : Rd 4 encNd w v_a1 a1) (h0 : a0.length ≤ 4611686018427387904) :
    Calls Tryz.prog 22 #[v_a0, v_a1] w (Rt (RP w (.bool (decide (a0 = a1))))) := by
  obtain ⟨k, h⟩ := laws_eqNodeS.eq a0 a1 h0
  exact laws_eqNodeS.walk f_a0 f_a1 h
/-! spec.l04Record -/
theorem spec_l04Record.walk {w : World} {a0 : Nd} {r : Rec} (H : spec_l04Record.sh a0 = some r) :
    Calls Tryz.prog 111 #[.agg (encNd a0).toArray] w (Rt (RP w (.agg (encRec r).toArray))) := by
  unfold spec_l04Record.sh at H
  refine calls_of_WG Tryz.func111 rfl (Nat.le_of_ble_eq_true rfl) Tryz.ntmps111 ?_
  refine W_seq <| W_reg <| L_box (.plain rfl) rfl (ltb rfl) rfl rfl <| fun b1 w2 z3 z4 e5 k6 => L_alloc (.plain rfl) rfl (ltb rfl) rfl Tryz.zeroValue78 <| fun b7 w8 z9 z10 e11 k12 => L_nil <| thn_n <| W_seq <| W_reg <| L_op (.plain rfl) rfl (ltb rfl) (X_fieldAddr Tryz.underlying80 rfl Tryz.sizeOf3 rfl rfl) <| L_op (.plain rfl) rfl (ltb rfl) (X_loadB Tryz.isAgg3 (Blk.ext k6 e11) rfl rfl) <| L_op (.plain rfl) rfl (ltb rfl) (X_fieldAddr Tryz.underlying80 rfl Tryz.sizeOf9 rfl rfl) <| L_op (.plain rfl) rfl (ltb rfl) (X_loadB Tryz.isAgg9 (Blk.ext k6 e11) rfl rfl) <| L_op (.plain rfl) rfl (ltb rfl) (X_fieldAddr Tryz.underlying80 rfl Tryz.sizeOf9 rfl rfl) <| L_op (.plain rfl) rfl (ltb rfl) (X_loadB Tryz.isAgg9 (Blk.ext k6 e11) rfl rfl) <| L_op (.plain rfl) rfl (ltb rfl) (X_fieldAddr Tryz.underlying80 rfl Tryz.sizeOf3 rfl rfl) <| L_op (.plain rfl) rfl (ltb rfl) (X_loadB Tryz.isAgg3 (Blk.ext k6 e11) rfl rfl) <| L_op (.plain rfl) rfl (ltb rfl) (X_build1 (vs := [(0, (.int .i64 a0.kind)), (1, (S a0.path)), (2, (S a0.body)), (3, (.int .i64 a0.mode))]) (pl := #[(0, 1), (1, 1), (2, 1), (3, 1), (4, 1)]) Tryz.underlying78 Tryz.zeroValue78 rfl (fun _ => by kernel_rfl) rfl rfl rfl) <| L_storeA (.plain rfl) rfl rfl Tryz.sizeOf78 rfl rfl rfl rfl rfl k12 <| fun w13 h14 k15 => L_nil <| thn_n <| W_ret <| finG_r ?_
  obtain rfl := Option.some.inj H
  exact finC1 rfl rfl k15 Tryz.isAgg78 Tryz.sizeOf78 rfl (Ext.trans e5 (Below.trans e11 (Wr.below h14 (Nat.le_of_eq z9))))
theorem spec_l04Record.calls {w : World} {a0 : Nd} :
    Calls Tryz.prog 111 #[.agg (encNd a0).toArray] w (Rt (RP w (.agg (encRec (recOf a0)).toArray))) := spec_l04Record.walk (spec_l04Record.eq a0)
/-! spec.l04At -/
theorem spec_l04At.walk {k : Nat} {w : World} {a0 : List Nd} {a1 : List UInt8} {v_a0 : Value} (f_a0 : Rd 4 encNd w v_a0 a0) {r : Int} (H : spec_l04At.sh k a0 a1 = some r) :
    Calls Tryz.prog 114 #[v_a0, S a1] w (Rt (RP w (.int .i64 r))) := by
  unfold spec_l04At.sh at H
  refine calls_of_W Tryz.func114 rfl (Nat.le_of_ble_eq_true rfl) Tryz.ntmps114 rfl ?_
  refine W_seq <| W_reg <| L_op (.plain rfl) rfl (ltb rfl) (X_assign (v := (.int .i64 0)) rfl) <| L_nil <| thn_n <| W_seq <| W_seq <| W_reg <| L_op (.plain rfl) rfl (ltb rfl) (X_assign (v := (.int .i64 0)) rfl) <| L_nil <| thn_n ?_
  obtain ⟨z2, L3, C4⟩ := bind_some H
  clear H
  refine  W_cutQ (fun s0 sQ wQ => Kp [(4, 20)] s0 sQ ∧ Ext w wQ ∧ z2 = .inr ()) ?_ ?_
  · refine W_block <| W_loopI (fun s0 kk sQ wQ => ∃ (x5_1 : Int), Kp [(4, 20)] s0 sQ ∧ sQ 5 = .int .i64 x5_1 ∧ Ext w wQ ∧ loopF (spec_l04At.b1 a0 a1) kk x5_1 = some z2) k ⟨0, (Kp.refl _ _), rfl, (Ext.refl w), L3⟩ ?_
    rintro k9 s10 w11 ⟨x5_1, K12, h15, e13, L14⟩
    cases k9 with
    | zero => exact absurd L14 (by simp [loopF])
    | succ k9 =>
      obtain ⟨t16, H, S17⟩ := loopF_succ L14
      clear L14
      unfold spec_l04At.b1 at H
      refine W_seq <| W_seq <| W_reg <| L_op (.plain rfl) rfl (ltb rfl) (X_move (v := (.int .i64 x5_1)) h15) <| L_op (.plain rfl) rfl (ltb rfl) (X_move (v := v_a0) (K12 0 rfl)) <| L_op (.plain rfl) rfl (ltb rfl) (X_lenR Tryz.underlying30 rfl (Rd.ext f_a0 e13)) <| L_op (.plain rfl) rfl (ltb rfl) (X_lss rfl rfl) <| L_nil <| thn_n ?_
      rcases bif_two H with ⟨q18, H⟩ | ⟨q18, H⟩
      · refine W_true (congrArg Value.bool q18) <| W_skip <| thn_n <| W_seq <| W_block <| W_seq <| W_reg <| L_op (.plain rfl) rfl (ltb rfl) (X_move (v := v_a0) (K12 0 rfl)) <| L_op (.plain rfl) rfl (ltb rfl) (X_move (v := (.int .i64 x5_1)) h15) ?_
        obtain ⟨c19, H⟩ := bif_some H
        refine L_idx (.plain rfl) rfl (ltb rfl) rfl Tryz.underlying30 Tryz.sizeOf80 rfl (Rd.ext f_a0 e13) rfl c19 <| fun p20 h21 => L_op (.plain rfl) rfl (ltb rfl) (X_fieldAddr Tryz.underlying80 rfl Tryz.sizeOf9 rfl rfl) <| L_op (.plain rfl) rfl (ltb rfl) (X_loadF Tryz.isAgg9 (j := 1) h21 rfl rfl) <| L_op (.plain rfl) rfl (ltb rfl) (X_move (v := (S a1)) (K12 1 rfl)) <| L_op (.plain rfl) rfl (ltb rfl) (X_seq rfl rfl) <| L_nil <| thn_n ?_
        rcases bif_two H with ⟨q22, H⟩ | ⟨q22, H⟩
        · refine W_true (congrArg Value.bool q22) <| W_seq <| W_reg <| L_op (.plain rfl) rfl (ltb rfl) (X_move (v := (.int .i64 x5_1)) h15) <| L_op (.plain rfl) rfl (ltb rfl) (X_assign (v := (.int .i64 x5_1)) rfl) <| L_nil <| thn_n <| W_ret <| blk_r <| thn_r <| thn_r <| blk_r <| thn_r <| thn_r <| fin_r ?_
          obtain rfl := Option.some.inj H
          obtain rfl := Option.some.inj S17
          have H := C4
          obtain rfl := Option.some.inj H
          exact fin1 rfl e13
        · refine W_false (congrArg Value.bool q22) <| W_skip <| blk_n <| thn_n <| W_reg <| L_op (.plain rfl) rfl (ltb rfl) (X_move (v := (.int .i64 x5_1)) h15) <| L_op (.plain rfl) rfl (ltb rfl) (X_add rfl rfl) <| L_op (.plain rfl) rfl (ltb rfl) (X_assign (v := (.int .i64 (IntKind.wrap .i64 (x5_1 + 1)))) rfl) <| L_nil <| thn_n ?_
          obtain rfl := Option.some.inj H
          exact ⟨_, Nat.lt_succ_self _, IntKind.wrap .i64 (x5_1 + 1), (Kp.upd (Kp.upd (Kp.upd (Kp.upd (Kp.upd (Kp.upd (Kp.upd (Kp.upd (Kp.upd (Kp.upd (Kp.upd (Kp.upd (Kp.upd (Kp.upd K12 rfl) rfl) rfl) rfl) rfl) rfl) rfl) rfl) rfl) rfl) rfl) rfl) rfl) rfl), rfl, e13, S17⟩
      · refine W_false (congrArg Value.bool q18) <| W_exit <| thn_x <| thn_x <| blk_x <| thn_n ?_
        obtain rfl := Option.some.inj H
        obtain rfl := Option.some.inj S17
        exact ⟨(Kp.upd (Kp.upd (Kp.upd (Kp.upd K12 rfl) rfl) rfl) rfl), e13, rfl⟩
  · rintro s6 w5 ⟨K7, e8, y23⟩
    rw [y23] at C4
    have H := C4
    replace H : _ = some _ := H
    refine thn_n <| W_seq <| W_reg <| L_op (.plain rfl) rfl (ltb rfl) (X_assign (v := (.int .i64 (-1))) rfl) <| L_nil <| thn_n <| W_ret <| fin_r ?_
    obtain rfl := Option.some.inj H
    exact fin1 rfl e8
theorem spec_l04At.calls {w : World} {a0 : List Nd} {a1 : List UInt8} {v_a0 : Value} (f_a0 : Rd 4 encNd w v_a0 a0) (h0 : a0.length ≤ 1048576) :
    Calls Tryz.prog 114 #[v_a0, S a1] w (Rt (RP w (.int .i64 (findN a0 a1)))) := by
  obtain ⟨k, h⟩ := spec_l04At.eq a0 a1 h0
  exact spec_l04At.walk f_a0 h
/-! spec.l04OK -/
abbrev spec_l04OK.e1 (a0 : List Nd) (x3_2 : Int) := ((decide (((gt a0 x3_2).kind) = 4)) || (!(decide (recFault (recOf (gt a0 x3_2)) = 0))))
abbrev spec_l04OK.e2 (a0 : List Nd) (x3_2 : Int) := ((!(spec_l04OK.e1 a0 x3_2)) && (decide (0 < x3_2)))
abbrev spec_l04OK.e3 (a0 : List Nd) (x3_2 : Int) := (lessL (cut 47 ((gt a0 (IntKind.wrap .i64 (x3_2 - 1))).path)) (cut 47 ((gt a0 x3_2).path)))
theorem spec_l04OK.walk {k : Nat} {w : World} {a0 : List Nd} {v_a0 : Value} (f_a0 : Rd 4 encNd w v_a0 a0) {r : Bool} (H : spec_l04OK.sh k a0 = some r) :
    Calls Tryz.prog 63 #[v_a0] w (Rt (RP w (.bool r))) := by
  unfold spec_l04OK.sh at H
  refine calls_of_W Tryz.func63 rfl (Nat.le_of_ble_eq_true rfl) Tryz.ntmps63 rfl ?_
  refine W_seq <| W_reg <| L_op (.plain rfl) rfl (ltb rfl) (X_assign (v := (.bool false)) rfl) <| L_nil <| thn_n <| W_seq <| W_seq <| W_reg <| L_op (.plain rfl) rfl (ltb rfl) (X_move (v := v_a0) rfl) <| L_op (.plain rfl) rfl (ltb rfl) (X_lenR Tryz.underlying30 rfl f_a0) <| L_op (.plain rfl) rfl (ltb rfl) (X_gtr rfl rfl) <| L_nil <| thn_n ?_
  rcases bif_two H with ⟨q1, H⟩ | ⟨q1, H⟩
  · refine W_true (congrArg Value.bool q1) <| W_seq <| W_reg <| L_op (.plain rfl) rfl (ltb rfl) (X_assign (v := (.bool false)) rfl) <| L_nil <| thn_n <| W_ret <| thn_r <| fin_r ?_
    obtain rfl := Option.some.inj H
    exact fin1 rfl (Ext.refl w)
  · refine W_false (congrArg Value.bool q1) <| W_skip <| thn_n <| W_seq <| W_seq <| W_reg <| L_op (.plain rfl) rfl (ltb rfl) (X_assign (v := (.int .i64 0)) rfl) <| L_nil <| thn_n ?_
    obtain ⟨z3, L4, C5⟩ := bind_some H
    clear H
    refine  W_cutQ (fun s0 sQ wQ => Kp [(2, 6), (9, 72)] s0 sQ ∧ Ext w wQ ∧ z3 = .inr ()) ?_ ?_
    · refine W_block <| W_loopI (fun s0 kk sQ wQ => ∃ (x3_2 : Int), Kp [(2, 6), (9, 72)] s0 sQ ∧ sQ 3 = .int .i64 x3_2 ∧ Ext w wQ ∧ loopF (spec_l04OK.b1 a0) kk x3_2 = some z3) k ⟨0, (Kp.refl _ _), rfl, (Ext.refl w), L4⟩ ?_
      rintro k10 s11 w12 ⟨x3_2, K13, h16, e14, L15⟩
      cases k10 with
      | zero => exact absurd L15 (by simp [loopF])
      | succ k10 =>
        obtain ⟨t17, H, S18⟩ := loopF_succ L15
        clear L15
        unfold spec_l04OK.b1 at H
        refine W_seq <| W_seq <| W_reg <| L_op (.plain rfl) rfl (ltb rfl) (X_move (v := (.int .i64 x3_2)) h16) <| L_op (.plain rfl) rfl (ltb rfl) (X_move (v := v_a0) (K13 0 rfl)) <| L_op (.plain rfl) rfl (ltb rfl) (X_lenR Tryz.underlying30 rfl (Rd.ext f_a0 e14)) <| L_op (.plain rfl) rfl (ltb rfl) (X_lss rfl rfl) <| L_nil <| thn_n ?_
        rcases bif_two H with ⟨q19, H⟩ | ⟨q19, H⟩
        · refine W_true (congrArg Value.bool q19) <| W_skip <| thn_n <| W_seq <| W_block <| W_seq <| W_seq ?_
          obtain ⟨c20, H⟩ := bif_some H
          obtain ⟨c23, H⟩ := bif_some H
          obtain ⟨c30, H⟩ := bif_some H
          obtain ⟨c33, H⟩ := bif_some H
          obtain ⟨c36, H⟩ := bif_some H
          obtain ⟨c37, H⟩ := bif_some H
          refine W_drawM [LEq v_a0, LEq (.int .i64 x3_2), LAt0 (encNd (gt a0 x3_2)), LAt 0 (encNd (gt a0 x3_2)), LEq (.int .i64 ((gt a0 x3_2).kind)), LEq (.bool (decide (((gt a0 x3_2).kind) = 4))), LEq (.bool (decide (((gt a0 x3_2).kind) = 4))), LIf (!(decide (((gt a0 x3_2).kind) = 4))) (LEq v_a0), LIf (!(decide (((gt a0 x3_2).kind) = 4))) (LEq (.int .i64 x3_2)), LIf (!(decide (((gt a0 x3_2).kind) = 4))) (LAt0 (encNd (gt a0 x3_2))), LIf (!(decide (((gt a0 x3_2).kind) = 4))) (LEq (.agg (encNd (gt a0 x3_2)).toArray)), LIf (!(decide (((gt a0 x3_2).kind) = 4))) (LEq (.agg (encRec (recOf (gt a0 x3_2))).toArray)), LIf (!(decide (((gt a0 x3_2).kind) = 4))) (LEq (.bool (decide (recFault (recOf (gt a0 x3_2)) = 0)))), LIf (!(decide (((gt a0 x3_2).kind) = 4))) (LEq (.bool (!(decide (recFault (recOf (gt a0 x3_2)) = 0))))), LEq (.bool (spec_l04OK.e1 a0 x3_2)), LEq (.bool (spec_l04OK.e1 a0 x3_2)), LIf (!(spec_l04OK.e1 a0 x3_2)) (LEq (.int .i64 x3_2)), LIf (!(spec_l04OK.e1 a0 x3_2)) (LEq (.bool (decide (0 < x3_2)))), LIf (!(spec_l04OK.e1 a0 x3_2)) (LEq (.bool (decide (0 < x3_2)))), LIf (spec_l04OK.e2 a0 x3_2) (LEq v_a0), LIf (spec_l04OK.e2 a0 x3_2) (LEq (.int .i64 x3_2)), LIf (spec_l04OK.e2 a0 x3_2) (LEq (.int .i64 (IntKind.wrap .i64 (x3_2 - 1)))), LIf (spec_l04OK.e2 a0 x3_2) (LAt0 (encNd (gt a0 (IntKind.wrap .i64 (x3_2 - 1))))), LIf (spec_l04OK.e2 a0 x3_2) (LAt 1 (encNd (gt a0 (IntKind.wrap .i64 (x3_2 - 1))))), LIf (spec_l04OK.e2 a0 x3_2) (LEq (S ((gt a0 (IntKind.wrap .i64 (x3_2 - 1))).path))), LIf (spec_l04OK.e2 a0 x3_2) (LEq v_a0), LIf (spec_l04OK.e2 a0 x3_2) (LEq (.int .i64 x3_2)), LIf (spec_l04OK.e2 a0 x3_2) (LAt0 (encNd (gt a0 x3_2))), LIf (spec_l04OK.e2 a0 x3_2) (LAt 1 (encNd (gt a0 x3_2))), LIf (spec_l04OK.e2 a0 x3_2) (LEq (S ((gt a0 x3_2).path))), LIf (spec_l04OK.e2 a0 x3_2) (LEq (.bool (spec_l04OK.e3 a0 x3_2))), LIf (spec_l04OK.e2 a0 x3_2) (LEq (.bool (!(spec_l04OK.e3 a0 x3_2)))), LIf (!(spec_l04OK.e1 a0 x3_2)) (LEq (.bool ((decide (0 < x3_2)) && (!(spec_l04OK.e3 a0 x3_2))))), LEq (.bool ((spec_l04OK.e1 a0 x3_2) || ((decide (0 < x3_2)) && (!(spec_l04OK.e3 a0 x3_2)))))] (by kernel_rfl) (by kernel_rfl) ⟨LEq.mono, LEq.mono, LAt0.mono, LAt.mono, LEq.mono, LEq.mono, LEq.mono, (LIf.mono LEq.mono), (LIf.mono LEq.mono), (LIf.mono LAt0.mono), (LIf.mono LEq.mono), (LIf.mono LEq.mono), (LIf.mono LEq.mono), (LIf.mono LEq.mono), LEq.mono, LEq.mono, (LIf.mono LEq.mono), (LIf.mono LEq.mono), (LIf.mono LEq.mono), (LIf.mono LEq.mono), (LIf.mono LEq.mono), (LIf.mono LEq.mono), (LIf.mono LAt0.mono), (LIf.mono LAt.mono), (LIf.mono LEq.mono), (LIf.mono LEq.mono), (LIf.mono LEq.mono), (LIf.mono LAt0.mono), (LIf.mono LAt.mono), (LIf.mono LEq.mono), (LIf.mono LEq.mono), (LIf.mono LEq.mono), (LIf.mono LEq.mono), LEq.mono, trivial⟩ ⟨?_, ?_, ?_, ?_, ?_, ?_, ?_, ?_, ?_, ?_, ?_, ?_, ?_, ?_, ?_, ?_, ?_, ?_, ?_, ?_, ?_, ?_, ?_, ?_, ?_, ?_, ?_, ?_, ?_, ?_, ?_, ?_, ?_, ?_, trivial⟩ ?_
          · intro s40 w41 e42 hf43 hd44 hu45
            exact L_op (.plain rfl) rfl (ltb rfl) (X_move (v := v_a0) ((hf43 0 rfl).trans (K13 0 rfl))) <| L_nil <| stepEnd rfl rfl (Ext.refl w41) rfl
          · intro s46 w47 e48 hf49 hd50 hu51
            exact L_op (.plain rfl) rfl (ltb rfl) (X_move (v := (.int .i64 x3_2)) ((hf49 3 rfl).trans h16)) <| L_nil <| stepEnd rfl rfl (Ext.refl w47) rfl
          · intro s52 w53 e54 hf55 hd56 hu57
            have d58 : s52 15 = v_a0 := (hd56 0 rfl)
            have d59 : s52 16 = (.int .i64 x3_2) := (hd56 1 rfl)
            have c60 := c20
            exact L_idx (.plain rfl) rfl (ltb rfl) rfl Tryz.underlying30 Tryz.sizeOf80 d58 (Rd.ext f_a0 (Ext.trans e14 e54)) d59 c60 <| fun p61 h62 => L_nil <| stepEnd rfl rfl (Ext.refl w53) ⟨_, rfl, h62⟩
          · intro s63 w64 e65 hf66 hd67 hu68
            obtain ⟨p69, h70, h71⟩ := (hd67 2 rfl)
            exact L_op (.plain rfl) rfl (ltb rfl) (X_fieldAddr Tryz.underlying80 rfl Tryz.sizeOf3 rfl h70) <| L_nil <| stepEnd rfl rfl (Ext.refl w64) ⟨_, rfl, h71⟩
          · intro s72 w73 e74 hf75 hd76 hu77
            obtain ⟨p78, h79, h80⟩ := (hd76 3 rfl)
            exact L_op (.plain rfl) rfl (ltb rfl) (X_loadF Tryz.isAgg3 (j := 0) h80 h79 rfl) <| L_nil <| stepEnd rfl rfl (Ext.refl w73) rfl
          · intro s81 w82 e83 hf84 hd85 hu86
            have d87 : s81 19 = (.int .i64 ((gt a0 x3_2).kind)) := (hd85 4 rfl)
            exact L_op (.plain rfl) rfl (ltb rfl) (X_eql d87 rfl) <| L_nil <| stepEnd rfl rfl (Ext.refl w82) rfl
          · intro s88 w89 e90 hf91 hd92 hu93
            have d94 : s88 20 = (.bool (decide (((gt a0 x3_2).kind) = 4))) := (hd92 5 rfl)
            exact L_op (.plain rfl) rfl (ltb rfl) (X_move (v := (.bool (decide (((gt a0 x3_2).kind) = 4)))) d94) <| L_nil <| stepEnd rfl rfl (Ext.refl w89) rfl
          · intro s95 w96 e97 hf98 hd99 hu100
            rcases bool_two (!(decide (((gt a0 x3_2).kind) = 4))) with b101 | b101
            · have g102 : (decide (((gt a0 x3_2).kind) = 4)) = false := (not_f b101)
              have d103 : s95 21 = (.bool (decide (((gt a0 x3_2).kind) = 4))) := (hd99 6 rfl)
              have d104 : s95 21 = (.bool (decide (((gt a0 x3_2).kind) = 4))) := (hd99 6 rfl)
              exact L_op (.guard 6 false 21 rfl rfl (ltb rfl) (d103.trans (congrArg Value.bool g102))) rfl (ltb rfl) (X_move (v := v_a0) ((hf98 0 rfl).trans (K13 0 rfl))) <| L_nil <| stepEnd rfl rfl (Ext.refl w96) ⟨fun _ => rfl, fun h => absurd (b101.symm.trans h) (by decide)⟩
            · have d105 : s95 21 = (.bool (decide (((gt a0 x3_2).kind) = 4))) := (hd99 6 rfl)
              have g106 : (decide (((gt a0 x3_2).kind) = 4)) = true := (not_ff b101)
              exact L_skip rfl rfl (ltb rfl) (d105.trans (congrArg Value.bool g106)) rfl rfl (ltb rfl) <| L_nil <| stepEnd rfl rfl (Ext.refl w96) ⟨fun h => absurd (b101.symm.trans h) (by decide), fun _ => rfl⟩
          · intro s107 w108 e109 hf110 hd111 hu112
            rcases bool_two (!(decide (((gt a0 x3_2).kind) = 4))) with b113 | b113
            · have g114 : (decide (((gt a0 x3_2).kind) = 4)) = false := (not_f b113)
              have d115 : s107 21 = (.bool (decide (((gt a0 x3_2).kind) = 4))) := (hd111 6 rfl)
              have d116 : s107 21 = (.bool (decide (((gt a0 x3_2).kind) = 4))) := (hd111 6 rfl)
              exact L_op (.guard 6 false 21 rfl rfl (ltb rfl) (d115.trans (congrArg Value.bool g114))) rfl (ltb rfl) (X_move (v := (.int .i64 x3_2)) ((hf110 3 rfl).trans h16)) <| L_nil <| stepEnd rfl rfl (Ext.refl w108) ⟨fun _ => rfl, fun h => absurd (b113.symm.trans h) (by decide)⟩
            · have d117 : s107 21 = (.bool (decide (((gt a0 x3_2).kind) = 4))) := (hd111 6 rfl)
              have g118 : (decide (((gt a0 x3_2).kind) = 4)) = true := (not_ff b113)
              exact L_skip rfl rfl (ltb rfl) (d117.trans (congrArg Value.bool g118)) rfl rfl (ltb rfl) <| L_nil <| stepEnd rfl rfl (Ext.refl w108) ⟨fun h => absurd (b113.symm.trans h) (by decide), fun _ => rfl⟩
          · intro s119 w120 e121 hf122 hd123 hu124
            rcases bool_two (!(decide (((gt a0 x3_2).kind) = 4))) with b125 | b125
            · have g126 : (decide (((gt a0 x3_2).kind) = 4)) = false := (not_f b125)
              have d127 : s119 21 = (.bool (decide (((gt a0 x3_2).kind) = 4))) := (hd123 6 rfl)
              have d128 : s119 21 = (.bool (decide (((gt a0 x3_2).kind) = 4))) := (hd123 6 rfl)
              have d129 : s119 22 = v_a0 := ((hd123 7 rfl).1 (not_mk (not_f b125)))
              have d130 : s119 23 = (.int .i64 x3_2) := ((hd123 8 rfl).1 (not_mk (not_f b125)))
              have c131 := imp_take b125 c23
              exact L_idx (.guard 6 false 21 rfl rfl (ltb rfl) (d127.trans (congrArg Value.bool g126))) rfl (ltb rfl) rfl Tryz.underlying30 Tryz.sizeOf80 d129 (Rd.ext f_a0 (Ext.trans e14 e121)) d130 c131 <| fun p132 h133 => L_nil <| stepEnd rfl rfl (Ext.refl w120) ⟨fun _ => ⟨_, rfl, h133⟩, fun h => absurd (b125.symm.trans h) (by decide)⟩
            · have d134 : s119 21 = (.bool (decide (((gt a0 x3_2).kind) = 4))) := (hd123 6 rfl)
              have g135 : (decide (((gt a0 x3_2).kind) = 4)) = true := (not_ff b125)
              exact L_skip rfl rfl (ltb rfl) (d134.trans (congrArg Value.bool g135)) rfl rfl (ltb rfl) <| L_nil <| stepEnd rfl rfl (Ext.refl w120) ⟨fun h => absurd (b125.symm.trans h) (by decide), fun _ => rfl⟩
          · intro s136 w137 e138 hf139 hd140 hu141
            rcases bool_two (!(decide (((gt a0 x3_2).kind) = 4))) with b142 | b142
            · have g143 : (decide (((gt a0 x3_2).kind) = 4)) = false := (not_f b142)
              have d144 : s136 21 = (.bool (decide (((gt a0 x3_2).kind) = 4))) := (hd140 6 rfl)
              have d145 : s136 21 = (.bool (decide (((gt a0 x3_2).kind) = 4))) := (hd140 6 rfl)
              obtain ⟨p146, h147, h148⟩ := ((hd140 9 rfl).1 (not_mk (not_f b142)))
              exact L_op (.guard 6 false 21 rfl rfl (ltb rfl) (d144.trans (congrArg Value.bool g143))) rfl (ltb rfl) (X_loadS Tryz.isAgg80 Tryz.sizeOf80 rfl h147 h148) <| L_nil <| stepEnd rfl rfl (Ext.refl w137) ⟨fun _ => rfl, fun h => absurd (b142.symm.trans h) (by decide)⟩
            · have d149 : s136 21 = (.bool (decide (((gt a0 x3_2).kind) = 4))) := (hd140 6 rfl)
              have g150 : (decide (((gt a0 x3_2).kind) = 4)) = true := (not_ff b142)
              exact L_skip rfl rfl (ltb rfl) (d149.trans (congrArg Value.bool g150)) rfl rfl (ltb rfl) <| L_nil <| stepEnd rfl rfl (Ext.refl w137) ⟨fun h => absurd (b142.symm.trans h) (by decide), fun _ => rfl⟩
          · intro s151 w152 e153 hf154 hd155 hu156
            rcases bool_two (!(decide (((gt a0 x3_2).kind) = 4))) with b157 | b157
            · have g158 : (decide (((gt a0 x3_2).kind) = 4)) = false := (not_f b157)
              have d159 : s151 21 = (.bool (decide (((gt a0 x3_2).kind) = 4))) := (hd155 6 rfl)
              have d160 : s151 21 = (.bool (decide (((gt a0 x3_2).kind) = 4))) := (hd155 6 rfl)
              have d161 : s151 25 = (.agg (encNd (gt a0 x3_2)).toArray) := ((hd155 10 rfl).1 (not_mk (not_f b157)))
              exact L_callP (.guard 6 false 21 rfl rfl (ltb rfl) (d159.trans (congrArg Value.bool g158))) rfl (ltb rfl) rfl Tryz.call111 (spec_l04Record.calls (w := w152) (a0 := gt a0 x3_2)) (cons2 d161 rfl) <| fun w162 e163 => L_nil <| stepEnd rfl rfl e163 ⟨fun _ => rfl, fun h => absurd (b157.symm.trans h) (by decide)⟩
            · have d164 : s151 21 = (.bool (decide (((gt a0 x3_2).kind) = 4))) := (hd155 6 rfl)
              have g165 : (decide (((gt a0 x3_2).kind) = 4)) = true := (not_ff b157)
              exact L_skip rfl rfl (ltb rfl) (d164.trans (congrArg Value.bool g165)) rfl rfl (ltb rfl) <| L_nil <| stepEnd rfl rfl (Ext.refl w152) ⟨fun h => absurd (b157.symm.trans h) (by decide), fun _ => rfl⟩
          · intro s166 w167 e168 hf169 hd170 hu171
            rcases bool_two (!(decide (((gt a0 x3_2).kind) = 4))) with b172 | b172
            · have g173 : (decide (((gt a0 x3_2).kind) = 4)) = false := (not_f b172)
              have d174 : s166 21 = (.bool (decide (((gt a0 x3_2).kind) = 4))) := (hd170 6 rfl)
              have d175 : s166 21 = (.bool (decide (((gt a0 x3_2).kind) = 4))) := (hd170 6 rfl)
              have d176 : s166 26 = (.agg (encRec (recOf (gt a0 x3_2))).toArray) := ((hd170 11 rfl).1 (not_mk (not_f b172)))
              exact L_callP (.guard 6 false 21 rfl rfl (ltb rfl) (d174.trans (congrArg Value.bool g173))) rfl (ltb rfl) rfl Tryz.call110 (spec_l02OK.calls (w := w167) (a0 := (recOf (gt a0 x3_2)))) (cons2 d176 rfl) <| fun w177 e178 => L_nil <| stepEnd rfl rfl e178 ⟨fun _ => rfl, fun h => absurd (b172.symm.trans h) (by decide)⟩
            · have d179 : s166 21 = (.bool (decide (((gt a0 x3_2).kind) = 4))) := (hd170 6 rfl)
              have g180 : (decide (((gt a0 x3_2).kind) = 4)) = true := (not_ff b172)
              exact L_skip rfl rfl (ltb rfl) (d179.trans (congrArg Value.bool g180)) rfl rfl (ltb rfl) <| L_nil <| stepEnd rfl rfl (Ext.refl w167) ⟨fun h => absurd (b172.symm.trans h) (by decide), fun _ => rfl⟩
          · intro s181 w182 e183 hf184 hd185 hu186
            rcases bool_two (!(decide (((gt a0 x3_2).kind) = 4))) with b187 | b187
            · have g188 : (decide (((gt a0 x3_2).kind) = 4)) = false := (not_f b187)
              have d189 : s181 21 = (.bool (decide (((gt a0 x3_2).kind) = 4))) := (hd185 6 rfl)
              have d190 : s181 21 = (.bool (decide (((gt a0 x3_2).kind) = 4))) := (hd185 6 rfl)
              have d191 : s181 27 = (.bool (decide (recFault (recOf (gt a0 x3_2)) = 0))) := ((hd185 12 rfl).1 (not_mk (not_f b187)))
              exact L_op (.guard 6 false 21 rfl rfl (ltb rfl) (d189.trans (congrArg Value.bool g188))) rfl (ltb rfl) (X_not d191) <| L_nil <| stepEnd rfl rfl (Ext.refl w182) ⟨fun _ => rfl, fun h => absurd (b187.symm.trans h) (by decide)⟩
            · have d192 : s181 21 = (.bool (decide (((gt a0 x3_2).kind) = 4))) := (hd185 6 rfl)
              have g193 : (decide (((gt a0 x3_2).kind) = 4)) = true := (not_ff b187)
              exact L_skip rfl rfl (ltb rfl) (d192.trans (congrArg Value.bool g193)) rfl rfl (ltb rfl) <| L_nil <| stepEnd rfl rfl (Ext.refl w182) ⟨fun h => absurd (b187.symm.trans h) (by decide), fun _ => rfl⟩
          · intro s194 w195 e196 hf197 hd198 hu199
            rcases bool_two (decide (((gt a0 x3_2).kind) = 4)) with b200 | b200
            · have d201 : s194 21 = (.bool (decide (((gt a0 x3_2).kind) = 4))) := (hd198 6 rfl)
              exact L_op (.plain rfl) rfl (ltb rfl) (X_pick (b := true) (v := (.bool true)) (d201.trans (congrArg Value.bool b200)) rfl) <| L_nil <| stepEnd rfl rfl (Ext.refl w195) (or_t b200)
            · have d202 : s194 21 = (.bool (decide (((gt a0 x3_2).kind) = 4))) := (hd198 6 rfl)
              have d203 : s194 28 = (.bool (!(decide (recFault (recOf (gt a0 x3_2)) = 0)))) := ((hd198 13 rfl).1 (not_mk b200))
              exact L_op (.plain rfl) rfl (ltb rfl) (X_pick (b := false) (v := (.bool (!(decide (recFault (recOf (gt a0 x3_2)) = 0))))) (d202.trans (congrArg Value.bool b200)) d203) <| L_nil <| stepEnd rfl rfl (Ext.refl w195) (or_f b200)
          · intro s204 w205 e206 hf207 hd208 hu209
            have d210 : s204 29 = (.bool (spec_l04OK.e1 a0 x3_2)) := (hd208 14 rfl)
            exact L_op (.plain rfl) rfl (ltb rfl) (X_move d210) <| L_nil <| stepEnd rfl rfl (Ext.refl w205) rfl
          · intro s211 w212 e213 hf214 hd215 hu216
            rcases bool_two (!(spec_l04OK.e1 a0 x3_2)) with b217 | b217
            · have g218 : (spec_l04OK.e1 a0 x3_2) = false := (not_f b217)
              have d219 : s211 30 = (.bool (spec_l04OK.e1 a0 x3_2)) := (hd215 15 rfl)
              have d220 : s211 30 = (.bool (spec_l04OK.e1 a0 x3_2)) := (hd215 15 rfl)
              exact L_op (.guard 15 false 30 rfl rfl (ltb rfl) (d219.trans (congrArg Value.bool g218))) rfl (ltb rfl) (X_move (v := (.int .i64 x3_2)) ((hf214 3 rfl).trans h16)) <| L_nil <| stepEnd rfl rfl (Ext.refl w212) ⟨fun _ => rfl, fun h => absurd (b217.symm.trans h) (by decide)⟩
            · have d221 : s211 30 = (.bool (spec_l04OK.e1 a0 x3_2)) := (hd215 15 rfl)
              have g222 : (spec_l04OK.e1 a0 x3_2) = true := (not_ff b217)
              exact L_skip rfl rfl (ltb rfl) (d221.trans (congrArg Value.bool g222)) rfl rfl (ltb rfl) <| L_nil <| stepEnd rfl rfl (Ext.refl w212) ⟨fun h => absurd (b217.symm.trans h) (by decide), fun _ => rfl⟩
          · intro s223 w224 e225 hf226 hd227 hu228
            rcases bool_two (!(spec_l04OK.e1 a0 x3_2)) with b229 | b229
            · have g230 : (spec_l04OK.e1 a0 x3_2) = false := (not_f b229)
              have d231 : s223 30 = (.bool (spec_l04OK.e1 a0 x3_2)) := (hd227 15 rfl)
              have d232 : s223 30 = (.bool (spec_l04OK.e1 a0 x3_2)) := (hd227 15 rfl)
              have d233 : s223 31 = (.int .i64 x3_2) := ((hd227 16 rfl).1 (not_mk (not_f b229)))
              exact L_op (.guard 15 false 30 rfl rfl (ltb rfl) (d231.trans (congrArg Value.bool g230))) rfl (ltb rfl) (X_gtr d233 rfl) <| L_nil <| stepEnd rfl rfl (Ext.refl w224) ⟨fun _ => rfl, fun h => absurd (b229.symm.trans h) (by decide)⟩
            · have d234 : s223 30 = (.bool (spec_l04OK.e1 a0 x3_2)) := (hd227 15 rfl)
              have g235 : (spec_l04OK.e1 a0 x3_2) = true := (not_ff b229)
              exact L_skip rfl rfl (ltb rfl) (d234.trans (congrArg Value.bool g235)) rfl rfl (ltb rfl) <| L_nil <| stepEnd rfl rfl (Ext.refl w224) ⟨fun h => absurd (b229.symm.trans h) (by decide), fun _ => rfl⟩
          · intro s236 w237 e238 hf239 hd240 hu241
            rcases bool_two (!(spec_l04OK.e1 a0 x3_2)) with b242 | b242
            · have g243 : (spec_l04OK.e1 a0 x3_2) = false := (not_f b242)
              have d244 : s236 30 = (.bool (spec_l04OK.e1 a0 x3_2)) := (hd240 15 rfl)
              have d245 : s236 30 = (.bool (spec_l04OK.e1 a0 x3_2)) := (hd240 15 rfl)
              have d246 : s236 32 = (.bool (decide (0 < x3_2))) := ((hd240 17 rfl).1 (not_mk (not_f b242)))
              exact L_op (.guard 15 false 30 rfl rfl (ltb rfl) (d244.trans (congrArg Value.bool g243))) rfl (ltb rfl) (X_move (v := (.bool (decide (0 < x3_2)))) d246) <| L_nil <| stepEnd rfl rfl (Ext.refl w237) ⟨fun _ => rfl, fun h => absurd (b242.symm.trans h) (by decide)⟩
            · have d247 : s236 30 = (.bool (spec_l04OK.e1 a0 x3_2)) := (hd240 15 rfl)
              have g248 : (spec_l04OK.e1 a0 x3_2) = true := (not_ff b242)
              exact L_skip rfl rfl (ltb rfl) (d247.trans (congrArg Value.bool g248)) rfl rfl (ltb rfl) <| L_nil <| stepEnd rfl rfl (Ext.refl w237) ⟨fun h => absurd (b242.symm.trans h) (by decide), fun _ => rfl⟩
          · intro s249 w250 e251 hf252 hd253 hu254
            rcases bool_two (spec_l04OK.e2 a0 x3_2) with b255 | b255
            · have g256 : (decide (0 < x3_2)) = true := (and_r b255)
              have d257 : s249 33 = (.bool (decide (0 < x3_2))) := ((hd253 18 rfl).1 (not_mk (not_f (and_l b255))))
              have d258 : s249 33 = (.bool (decide (0 < x3_2))) := ((hd253 18 rfl).1 (not_mk (not_f (and_l b255))))
              exact L_op (.guard 18 true 33 rfl rfl (ltb rfl) (d257.trans (congrArg Value.bool g256))) rfl (ltb rfl) (X_move (v := v_a0) ((hf252 0 rfl).trans (K13 0 rfl))) <| L_nil <| stepEnd rfl rfl (Ext.refl w250) ⟨fun _ => rfl, fun h => absurd (b255.symm.trans h) (by decide)⟩
            · rcases bool_two (!(spec_l04OK.e1 a0 x3_2)) with b259 | b259
              · have d260 : s249 33 = (.bool (decide (0 < x3_2))) := ((hd253 18 rfl).1 (not_mk (not_f b259)))
                have g261 : (decide (0 < x3_2)) = false := (and_fr b255 b259)
                exact L_skip rfl rfl (ltb rfl) (d260.trans (congrArg Value.bool g261)) rfl rfl (ltb rfl) <| L_nil <| stepEnd rfl rfl (Ext.refl w250) ⟨fun h => absurd (b255.symm.trans h) (by decide), fun _ => rfl⟩
              · exact L_skipU rfl rfl (ltb rfl) ((hd253 18 rfl).2 b259) rfl (ltb rfl) <| L_nil <| stepEnd rfl rfl (Ext.refl w250) ⟨fun h => absurd (b255.symm.trans h) (by decide), fun _ => rfl⟩
          · intro s262 w263 e264 hf265 hd266 hu267
            rcases bool_two (spec_l04OK.e2 a0 x3_2) with b268 | b268
            · have g269 : (decide (0 < x3_2)) = true := (and_r b268)
              have d270 : s262 33 = (.bool (decide (0 < x3_2))) := ((hd266 18 rfl).1 (not_mk (not_f (and_l b268))))
              have d271 : s262 33 = (.bool (decide (0 < x3_2))) := ((hd266 18 rfl).1 (not_mk (not_f (and_l b268))))
              exact L_op (.guard 18 true 33 rfl rfl (ltb rfl) (d270.trans (congrArg Value.bool g269))) rfl (ltb rfl) (X_move (v := (.int .i64 x3_2)) ((hf265 3 rfl).trans h16)) <| L_nil <| stepEnd rfl rfl (Ext.refl w263) ⟨fun _ => rfl, fun h => absurd (b268.symm.trans h) (by decide)⟩
            · rcases bool_two (!(spec_l04OK.e1 a0 x3_2)) with b272 | b272
              · have d273 : s262 33 = (.bool (decide (0 < x3_2))) := ((hd266 18 rfl).1 (not_mk (not_f b272)))
                have g274 : (decide (0 < x3_2)) = false := (and_fr b268 b272)
                exact L_skip rfl rfl (ltb rfl) (d273.trans (congrArg Value.bool g274)) rfl rfl (ltb rfl) <| L_nil <| stepEnd rfl rfl (Ext.refl w263) ⟨fun h => absurd (b268.symm.trans h) (by decide), fun _ => rfl⟩
              · exact L_skipU rfl rfl (ltb rfl) ((hd266 18 rfl).2 b272) rfl (ltb rfl) <| L_nil <| stepEnd rfl rfl (Ext.refl w263) ⟨fun h => absurd (b268.symm.trans h) (by decide), fun _ => rfl⟩
          · intro s275 w276 e277 hf278 hd279 hu280
            rcases bool_two (spec_l04OK.e2 a0 x3_2) with b281 | b281
            · have g282 : (decide (0 < x3_2)) = true := (and_r b281)
              have d283 : s275 33 = (.bool (decide (0 < x3_2))) := ((hd279 18 rfl).1 (not_mk (not_f (and_l b281))))
              have d284 : s275 33 = (.bool (decide (0 < x3_2))) := ((hd279 18 rfl).1 (not_mk (not_f (and_l b281))))
              have d285 : s275 35 = (.int .i64 x3_2) := ((hd279 20 rfl).1 (and_mk (not_mk (not_f (and_l b281))) (and_r b281)))
              exact L_op (.guard 18 true 33 rfl rfl (ltb rfl) (d283.trans (congrArg Value.bool g282))) rfl (ltb rfl) (X_sub d285 rfl) <| L_nil <| stepEnd rfl rfl (Ext.refl w276) ⟨fun _ => rfl, fun h => absurd (b281.symm.trans h) (by decide)⟩
            · rcases bool_two (!(spec_l04OK.e1 a0 x3_2)) with b286 | b286
              · have d287 : s275 33 = (.bool (decide (0 < x3_2))) := ((hd279 18 rfl).1 (not_mk (not_f b286)))
                have g288 : (decide (0 < x3_2)) = false := (and_fr b281 b286)
                exact L_skip rfl rfl (ltb rfl) (d287.trans (congrArg Value.bool g288)) rfl rfl (ltb rfl) <| L_nil <| stepEnd rfl rfl (Ext.refl w276) ⟨fun h => absurd (b281.symm.trans h) (by decide), fun _ => rfl⟩
              · exact L_skipU rfl rfl (ltb rfl) ((hd279 18 rfl).2 b286) rfl (ltb rfl) <| L_nil <| stepEnd rfl rfl (Ext.refl w276) ⟨fun h => absurd (b281.symm.trans h) (by decide), fun _ => rfl⟩
          · intro s289 w290 e291 hf292 hd293 hu294
            rcases bool_two (spec_l04OK.e2 a0 x3_2) with b295 | b295
            · have g296 : (decide (0 < x3_2)) = true := (and_r b295)
              have d297 : s289 33 = (.bool (decide (0 < x3_2))) := ((hd293 18 rfl).1 (not_mk (not_f (and_l b295))))
              have d298 : s289 33 = (.bool (decide (0 < x3_2))) := ((hd293 18 rfl).1 (not_mk (not_f (and_l b295))))
              have d299 : s289 34 = v_a0 := ((hd293 19 rfl).1 (and_mk (not_mk (not_f (and_l b295))) (and_r b295)))
              have d300 : s289 36 = (.int .i64 (IntKind.wrap .i64 (x3_2 - 1))) := ((hd293 21 rfl).1 (and_mk (not_mk (not_f (and_l b295))) (and_r b295)))
              have c301 := imp_take b295 c30
              exact L_idx (.guard 18 true 33 rfl rfl (ltb rfl) (d297.trans (congrArg Value.bool g296))) rfl (ltb rfl) rfl Tryz.underlying30 Tryz.sizeOf80 d299 (Rd.ext f_a0 (Ext.trans e14 e291)) d300 c301 <| fun p302 h303 => L_nil <| stepEnd rfl rfl (Ext.refl w290) ⟨fun _ => ⟨_, rfl, h303⟩, fun h => absurd (b295.symm.trans h) (by decide)⟩
            · rcases bool_two (!(spec_l04OK.e1 a0 x3_2)) with b304 | b304
              · have d305 : s289 33 = (.bool (decide (0 < x3_2))) := ((hd293 18 rfl).1 (not_mk (not_f b304)))
                have g306 : (decide (0 < x3_2)) = false := (and_fr b295 b304)
                exact L_skip rfl rfl (ltb rfl) (d305.trans (congrArg Value.bool g306)) rfl rfl (ltb rfl) <| L_nil <| stepEnd rfl rfl (Ext.refl w290) ⟨fun h => absurd (b295.symm.trans h) (by decide), fun _ => rfl⟩
              · exact L_skipU rfl rfl (ltb rfl) ((hd293 18 rfl).2 b304) rfl (ltb rfl) <| L_nil <| stepEnd rfl rfl (Ext.refl w290) ⟨fun h => absurd (b295.symm.trans h) (by decide), fun _ => rfl⟩
          · intro s307 w308 e309 hf310 hd311 hu312
            rcases bool_two (spec_l04OK.e2 a0 x3_2) with b313 | b313
            · have g314 : (decide (0 < x3_2)) = true := (and_r b313)
              have d315 : s307 33 = (.bool (decide (0 < x3_2))) := ((hd311 18 rfl).1 (not_mk (not_f (and_l b313))))
              have d316 : s307 33 = (.bool (decide (0 < x3_2))) := ((hd311 18 rfl).1 (not_mk (not_f (and_l b313))))
              obtain ⟨p317, h318, h319⟩ := ((hd311 22 rfl).1 (and_mk (not_mk (not_f (and_l b313))) (and_r b313)))
              exact L_op (.guard 18 true 33 rfl rfl (ltb rfl) (d315.trans (congrArg Value.bool g314))) rfl (ltb rfl) (X_fieldAddr Tryz.underlying80 rfl Tryz.sizeOf9 rfl h318) <| L_nil <| stepEnd rfl rfl (Ext.refl w308) ⟨fun _ => ⟨_, rfl, h319⟩, fun h => absurd (b313.symm.trans h) (by decide)⟩
            · rcases bool_two (!(spec_l04OK.e1 a0 x3_2)) with b320 | b320
              · have d321 : s307 33 = (.bool (decide (0 < x3_2))) := ((hd311 18 rfl).1 (not_mk (not_f b320)))
                have g322 : (decide (0 < x3_2)) = false := (and_fr b313 b320)
                exact L_skip rfl rfl (ltb rfl) (d321.trans (congrArg Value.bool g322)) rfl rfl (ltb rfl) <| L_nil <| stepEnd rfl rfl (Ext.refl w308) ⟨fun h => absurd (b313.symm.trans h) (by decide), fun _ => rfl⟩
              · exact L_skipU rfl rfl (ltb rfl) ((hd311 18 rfl).2 b320) rfl (ltb rfl) <| L_nil <| stepEnd rfl rfl (Ext.refl w308) ⟨fun h => absurd (b313.symm.trans h) (by decide), fun _ => rfl⟩
          · intro s323 w324 e325 hf326 hd327 hu328
            rcases bool_two (spec_l04OK.e2 a0 x3_2) with b329 | b329
            · have g330 : (decide (0 < x3_2)) = true := (and_r b329)
              have d331 : s323 33 = (.bool (decide (0 < x3_2))) := ((hd327 18 rfl).1 (not_mk (not_f (and_l b329))))
              have d332 : s323 33 = (.bool (decide (0 < x3_2))) := ((hd327 18 rfl).1 (not_mk (not_f (and_l b329))))
              obtain ⟨p333, h334, h335⟩ := ((hd327 23 rfl).1 (and_mk (not_mk (not_f (and_l b329))) (and_r b329)))
              exact L_op (.guard 18 true 33 rfl rfl (ltb rfl) (d331.trans (congrArg Value.bool g330))) rfl (ltb rfl) (X_loadF Tryz.isAgg9 (j := 1) h335 h334 rfl) <| L_nil <| stepEnd rfl rfl (Ext.refl w324) ⟨fun _ => rfl, fun h => absurd (b329.symm.trans h) (by decide)⟩
            · rcases bool_two (!(spec_l04OK.e1 a0 x3_2)) with b336 | b336
              · have d337 : s323 33 = (.bool (decide (0 < x3_2))) := ((hd327 18 rfl).1 (not_mk (not_f b336)))
                have g338 : (decide (0 < x3_2)) = false := (and_fr b329 b336)
                exact L_skip rfl rfl (ltb rfl) (d337.trans (congrArg Value.bool g338)) rfl rfl (ltb rfl) <| L_nil <| stepEnd rfl rfl (Ext.refl w324) ⟨fun h => absurd (b329.symm.trans h) (by decide), fun _ => rfl⟩
              · exact L_skipU rfl rfl (ltb rfl) ((hd327 18 rfl).2 b336) rfl (ltb rfl) <| L_nil <| stepEnd rfl rfl (Ext.refl w324) ⟨fun h => absurd (b329.symm.trans h) (by decide), fun _ => rfl⟩
          · intro s339 w340 e341 hf342 hd343 hu344
            rcases bool_two (spec_l04OK.e2 a0 x3_2) with b345 | b345
            · have g346 : (decide (0 < x3_2)) = true := (and_r b345)
              have d347 : s339 33 = (.bool (decide (0 < x3_2))) := ((hd343 18 rfl).1 (not_mk (not_f (and_l b345))))
              have d348 : s339 33 = (.bool (decide (0 < x3_2))) := ((hd343 18 rfl).1 (not_mk (not_f (and_l b345))))
              exact L_op (.guard 18 true 33 rfl rfl (ltb rfl) (d347.trans (congrArg Value.bool g346))) rfl (ltb rfl) (X_move (v := v_a0) ((hf342 0 rfl).trans (K13 0 rfl))) <| L_nil <| stepEnd rfl rfl (Ext.refl w340) ⟨fun _ => rfl, fun h => absurd (b345.symm.trans h) (by decide)⟩
            · rcases bool_two (!(spec_l04OK.e1 a0 x3_2)) with b349 | b349
              · have d350 : s339 33 = (.bool (decide (0 < x3_2))) := ((hd343 18 rfl).1 (not_mk (not_f b349)))
                have g351 : (decide (0 < x3_2)) = false := (and_fr b345 b349)
                exact L_skip rfl rfl (ltb rfl) (d350.trans (congrArg Value.bool g351)) rfl rfl (ltb rfl) <| L_nil <| stepEnd rfl rfl (Ext.refl w340) ⟨fun h => absurd (b345.symm.trans h) (by decide), fun _ => rfl⟩
              · exact L_skipU rfl rfl (ltb rfl) ((hd343 18 rfl).2 b349) rfl (ltb rfl) <| L_nil <| stepEnd rfl rfl (Ext.refl w340) ⟨fun h => absurd (b345.symm.trans h) (by decide), fun _ => rfl⟩
          · intro s352 w353 e354 hf355 hd356 hu357
            rcases bool_two (spec_l04OK.e2 a0 x3_2) with b358 | b358
            · have g359 : (decide (0 < x3_2)) = true := (and_r b358)
              have d360 : s352 33 = (.bool (decide (0 < x3_2))) := ((hd356 18 rfl).1 (not_mk (not_f (and_l b358))))
              have d361 : s352 33 = (.bool (decide (0 < x3_2))) := ((hd356 18 rfl).1 (not_mk (not_f (and_l b358))))
              exact L_op (.guard 18 true 33 rfl rfl (ltb rfl) (d360.trans (congrArg Value.bool g359))) rfl (ltb rfl) (X_move (v := (.int .i64 x3_2)) ((hf355 3 rfl).trans h16)) <| L_nil <| stepEnd rfl rfl (Ext.refl w353) ⟨fun _ => rfl, fun h => absurd (b358.symm.trans h) (by decide)⟩
            · rcases bool_two (!(spec_l04OK.e1 a0 x3_2)) with b362 | b362
              · have d363 : s352 33 = (.bool (decide (0 < x3_2))) := ((hd356 18 rfl).1 (not_mk (not_f b362)))
                have g364 : (decide (0 < x3_2)) = false := (and_fr b358 b362)
                exact L_skip rfl rfl (ltb rfl) (d363.trans (congrArg Value.bool g364)) rfl rfl (ltb rfl) <| L_nil <| stepEnd rfl rfl (Ext.refl w353) ⟨fun h => absurd (b358.symm.trans h) (by decide), fun _ => rfl⟩
              · exact L_skipU rfl rfl (ltb rfl) ((hd356 18 rfl).2 b362) rfl (ltb rfl) <| L_nil <| stepEnd rfl rfl (Ext.refl w353) ⟨fun h => absurd (b358.symm.trans h) (by decide), fun _ => rfl⟩
          · intro s365 w366 e367 hf368 hd369 hu370
            rcases bool_two (spec_l04OK.e2 a0 x3_2) with b371 | b371
            · have g372 : (decide (0 < x3_2)) = true := (and_r b371)
              have d373 : s365 33 = (.bool (decide (0 < x3_2))) := ((hd369 18 rfl).1 (not_mk (not_f (and_l b371))))
              have d374 : s365 33 = (.bool (decide (0 < x3_2))) := ((hd369 18 rfl).1 (not_mk (not_f (and_l b371))))
              have d375 : s365 40 = v_a0 := ((hd369 25 rfl).1 (and_mk (not_mk (not_f (and_l b371))) (and_r b371)))
              have d376 : s365 41 = (.int .i64 x3_2) := ((hd369 26 rfl).1 (and_mk (not_mk (not_f (and_l b371))) (and_r b371)))
              have c377 := imp_take b371 c33
              exact L_idx (.guard 18 true 33 rfl rfl (ltb rfl) (d373.trans (congrArg Value.bool g372))) rfl (ltb rfl) rfl Tryz.underlying30 Tryz.sizeOf80 d375 (Rd.ext f_a0 (Ext.trans e14 e367)) d376 c377 <| fun p378 h379 => L_nil <| stepEnd rfl rfl (Ext.refl w366) ⟨fun _ => ⟨_, rfl, h379⟩, fun h => absurd (b371.symm.trans h) (by decide)⟩
            · rcases bool_two (!(spec_l04OK.e1 a0 x3_2)) with b380 | b380
              · have d381 : s365 33 = (.bool (decide (0 < x3_2))) := ((hd369 18 rfl).1 (not_mk (not_f b380)))
                have g382 : (decide (0 < x3_2)) = false := (and_fr b371 b380)
                exact L_skip rfl rfl (ltb rfl) (d381.trans (congrArg Value.bool g382)) rfl rfl (ltb rfl) <| L_nil <| stepEnd rfl rfl (Ext.refl w366) ⟨fun h => absurd (b371.symm.trans h) (by decide), fun _ => rfl⟩
              · exact L_skipU rfl rfl (ltb rfl) ((hd369 18 rfl).2 b380) rfl (ltb rfl) <| L_nil <| stepEnd rfl rfl (Ext.refl w366) ⟨fun h => absurd (b371.symm.trans h) (by decide), fun _ => rfl⟩
          · intro s383 w384 e385 hf386 hd387 hu388
            rcases bool_two (spec_l04OK.e2 a0 x3_2) with b389 | b389
            · have g390 : (decide (0 < x3_2)) = true := (and_r b389)
              have d391 : s383 33 = (.bool (decide (0 < x3_2))) := ((hd387 18 rfl).1 (not_mk (not_f (and_l b389))))
              have d392 : s383 33 = (.bool (decide (0 < x3_2))) := ((hd387 18 rfl).1 (not_mk (not_f (and_l b389))))
              obtain ⟨p393, h394, h395⟩ := ((hd387 27 rfl).1 (and_mk (not_mk (not_f (and_l b389))) (and_r b389)))
              exact L_op (.guard 18 true 33 rfl rfl (ltb rfl) (d391.trans (congrArg Value.bool g390))) rfl (ltb rfl) (X_fieldAddr Tryz.underlying80 rfl Tryz.sizeOf9 rfl h394) <| L_nil <| stepEnd rfl rfl (Ext.refl w384) ⟨fun _ => ⟨_, rfl, h395⟩, fun h => absurd (b389.symm.trans h) (by decide)⟩
            · rcases bool_two (!(spec_l04OK.e1 a0 x3_2)) with b396 | b396
              · have d397 : s383 33 = (.bool (decide (0 < x3_2))) := ((hd387 18 rfl).1 (not_mk (not_f b396)))
                have g398 : (decide (0 < x3_2)) = false := (and_fr b389 b396)
                exact L_skip rfl rfl (ltb rfl) (d397.trans (congrArg Value.bool g398)) rfl rfl (ltb rfl) <| L_nil <| stepEnd rfl rfl (Ext.refl w384) ⟨fun h => absurd (b389.symm.trans h) (by decide), fun _ => rfl⟩
              · exact L_skipU rfl rfl (ltb rfl) ((hd387 18 rfl).2 b396) rfl (ltb rfl) <| L_nil <| stepEnd rfl rfl (Ext.refl w384) ⟨fun h => absurd (b389.symm.trans h) (by decide), fun _ => rfl⟩
          · intro s399 w400 e401 hf402 hd403 hu404
            rcases bool_two (spec_l04OK.e2 a0 x3_2) with b405 | b405
            · have g406 : (decide (0 < x3_2)) = true := (and_r b405)
              have d407 : s399 33 = (.bool (decide (0 < x3_2))) := ((hd403 18 rfl).1 (not_mk (not_f (and_l b405))))
              have d408 : s399 33 = (.bool (decide (0 < x3_2))) := ((hd403 18 rfl).1 (not_mk (not_f (and_l b405))))
              obtain ⟨p409, h410, h411⟩ := ((hd403 28 rfl).1 (and_mk (not_mk (not_f (and_l b405))) (and_r b405)))
              exact L_op (.guard 18 true 33 rfl rfl (ltb rfl) (d407.trans (congrArg Value.bool g406))) rfl (ltb rfl) (X_loadF Tryz.isAgg9 (j := 1) h411 h410 rfl) <| L_nil <| stepEnd rfl rfl (Ext.refl w400) ⟨fun _ => rfl, fun h => absurd (b405.symm.trans h) (by decide)⟩
            · rcases bool_two (!(spec_l04OK.e1 a0 x3_2)) with b412 | b412
              · have d413 : s399 33 = (.bool (decide (0 < x3_2))) := ((hd403 18 rfl).1 (not_mk (not_f b412)))
                have g414 : (decide (0 < x3_2)) = false := (and_fr b405 b412)
                exact L_skip rfl rfl (ltb rfl) (d413.trans (congrArg Value.bool g414)) rfl rfl (ltb rfl) <| L_nil <| stepEnd rfl rfl (Ext.refl w400) ⟨fun h => absurd (b405.symm.trans h) (by decide), fun _ => rfl⟩
              · exact L_skipU rfl rfl (ltb rfl) ((hd403 18 rfl).2 b412) rfl (ltb rfl) <| L_nil <| stepEnd rfl rfl (Ext.refl w400) ⟨fun h => absurd (b405.symm.trans h) (by decide), fun _ => rfl⟩
          · intro s415 w416 e417 hf418 hd419 hu420
            rcases bool_two (spec_l04OK.e2 a0 x3_2) with b421 | b421
            · have g422 : (decide (0 < x3_2)) = true := (and_r b421)
              have d423 : s415 33 = (.bool (decide (0 < x3_2))) := ((hd419 18 rfl).1 (not_mk (not_f (and_l b421))))
              have d424 : s415 33 = (.bool (decide (0 < x3_2))) := ((hd419 18 rfl).1 (not_mk (not_f (and_l b421))))
              have d425 : s415 39 = (S ((gt a0 (IntKind.wrap .i64 (x3_2 - 1))).path)) := ((hd419 24 rfl).1 (and_mk (not_mk (not_f (and_l b421))) (and_r b421)))
              have d426 : s415 44 = (S ((gt a0 x3_2).path)) := ((hd419 29 rfl).1 (and_mk (not_mk (not_f (and_l b421))) (and_r b421)))
              have c427 := imp_take b421 c36
              have c428 := imp_take b421 c37
              exact L_callP (.guard 18 true 33 rfl rfl (ltb rfl) (d423.trans (congrArg Value.bool g422))) rfl (ltb rfl) rfl Tryz.call112 (spec_l01Less.calls (w := w416) (a0 := (gt a0 (IntKind.wrap .i64 (x3_2 - 1))).path) (a1 := (gt a0 x3_2).path) (of_decide_eq_true c427) (of_decide_eq_true c428)) (cons2 d425 (cons2 d426 rfl)) <| fun w429 e430 => L_nil <| stepEnd rfl rfl e430 ⟨fun _ => rfl, fun h => absurd (b421.symm.trans h) (by decide)⟩
            · rcases bool_two (!(spec_l04OK.e1 a0 x3_2)) with b431 | b431
              · have d432 : s415 33 = (.bool (decide (0 < x3_2))) := ((hd419 18 rfl).1 (not_mk (not_f b431)))
                have g433 : (decide (0 < x3_2)) = false := (and_fr b421 b431)
                exact L_skip rfl rfl (ltb rfl) (d432.trans (congrArg Value.bool g433)) rfl rfl (ltb rfl) <| L_nil <| stepEnd rfl rfl (Ext.refl w416) ⟨fun h => absurd (b421.symm.trans h) (by decide), fun _ => rfl⟩
              · exact L_skipU rfl rfl (ltb rfl) ((hd419 18 rfl).2 b431) rfl (ltb rfl) <| L_nil <| stepEnd rfl rfl (Ext.refl w416) ⟨fun h => absurd (b421.symm.trans h) (by decide), fun _ => rfl⟩
          · intro s434 w435 e436 hf437 hd438 hu439
            rcases bool_two (spec_l04OK.e2 a0 x3_2) with b440 | b440
            · have g441 : (decide (0 < x3_2)) = true := (and_r b440)
              have d442 : s434 33 = (.bool (decide (0 < x3_2))) := ((hd438 18 rfl).1 (not_mk (not_f (and_l b440))))
              have d443 : s434 33 = (.bool (decide (0 < x3_2))) := ((hd438 18 rfl).1 (not_mk (not_f (and_l b440))))
              have d444 : s434 45 = (.bool (spec_l04OK.e3 a0 x3_2)) := ((hd438 30 rfl).1 (and_mk (not_mk (not_f (and_l b440))) (and_r b440)))
              exact L_op (.guard 18 true 33 rfl rfl (ltb rfl) (d442.trans (congrArg Value.bool g441))) rfl (ltb rfl) (X_not d444) <| L_nil <| stepEnd rfl rfl (Ext.refl w435) ⟨fun _ => rfl, fun h => absurd (b440.symm.trans h) (by decide)⟩
            · rcases bool_two (!(spec_l04OK.e1 a0 x3_2)) with b445 | b445
              · have d446 : s434 33 = (.bool (decide (0 < x3_2))) := ((hd438 18 rfl).1 (not_mk (not_f b445)))
                have g447 : (decide (0 < x3_2)) = false := (and_fr b440 b445)
                exact L_skip rfl rfl (ltb rfl) (d446.trans (congrArg Value.bool g447)) rfl rfl (ltb rfl) <| L_nil <| stepEnd rfl rfl (Ext.refl w435) ⟨fun h => absurd (b440.symm.trans h) (by decide), fun _ => rfl⟩
              · exact L_skipU rfl rfl (ltb rfl) ((hd438 18 rfl).2 b445) rfl (ltb rfl) <| L_nil <| stepEnd rfl rfl (Ext.refl w435) ⟨fun h => absurd (b440.symm.trans h) (by decide), fun _ => rfl⟩
          · intro s448 w449 e450 hf451 hd452 hu453
            rcases bool_two (!(spec_l04OK.e1 a0 x3_2)) with b454 | b454
            · have g455 : (spec_l04OK.e1 a0 x3_2) = false := (not_f b454)
              have d456 : s448 30 = (.bool (spec_l04OK.e1 a0 x3_2)) := (hd452 15 rfl)
              rcases bool_two (decide (0 < x3_2)) with b457 | b457
              · have d458 : s448 33 = (.bool (decide (0 < x3_2))) := ((hd452 18 rfl).1 (not_mk (not_f b454)))
                have d459 : s448 46 = (.bool (!(spec_l04OK.e3 a0 x3_2))) := ((hd452 31 rfl).1 (and_mk (not_mk (not_f b454)) b457))
                exact L_op (.guard 15 false 30 rfl rfl (ltb rfl) (d456.trans (congrArg Value.bool g455))) rfl (ltb rfl) (X_pick (b := true) (v := (.bool (!(spec_l04OK.e3 a0 x3_2)))) (d458.trans (congrArg Value.bool b457)) d459) <| L_nil <| stepEnd rfl rfl (Ext.refl w449) ⟨fun _ => (and_t b457), fun h => absurd (b454.symm.trans h) (by decide)⟩
              · have d460 : s448 33 = (.bool (decide (0 < x3_2))) := ((hd452 18 rfl).1 (not_mk (not_f b454)))
                exact L_op (.guard 15 false 30 rfl rfl (ltb rfl) (d456.trans (congrArg Value.bool g455))) rfl (ltb rfl) (X_pick (b := false) (v := (.bool false)) (d460.trans (congrArg Value.bool b457)) rfl) <| L_nil <| stepEnd rfl rfl (Ext.refl w449) ⟨fun _ => (and_f b457), fun h => absurd (b454.symm.trans h) (by decide)⟩
            · have d461 : s448 30 = (.bool (spec_l04OK.e1 a0 x3_2)) := (hd452 15 rfl)
              have g462 : (spec_l04OK.e1 a0 x3_2) = true := (not_ff b454)
              exact L_skip rfl rfl (ltb rfl) (d461.trans (congrArg Value.bool g462)) rfl rfl (ltb rfl) <| L_nil <| stepEnd rfl rfl (Ext.refl w449) ⟨fun h => absurd (b454.symm.trans h) (by decide), fun _ => rfl⟩
          · intro s463 w464 e465 hf466 hd467 hu468
            rcases bool_two (spec_l04OK.e1 a0 x3_2) with b469 | b469
            · have d470 : s463 30 = (.bool (spec_l04OK.e1 a0 x3_2)) := (hd467 15 rfl)
              exact L_op (.plain rfl) rfl (ltb rfl) (X_pick (b := true) (v := (.bool true)) (d470.trans (congrArg Value.bool b469)) rfl) <| L_nil <| stepEnd rfl rfl (Ext.refl w464) (or_t b469)
            · have d471 : s463 30 = (.bool (spec_l04OK.e1 a0 x3_2)) := (hd467 15 rfl)
              have d472 : s463 47 = (.bool ((decide (0 < x3_2)) && (!(spec_l04OK.e3 a0 x3_2)))) := ((hd467 32 rfl).1 (not_mk b469))
              exact L_op (.plain rfl) rfl (ltb rfl) (X_pick (b := false) (v := (.bool ((decide (0 < x3_2)) && (!(spec_l04OK.e3 a0 x3_2))))) (d471.trans (congrArg Value.bool b469)) d472) <| L_nil <| stepEnd rfl rfl (Ext.refl w464) (or_f b469)
          intro s473 w474 e475 hf476 ha477
          have K478 := Kp.ofD (kp := [(15, 49)]) rfl hf476
          have d479 : s473 48 = (.bool ((spec_l04OK.e1 a0 x3_2) || ((decide (0 < x3_2)) && (!(spec_l04OK.e3 a0 x3_2))))) := ha477 33 rfl
          clear ha477 hf476
          refine thn_n ?_
          rcases bif_two H with ⟨q480, H⟩ | ⟨q480, H⟩
          · refine W_true (d479.trans (congrArg Value.bool q480)) <| W_seq <| W_reg <| L_op (.plain rfl) rfl (ltb rfl) (X_assign (v := (.bool false)) rfl) <| L_nil <| thn_n <| W_ret <| thn_r <| blk_r <| thn_r <| thn_r <| blk_r <| thn_r <| thn_r <| fin_r ?_
            obtain rfl := Option.some.inj H
            obtain rfl := Option.some.inj S18
            have H := C5
            obtain rfl := Option.some.inj H
            exact fin1 rfl (Ext.trans e14 e475)
          · refine W_false (d479.trans (congrArg Value.bool q480)) <| W_skip <| thn_n <| W_seq <| W_reg <| L_op (.plain rfl) rfl (ltb rfl) (X_move (v := v_a0) ((K478 0 rfl).trans (K13 0 rfl))) <| L_op (.plain rfl) rfl (ltb rfl) (X_move (v := (.int .i64 x3_2)) ((K478 3 rfl).trans h16)) ?_
            obtain ⟨c481, H⟩ := bif_some H
            refine L_idx (.plain rfl) rfl (ltb rfl) rfl Tryz.underlying30 Tryz.sizeOf80 rfl (Rd.ext f_a0 (Ext.trans e14 e475)) rfl c481 <| fun p482 h483 => L_op (.plain rfl) rfl (ltb rfl) (X_fieldAddr Tryz.underlying80 rfl Tryz.sizeOf9 rfl rfl) <| L_op (.plain rfl) rfl (ltb rfl) (X_loadF Tryz.isAgg9 (j := 1) h483 rfl rfl) ?_
            obtain ⟨c484, H⟩ := bif_some H
            refine L_callP (.plain rfl) rfl (ltb rfl) rfl Tryz.call113 (spec_l01Parent.calls (w := w474) (a0 := (gt a0 x3_2).path) (of_decide_eq_true c484)) rfl <| fun w485 e486 => L_op (.plain rfl) rfl (ltb rfl) (X_assign (v := (S (parentP ((gt a0 x3_2).path)))) rfl) <| L_nil <| thn_n <| W_seq <| W_reg <| L_op (.plain rfl) rfl (ltb rfl) (X_move (v := (S (parentP ((gt a0 x3_2).path)))) rfl) <| L_op (.plain rfl) rfl (ltb rfl) (X_sne rfl rfl) <| L_nil <| thn_n ?_
            rcases bif_two H with ⟨q487, H⟩ | ⟨q487, H⟩
            · refine W_true (congrArg Value.bool q487) <| W_seq <| W_reg <| L_op (.plain rfl) rfl (ltb rfl) (X_move (v := v_a0) ((K478 0 rfl).trans (K13 0 rfl))) <| L_op (.plain rfl) rfl (ltb rfl) (X_move (v := (.int .i64 x3_2)) ((K478 3 rfl).trans h16)) ?_
              obtain ⟨c488, H⟩ := bif_some H
              refine L_sub (.plain rfl) rfl (ltb rfl) rfl Tryz.underlying30 Tryz.sizeOf80 rfl (Rd.ext f_a0 (Ext.trans (Ext.trans e14 e475) e486)) (l := 0) (h := x3_2) rfl ⟨_, rfl⟩ c488 <| fun v489 h490 => L_op (.plain rfl) rfl (ltb rfl) (X_move (v := (S (parentP ((gt a0 x3_2).path)))) rfl) ?_
              obtain ⟨c491, H⟩ := bif_some H
              refine L_callP (.plain rfl) rfl (ltb rfl) rfl Tryz.call114 (spec_l04At.calls (w := w485) (a0 := sub a0 0 x3_2) (a1 := (parentP ((gt a0 x3_2).path))) h490 (of_decide_eq_true c491)) rfl <| fun w492 e493 => L_op (.plain rfl) rfl (ltb rfl) (X_assign (v := (.int .i64 (findN (sub a0 0 x3_2) (parentP ((gt a0 x3_2).path))))) rfl) <| L_nil <| thn_n <| W_seq <| W_reg <| L_op (.plain rfl) rfl (ltb rfl) (X_move (v := (.int .i64 (findN (sub a0 0 x3_2) (parentP ((gt a0 x3_2).path))))) rfl) <| L_op (.plain rfl) rfl (ltb rfl) (X_lss rfl rfl) <| L_op (.plain rfl) rfl (ltb rfl) (X_move rfl) ?_
              obtain ⟨z495, x496, H⟩ := bind_some H
              refine L_grpE 7 [(65, 72)] 71 (fun q => q = z495) ?_ ?_
              · rcases bif_two x496 with ⟨b493_, H⟩ | ⟨b493_, H⟩
                · refine L_skip rfl rfl (ltb rfl) (congrArg Value.bool b493_) rfl rfl (ltb rfl) <| L_skip rfl rfl (ltb rfl) (congrArg Value.bool b493_) rfl rfl (ltb rfl) <| L_skip rfl rfl (ltb rfl) (congrArg Value.bool b493_) rfl rfl (ltb rfl) <| L_skip rfl rfl (ltb rfl) (congrArg Value.bool b493_) rfl rfl (ltb rfl) <| L_skip rfl rfl (ltb rfl) (congrArg Value.bool b493_) rfl rfl (ltb rfl) <| L_skip rfl rfl (ltb rfl) (congrArg Value.bool b493_) rfl rfl (ltb rfl) <| L_op (.plain rfl) rfl (ltb rfl) (X_pick (b := true) (v := (.bool true)) (congrArg Value.bool b493_) rfl) ?_
                  obtain rfl := Option.some.inj H
                  exact L_nil <| thn_n ⟨(Kp.upd (Kp.upd (Kp.upd (Kp.upd (Kp.upd (Kp.upd (Kp.upd (Kp.refl _ _) rfl) rfl) rfl) rfl) rfl) rfl) rfl), ⟨_, rfl, rfl⟩, (Ext.refl w492)⟩
                · refine L_op (.guard 2 false 64 rfl rfl (ltb rfl) (congrArg Value.bool b493_)) rfl (ltb rfl) (X_move (v := v_a0) ((K478 0 rfl).trans (K13 0 rfl))) <| L_op (.guard 2 false 64 rfl rfl (ltb rfl) (congrArg Value.bool b493_)) rfl (ltb rfl) (X_move (v := (.int .i64 (findN (sub a0 0 x3_2) (parentP ((gt a0 x3_2).path))))) rfl) ?_
                  obtain ⟨c495, H⟩ := bif_some H
                  refine L_idx (.guard 2 false 64 rfl rfl (ltb rfl) (congrArg Value.bool b493_)) rfl (ltb rfl) rfl Tryz.underlying30 Tryz.sizeOf80 rfl (Rd.ext f_a0 (Ext.trans (Ext.trans (Ext.trans e14 e475) e486) e493)) rfl c495 <| fun p496 h497 => L_op (.guard 2 false 64 rfl rfl (ltb rfl) (congrArg Value.bool b493_)) rfl (ltb rfl) (X_fieldAddr Tryz.underlying80 rfl Tryz.sizeOf3 rfl rfl) <| L_op (.guard 2 false 64 rfl rfl (ltb rfl) (congrArg Value.bool b493_)) rfl (ltb rfl) (X_loadF Tryz.isAgg3 (j := 0) h497 rfl rfl) <| L_op (.guard 2 false 64 rfl rfl (ltb rfl) (congrArg Value.bool b493_)) rfl (ltb rfl) (X_neq rfl rfl) <| L_op (.plain rfl) rfl (ltb rfl) (X_pick (b := false) (v := (.bool (!decide (((gt a0 (findN (sub a0 0 x3_2) (parentP ((gt a0 x3_2).path)))).kind) = 3)))) (congrArg Value.bool b493_) rfl) ?_
                  obtain rfl := Option.some.inj H
                  exact L_nil <| thn_n ⟨(Kp.upd (Kp.upd (Kp.upd (Kp.upd (Kp.upd (Kp.upd (Kp.upd (Kp.refl _ _) rfl) rfl) rfl) rfl) rfl) rfl) rfl), ⟨_, rfl, rfl⟩, (Ext.refl w492)⟩
              intro s501 w497 z502 K498 hq h499 e500
              rw [hq] at h499; clear hq
              refine L_nil <| thn_n ?_
              rcases bif_two H with ⟨q503, H⟩ | ⟨q503, H⟩
              · refine W_true (h499.trans (congrArg Value.bool q503)) <| W_seq <| W_reg <| L_op (.plain rfl) rfl (ltb rfl) (X_assign (v := (.bool false)) rfl) <| L_nil <| thn_n <| W_ret <| blk_r <| thn_r <| thn_r <| blk_r <| thn_r <| thn_r <| fin_r ?_
                obtain rfl := Option.some.inj H
                obtain rfl := Option.some.inj S18
                have H := C5
                obtain rfl := Option.some.inj H
                exact fin1 rfl (Ext.trans (Ext.trans (Ext.trans (Ext.trans e14 e475) e486) e493) e500)
              · refine W_false (h499.trans (congrArg Value.bool q503)) <| W_skip <| blk_n <| thn_n <| W_reg <| L_op (.plain rfl) rfl (ltb rfl) (X_move (v := (.int .i64 x3_2)) ((K498 3 rfl).trans ((K478 3 rfl).trans h16))) <| L_op (.plain rfl) rfl (ltb rfl) (X_add rfl rfl) <| L_op (.plain rfl) rfl (ltb rfl) (X_assign (v := (.int .i64 (IntKind.wrap .i64 (x3_2 + 1)))) rfl) <| L_nil <| thn_n ?_
                obtain rfl := Option.some.inj H
                exact ⟨_, Nat.lt_succ_self _, IntKind.wrap .i64 (x3_2 + 1), (Kp.upd (Kp.upd (Kp.upd (Kp.cut (Kp.upd (Kp.upd (Kp.upd (Kp.upd (Kp.upd (Kp.upd (Kp.upd (Kp.upd (Kp.upd (Kp.upd (Kp.upd (Kp.upd (Kp.upd (Kp.upd (Kp.upd (Kp.upd (Kp.upd (Kp.upd (Kp.cut (Kp.upd (Kp.upd (Kp.upd (Kp.upd K13 rfl) rfl) rfl) rfl) K478 rfl) rfl) rfl) rfl) rfl) rfl) rfl) rfl) rfl) rfl) rfl) rfl) rfl) rfl) rfl) rfl) rfl) rfl) rfl) K498 rfl) rfl) rfl) rfl), rfl, (Ext.trans (Ext.trans (Ext.trans (Ext.trans e14 e475) e486) e493) e500), S18⟩
            · refine W_false (congrArg Value.bool q487) <| W_skip <| blk_n <| thn_n <| W_reg <| L_op (.plain rfl) rfl (ltb rfl) (X_move (v := (.int .i64 x3_2)) ((K478 3 rfl).trans h16)) <| L_op (.plain rfl) rfl (ltb rfl) (X_add rfl rfl) <| L_op (.plain rfl) rfl (ltb rfl) (X_assign (v := (.int .i64 (IntKind.wrap .i64 (x3_2 + 1)))) rfl) <| L_nil <| thn_n ?_
              obtain rfl := Option.some.inj H
              exact ⟨_, Nat.lt_succ_self _, IntKind.wrap .i64 (x3_2 + 1), (Kp.upd (Kp.upd (Kp.upd (Kp.upd (Kp.upd (Kp.upd (Kp.upd (Kp.upd (Kp.upd (Kp.upd (Kp.upd (Kp.upd (Kp.cut (Kp.upd (Kp.upd (Kp.upd (Kp.upd K13 rfl) rfl) rfl) rfl) K478 rfl) rfl) rfl) rfl) rfl) rfl) rfl) rfl) rfl) rfl) rfl) rfl) rfl), rfl, (Ext.trans (Ext.trans e14 e475) e486), S18⟩
        · refine W_false (congrArg Value.bool q19) <| W_exit <| thn_x <| thn_x <| blk_x <| thn_n ?_
          obtain rfl := Option.some.inj H
          obtain rfl := Option.some.inj S18
          exact ⟨(Kp.upd (Kp.upd (Kp.upd (Kp.upd K13 rfl) rfl) rfl) rfl), e14, rfl⟩
    · rintro s7 w6 ⟨K8, e9, y504⟩
      rw [y504] at C5
      have H := C5
      replace H : _ = some _ := H
      refine thn_n <| W_seq <| W_reg <| L_op (.plain rfl) rfl (ltb rfl) (X_assign (v := (.bool true)) rfl) <| L_nil <| thn_n <| W_ret <| fin_r ?_
      obtain rfl := Option.some.inj H
      exact fin1 rfl e9
theorem spec_l04OK.calls {w : World} {a0 : List Nd} {v_a0 : Value} (f_a0 : Rd 4 encNd w v_a0 a0) (h0 : ∀ x ∈ a0, x.path.length ≤ 1048576) :
    Calls Tryz.prog 63 #[v_a0] w (Rt (RP w (.bool (treeOK a0)))) := by
  obtain ⟨k, h⟩ := spec_l04OK.eq a0 h0
  exact spec_l04OK.walk f_a0 h
/-! (impl.Node).record -/
theorem impl_Node_record.walk {w : World} {a0 : Nd} {r : Rec} (H : impl_Node_record.sh a0 = some r) :
    Calls Tryz.prog 143 #[.agg (encNd a0).toArray] w (Rt (RP w (.agg (encRec r).toArray))) := by
  unfold impl_Node_record.sh at H
  refine calls_of_WG Tryz.func143 rfl (Nat.le_of_ble_eq_true rfl) Tryz.ntmps143 ?_
  refine W_seq <| W_reg <| L_box (.plain rfl) rfl (ltb rfl) rfl rfl <| fun b1 w2 z3 z4 e5 k6 => L_alloc (.plain rfl) rfl (ltb rfl) rfl Tryz.zeroValue78 <| fun b7 w8 z9 z10 e11 k12 => L_nil <| thn_n <| W_seq <| W_reg <| L_op (.plain rfl) rfl (ltb rfl) (X_fieldAddr Tryz.underlying80 rfl Tryz.sizeOf3 rfl rfl) <| L_op (.plain rfl) rfl (ltb rfl) (X_loadB Tryz.isAgg3 (Blk.ext k6 e11) rfl rfl) <| L_op (.plain rfl) rfl (ltb rfl) (X_fieldAddr Tryz.underlying80 rfl Tryz.sizeOf9 rfl rfl) <| L_op (.plain rfl) rfl (ltb rfl) (X_loadB Tryz.isAgg9 (Blk.ext k6 e11) rfl rfl) <| L_op (.plain rfl) rfl (ltb rfl) (X_fieldAddr Tryz.underlying80 rfl Tryz.sizeOf9 rfl rfl) <| L_op (.plain rfl) rfl (ltb rfl) (X_loadB Tryz.isAgg9 (Blk.ext k6 e11) rfl rfl) <| L_op (.plain rfl) rfl (ltb rfl) (X_fieldAddr Tryz.underlying80 rfl Tryz.sizeOf3 rfl rfl) <| L_op (.plain rfl) rfl (ltb rfl) (X_loadB Tryz.isAgg3 (Blk.ext k6 e11) rfl rfl) <| L_op (.plain rfl) rfl (ltb rfl) (X_build1 (vs := [(0, (.int .i64 a0.kind)), (1, (S a0.path)), (2, (S a0.body)), (3, (.int .i64 a0.mode)), (4, (.bool false))]) (pl := #[(0, 1), (1, 1), (2, 1), (3, 1), (4, 1)]) Tryz.underlying78 Tryz.zeroValue78 rfl (fun _ => by kernel_rfl) rfl rfl rfl) <| L_storeA (.plain rfl) rfl rfl Tryz.sizeOf78 rfl rfl rfl rfl rfl k12 <| fun w13 h14 k15 => L_nil <| thn_n <| W_ret <| finG_r ?_
  obtain rfl := Option.some.inj H
  exact finC1 rfl rfl k15 Tryz.isAgg78 Tryz.sizeOf78 rfl (Ext.trans e5 (Below.trans e11 (Wr.below h14 (Nat.le_of_eq z9))))
theorem impl_Node_record.calls {w : World} {a0 : Nd} :
    Calls Tryz.prog 143 #[.agg (encNd a0).toArray] w (Rt (RP w (.agg (encRec (recOf a0)).toArray))) := impl_Node_record.walk (impl_Node_record.eq a0)
/-! impl.nodeOK -/
theorem impl_nodeOK.walk {w : World} {a0 : Nd} (gv : GV 0 w) {r : Bool} (H : impl_nodeOK.sh a0 = some r) :
    Calls Tryz.prog 117 #[.agg (encNd a0).toArray] w (Rt (RP w (.bool r))) := by
  unfold impl_nodeOK.sh at H
  refine calls_of_W Tryz.func117 rfl (Nat.le_of_ble_eq_true rfl) Tryz.ntmps117 rfl ?_
  refine W_seq <| W_reg <| L_box (.plain rfl) rfl (ltb rfl) rfl rfl <| fun b1 w2 z3 z4 e5 k6 => L_op (.plain rfl) rfl (ltb rfl) (X_assign (v := (.bool false)) rfl) <| L_nil <| thn_n <| W_seq <| W_reg <| L_op (.plain rfl) rfl (ltb rfl) (X_loadS Tryz.isAgg80 Tryz.sizeOf80 rfl rfl (Blk.at0 k6)) <| L_callP (.plain rfl) rfl (ltb rfl) rfl Tryz.call143 (impl_Node_record.calls (w := w2) (a0 := a0)) rfl <| fun w7 e8 => L_callP (.plain rfl) rfl (ltb rfl) rfl Tryz.call166 (impl_RecordOK.calls (w := w7) (a0 := (recOf a0)) (GV.ext gv (Ext.trans e5 e8))) rfl <| fun w9 e10 => L_op (.plain rfl) rfl (ltb rfl) (X_move (v := (.bool (decide (recFault (recOf a0) = 0)))) rfl) <| L_grp 4 [(7, 11)] 10 (.bool ((decide (recFault (recOf a0) = 0)) && (!decide (a0.kind = 4)))) ?_ ?_
  · rcases bool_two (decide (recFault (recOf a0) = 0)) with b10_ | b10_
    · exact L_op (.guard 3 true 6 rfl rfl (ltb rfl) (congrArg Value.bool b10_)) rfl (ltb rfl) (X_fieldAddr Tryz.underlying80 rfl Tryz.sizeOf3 rfl rfl) <| L_op (.guard 3 true 6 rfl rfl (ltb rfl) (congrArg Value.bool b10_)) rfl (ltb rfl) (X_loadB Tryz.isAgg3 (Blk.ext k6 (Ext.trans e8 e10)) rfl rfl) <| L_op (.guard 3 true 6 rfl rfl (ltb rfl) (congrArg Value.bool b10_)) rfl (ltb rfl) (X_neq rfl rfl) <| L_op (.plain rfl) rfl (ltb rfl) (X_pick (b := true) (v := (.bool (!decide (a0.kind = 4)))) (congrArg Value.bool b10_) rfl) <| L_nil <| thn_n ⟨(Kp.upd (Kp.upd (Kp.upd (Kp.upd (Kp.refl _ _) rfl) rfl) rfl) rfl), (and_t b10_), (Ext.refl w9)⟩
    · exact L_skip rfl rfl (ltb rfl) (congrArg Value.bool b10_) rfl rfl (ltb rfl) <| L_skip rfl rfl (ltb rfl) (congrArg Value.bool b10_) rfl rfl (ltb rfl) <| L_skip rfl rfl (ltb rfl) (congrArg Value.bool b10_) rfl rfl (ltb rfl) <| L_op (.plain rfl) rfl (ltb rfl) (X_pick (b := false) (v := (.bool false)) (congrArg Value.bool b10_) rfl) <| L_nil <| thn_n ⟨(Kp.upd (Kp.upd (Kp.upd (Kp.upd (Kp.refl _ _) rfl) rfl) rfl) rfl), (and_f b10_), (Ext.refl w9)⟩
  intro s16 w12 K13 h14 e15
  refine L_op (.plain rfl) rfl (ltb rfl) (X_assign h14) <| L_nil <| thn_n <| W_ret <| fin_r ?_
  obtain rfl := Option.some.inj H
  exact fin1 rfl (Ext.trans (Ext.trans (Ext.trans e5 e8) e10) e15)
theorem impl_nodeOK.calls {w : World} {a0 : Nd} (gv : GV 0 w) :
    Calls Tryz.prog 117 #[.agg (encNd a0).toArray] w (Rt (RP w (.bool (nodeOK a0)))) := impl_nodeOK.walk gv (impl_nodeOK.eq a0)
/-! impl.at$1 -/
theorem impl_at_1.walk {w : World} {a0 : Nd} {a1 : List UInt8} {b_a1 : Nat} (k_a1 : Blk w b_a1 #[(S a1)] 9) {r : Bool} (H : impl_at_1.sh a0 a1 = some r) :
    Calls Tryz.prog 170 #[.agg (encNd a0).toArray, .pointer (some ⟨b_a1, 0, none⟩)] w (Rt (RP w (.bool r))) := by
  unfold impl_at_1.sh at H
  refine calls_of_W Tryz.func170 rfl (Nat.le_of_ble_eq_true rfl) Tryz.ntmps170 rfl ?_
  refine W_seq <| W_reg <| L_box (.plain rfl) rfl (ltb rfl) rfl rfl <| fun b1 w2 z3 z4 e5 k6 => L_op (.plain rfl) rfl (ltb rfl) (X_assign (v := (.bool false)) rfl) <| L_nil <| thn_n <| W_seq <| W_reg <| L_op (.plain rfl) rfl (ltb rfl) (X_fieldAddr Tryz.underlying80 rfl Tryz.sizeOf9 rfl rfl) <| L_op (.plain rfl) rfl (ltb rfl) (X_loadB Tryz.isAgg9 k6 rfl rfl) <| L_op (.plain rfl) rfl (ltb rfl) (X_loadB Tryz.isAgg9 (Blk.ext k_a1 e5) rfl rfl) <| L_op (.plain rfl) rfl (ltb rfl) (X_seq rfl rfl) <| L_op (.plain rfl) rfl (ltb rfl) (X_assign (v := (.bool (decide (a0.path = a1)))) rfl) <| L_nil <| thn_n <| W_ret <| fin_r ?_
  obtain rfl := Option.some.inj H
  exact fin1 rfl e5
theorem impl_at_1.calls {w : World} {a0 : Nd} {a1 : List UInt8} {b_a1 : Nat} (k_a1 : Blk w b_a1 #[(S a1)] 9) :
    Calls Tryz.prog 170 #[.agg (encNd a0).toArray, .pointer (some ⟨b_a1, 0, none⟩)] w (Rt (RP w (.bool (decide (a0.path = a1))))) := impl_at_1.walk k_a1 (impl_at_1.eq a0 a1)
/-! slices.IndexFunc(()impl.Node,impl.Node) -/
theorem slices_IndexFuncN.walk {k : Nat} {w : World} {a0 : List Nd} {a1 : Nd → Option Bool} {v_a0 : Value} (f_a0 : Rd 4 encNd w v_a0 a0) {v_a1 : Value} (f_a1 : ∀ (x0 : Nd) (r : Bool), a1 x0 = some r → FnAt Tryz.prog w v_a1 [(.agg (encNd x0).toArray)] (.bool r)) (g_a1 : v_a1.cells = #[v_a1]) {r : Int} (H : slices_IndexFuncN.sh k a0 a1 = some r) :
    Calls Tryz.prog 169 #[v_a0, v_a1] w (Rt (RP w (.int .i64 r))) := by
  unfold slices_IndexFuncN.sh at H
  refine calls_of_W Tryz.func169 rfl (Nat.le_of_ble_eq_true rfl) Tryz.ntmps169 rfl ?_
  refine W_seq <| W_reg <| L_op (.plain rfl) rfl (ltb rfl) (X_assign (v := (.int .i64 0)) rfl) <| L_nil <| thn_n <| W_seq <| W_seq <| W_reg <| L_op (.plain rfl) rfl (ltb rfl) (X_move (v := v_a0) rfl) <| L_op (.plain rfl) rfl (ltb rfl) (X_lenR Tryz.underlying30 rfl f_a0) <| L_op (.plain rfl) rfl (ltb rfl) (X_move (v := (.int .i64 0)) rfl) <| L_nil <| thn_n ?_
  obtain ⟨z2, L3, C4⟩ := bind_some H
  clear H
  refine  W_cutQ (fun s0 sQ wQ => Kp [(4, 6), (8, 19)] s0 sQ ∧ Ext w wQ ∧ z2 = .inr ()) ?_ ?_
  · refine W_block <| W_loopI (fun s0 kk sQ wQ => ∃ (x8_1 : Int), Kp [(4, 6), (8, 19)] s0 sQ ∧ sQ 8 = .int .i64 x8_1 ∧ Ext w wQ ∧ loopF (slices_IndexFuncN.b1 a0 a1) kk x8_1 = some z2) k ⟨0, (Kp.refl _ _), rfl, (Ext.refl w), L3⟩ ?_
    rintro k9 s10 w11 ⟨x8_1, K12, h15, e13, L14⟩
    cases k9 with
    | zero => exact absurd L14 (by simp [loopF])
    | succ k9 =>
      obtain ⟨t16, H, S17⟩ := loopF_succ L14
      clear L14
      unfold slices_IndexFuncN.b1 at H
      refine W_seq <| W_reg <| L_op (.plain rfl) rfl (ltb rfl) (X_lss h15 (K12 7 rfl)) <| L_nil <| thn_n <| W_seq ?_
      rcases bif_two H with ⟨q18, H⟩ | ⟨q18, H⟩
      · refine W_true (congrArg Value.bool q18) <| W_skip <| thn_n <| W_seq <| W_block <| W_seq <| W_reg <| L_op (.plain rfl) rfl (ltb rfl) (X_move (v := (.int .i64 x8_1)) h15) <| L_op (.plain rfl) rfl (ltb rfl) (X_assign (v := (.int .i64 x8_1)) rfl) <| L_nil <| thn_n <| W_seq <| W_reg <| L_op (.plain rfl) rfl (ltb rfl) (X_move (v := v_a1) (K12 1 rfl)) <| L_op (.plain rfl) rfl (ltb rfl) (X_move (v := v_a0) (K12 0 rfl)) <| L_op (.plain rfl) rfl (ltb rfl) (X_move (v := (.int .i64 x8_1)) rfl) ?_
        obtain ⟨c19, H⟩ := bif_some H
        refine L_idx (.plain rfl) rfl (ltb rfl) rfl Tryz.underlying30 Tryz.sizeOf80 rfl (Rd.ext f_a0 e13) rfl c19 <| fun p20 h21 => L_op (.plain rfl) rfl (ltb rfl) (X_loadS Tryz.isAgg80 Tryz.sizeOf80 rfl rfl h21) ?_
        obtain ⟨z22, x23, H⟩ := bind_some H
        refine L_callF (.plain rfl) rfl (ltb rfl) rfl rfl (FnAt.ext (f_a1 _ _ x23) e13) rfl <| fun w24 e25 => L_nil <| thn_n ?_
        rcases bif_two H with ⟨q26, H⟩ | ⟨q26, H⟩
        · refine W_true (congrArg Value.bool q26) <| W_seq <| W_reg <| L_op (.plain rfl) rfl (ltb rfl) (X_move (v := (.int .i64 x8_1)) rfl) <| L_op (.plain rfl) rfl (ltb rfl) (X_assign (v := (.int .i64 x8_1)) rfl) <| L_nil <| thn_n <| W_ret <| blk_r <| thn_r <| thn_r <| blk_r <| thn_r <| thn_r <| fin_r ?_
          obtain rfl := Option.some.inj H
          obtain rfl := Option.some.inj S17
          have H := C4
          obtain rfl := Option.some.inj H
          exact fin1 rfl (Ext.trans e13 e25)
        · refine W_false (congrArg Value.bool q26) <| W_skip <| blk_n <| thn_n <| W_reg <| L_op (.plain rfl) rfl (ltb rfl) (X_add h15 rfl) <| L_op (.plain rfl) rfl (ltb rfl) (X_move (v := (.int .i64 (IntKind.wrap .i64 (x8_1 + 1)))) rfl) <| L_nil <| thn_n ?_
          obtain rfl := Option.some.inj H
          exact ⟨_, Nat.lt_succ_self _, IntKind.wrap .i64 (x8_1 + 1), (Kp.upd (Kp.upd (Kp.upd (Kp.upd (Kp.upd (Kp.upd (Kp.upd (Kp.upd (Kp.upd (Kp.upd (Kp.upd K12 rfl) rfl) rfl) rfl) rfl) rfl) rfl) rfl) rfl) rfl) rfl), rfl, (Ext.trans e13 e25), S17⟩
      · refine W_false (congrArg Value.bool q18) <| W_exit <| thn_x <| thn_x <| blk_x <| thn_n ?_
        obtain rfl := Option.some.inj H
        obtain rfl := Option.some.inj S17
        exact ⟨(Kp.upd K12 rfl), e13, rfl⟩
  · rintro s6 w5 ⟨K7, e8, y27⟩
    rw [y27] at C4
    have H := C4
    replace H : _ = some _ := H
    refine thn_n <| W_seq <| W_reg <| L_op (.plain rfl) rfl (ltb rfl) (X_assign (v := (.int .i64 (-1))) rfl) <| L_nil <| thn_n <| W_ret <| fin_r ?_
    obtain rfl := Option.some.inj H
    exact fin1 rfl e8
theorem slices_IndexFuncN.calls {w : World} {a0 : List Nd} {a1 : Nd → Option Bool} {r : Int} {v_a0 : Value} (f_a0 : Rd 4 encNd w v_a0 a0) {v_a1 : Value} (f_a1 : ∀ (x0 : Nd) (r : Bool), a1 x0 = some r → FnAt Tryz.prog w v_a1 [(.agg (encNd x0).toArray)] (.bool r)) (g_a1 : v_a1.cells = #[v_a1]) (h0 : a0.length ≤ 4611686018427387904) (H : (idxO a1 a0) = some r) :
    Calls Tryz.prog 169 #[v_a0, v_a1] w (Rt (RP w (.int .i64 r))) := by
  obtain ⟨k, h⟩ := slices_IndexFuncN.eq a0 a1 h0 H
  exact slices_IndexFuncN.walk f_a0 f_a1 g_a1 h
/-! impl.at -/
theorem impl_at.walk {w : World} {a0 : List Nd} {a1 : List UInt8} {v_a0 : Value} (f_a0 : Rd 4 encNd w v_a0 a0) {r : Int} (H : impl_at.sh a0 a1 = some r) :
    Calls Tryz.prog 122 #[v_a0, S a1] w (Rt (RP w (.int .i64 r))) := by
  unfold impl_at.sh at H
  refine calls_of_W Tryz.func122 rfl (Nat.le_of_ble_eq_true rfl) Tryz.ntmps122 rfl ?_
  refine W_seq <| W_reg <| L_box (.plain rfl) rfl (ltb rfl) rfl rfl <| fun b1 w2 z3 z4 e5 k6 => L_op (.plain rfl) rfl (ltb rfl) (X_assign (v := (.int .i64 0)) rfl) <| L_nil <| thn_n <| W_seq <| W_reg <| L_op (.plain rfl) rfl (ltb rfl) (X_move (v := v_a0) rfl) <| L_op (.plain rfl) rfl (ltb rfl) (X_makeFunc (vs := #[]) (us := #[.pointer (some ⟨b1, 0, none⟩)]) rfl rfl) ?_
  obtain ⟨c11, H⟩ := bif_some H
  obtain ⟨z12, x13, H⟩ := bind_some H
  refine L_callP (.plain rfl) rfl (ltb rfl) rfl Tryz.call169 (slices_IndexFuncN.calls (w := w2) (a0 := a0) (a1 := (fun (x0_ : Nd) => some (decide (x0_.path = a1)))) (Rd.ext f_a0 e5) (fun x0_ r h => by have h := Option.some.inj h; subst h; exact FnAt.mk Tryz.call170 (by rfl) fun w9 k10 => impl_at_1.calls (w := w9) (a0 := x0_) (a1 := a1) (Blk.ext k6 k10)) rfl (of_decide_eq_true c11) x13) rfl <| fun w14 e15 => L_op (.plain rfl) rfl (ltb rfl) (X_assign (v := (.int .i64 z12)) rfl) <| L_nil <| thn_n <| W_ret <| fin_r ?_
  obtain rfl := Option.some.inj H
  exact fin1 rfl (Ext.trans e5 e15)
theorem impl_at.calls {w : World} {a0 : List Nd} {a1 : List UInt8} {v_a0 : Value} (f_a0 : Rd 4 encNd w v_a0 a0) (h0 : a0.length ≤ 1048576) :
    Calls Tryz.prog 122 #[v_a0, S a1] w (Rt (RP w (.int .i64 (findN a0 a1)))) := impl_at.walk f_a0 (impl_at.eq a0 a1 h0)
/-! impl.isDir -/
theorem impl_isDir.walk {w : World} {a0 : List Nd} {a1 : List UInt8} {v_a0 : Value} (f_a0 : Rd 4 encNd w v_a0 a0) {r : Bool} (H : impl_isDir.sh a0 a1 = some r) :
    Calls Tryz.prog 119 #[v_a0, S a1] w (Rt (RP w (.bool r))) := by
  unfold impl_isDir.sh at H
  refine calls_of_W Tryz.func119 rfl (Nat.le_of_ble_eq_true rfl) Tryz.ntmps119 rfl ?_
  refine W_seq <| W_reg <| L_op (.plain rfl) rfl (ltb rfl) (X_assign (v := (.bool false)) rfl) <| L_nil <| thn_n <| W_seq <| W_reg <| L_op (.plain rfl) rfl (ltb rfl) (X_move (v := v_a0) rfl) <| L_op (.plain rfl) rfl (ltb rfl) (X_move (v := (S a1)) rfl) ?_
  obtain ⟨c1, H⟩ := bif_some H
  refine L_callP (.plain rfl) rfl (ltb rfl) rfl Tryz.call122 (impl_at.calls (w := w) (a0 := a0) (a1 := a1) f_a0 (of_decide_eq_true c1)) rfl <| fun w2 e3 => L_op (.plain rfl) rfl (ltb rfl) (X_assign (v := (.int .i64 (findN a0 a1))) rfl) <| L_nil <| thn_n <| W_seq <| W_reg <| L_op (.plain rfl) rfl (ltb rfl) (X_move (v := (S a1)) rfl) <| L_op (.plain rfl) rfl (ltb rfl) (X_seq rfl rfl) <| L_op (.plain rfl) rfl (ltb rfl) (X_move (v := (.bool (decide (a1 = ([] : List UInt8))))) rfl) ?_
  obtain ⟨z5, x6, H⟩ := bind_some H
  refine L_grpE 11 [(12, 23)] 22 (fun q => q = z5) ?_ ?_
  · rcases bif_two x6 with ⟨b3_, H⟩ | ⟨b3_, H⟩
    · refine L_skip rfl rfl (ltb rfl) (congrArg Value.bool b3_) rfl rfl (ltb rfl) <| L_skip rfl rfl (ltb rfl) (congrArg Value.bool b3_) rfl rfl (ltb rfl) <| L_skip rfl rfl (ltb rfl) (congrArg Value.bool b3_) rfl rfl (ltb rfl) <| L_skipU rfl rfl (ltb rfl) rfl rfl (ltb rfl) <| L_skipU rfl rfl (ltb rfl) rfl rfl (ltb rfl) <| L_skipU rfl rfl (ltb rfl) rfl rfl (ltb rfl) <| L_skipU rfl rfl (ltb rfl) rfl rfl (ltb rfl) <| L_skipU rfl rfl (ltb rfl) rfl rfl (ltb rfl) <| L_skipU rfl rfl (ltb rfl) rfl rfl (ltb rfl) <| L_skip rfl rfl (ltb rfl) (congrArg Value.bool b3_) rfl rfl (ltb rfl) <| L_op (.plain rfl) rfl (ltb rfl) (X_pick (b := true) (v := (.bool true)) (congrArg Value.bool b3_) rfl) ?_
      obtain rfl := Option.some.inj H
      exact L_nil <| thn_n ⟨(Kp.upd (Kp.upd (Kp.upd (Kp.upd (Kp.upd (Kp.upd (Kp.upd (Kp.upd (Kp.upd (Kp.upd (Kp.upd (Kp.refl _ _) rfl) rfl) rfl) rfl) rfl) rfl) rfl) rfl) rfl) rfl) rfl), ⟨_, rfl, rfl⟩, (Ext.refl w2)⟩
    · refine L_op (.guard 2 false 11 rfl rfl (ltb rfl) (congrArg Value.bool b3_)) rfl (ltb rfl) (X_move (v := (.int .i64 (findN a0 a1))) rfl) <| L_op (.guard 2 false 11 rfl rfl (ltb rfl) (congrArg Value.bool b3_)) rfl (ltb rfl) (X_geq rfl rfl) <| L_op (.guard 2 false 11 rfl rfl (ltb rfl) (congrArg Value.bool b3_)) rfl (ltb rfl) (X_move (v := (.bool (decide (0 ≤ (findN a0 a1))))) rfl) ?_
      obtain ⟨z6, x7, H⟩ := bind_some H
      refine L_grpE 7 [(15, 22)] 21 (fun q => q = z6) ?_ ?_
      · rcases bif_two x7 with ⟨b4_, H⟩ | ⟨b4_, H⟩
        · refine L_op (.guard 5 true 14 rfl rfl (ltb rfl) (congrArg Value.bool b4_)) rfl (ltb rfl) (X_move (v := v_a0) rfl) <| L_op (.guard 5 true 14 rfl rfl (ltb rfl) (congrArg Value.bool b4_)) rfl (ltb rfl) (X_move (v := (.int .i64 (findN a0 a1))) rfl) ?_
          obtain ⟨c6, H⟩ := bif_some H
          refine L_idx (.guard 5 true 14 rfl rfl (ltb rfl) (congrArg Value.bool b4_)) rfl (ltb rfl) rfl Tryz.underlying30 Tryz.sizeOf80 rfl (Rd.ext f_a0 e3) rfl c6 <| fun p7 h8 => L_op (.guard 5 true 14 rfl rfl (ltb rfl) (congrArg Value.bool b4_)) rfl (ltb rfl) (X_fieldAddr Tryz.underlying80 rfl Tryz.sizeOf3 rfl rfl) <| L_op (.guard 5 true 14 rfl rfl (ltb rfl) (congrArg Value.bool b4_)) rfl (ltb rfl) (X_loadF Tryz.isAgg3 (j := 0) h8 rfl rfl) <| L_op (.guard 5 true 14 rfl rfl (ltb rfl) (congrArg Value.bool b4_)) rfl (ltb rfl) (X_eql rfl rfl) <| L_op (.guard 2 false 11 rfl rfl (ltb rfl) (congrArg Value.bool b3_)) rfl (ltb rfl) (X_pick (b := true) (v := (.bool (decide (((gt a0 (findN a0 a1)).kind) = 3)))) (congrArg Value.bool b4_) rfl) ?_
          obtain rfl := Option.some.inj H
          exact L_nil <| thn_n ⟨(Kp.upd (Kp.upd (Kp.upd (Kp.upd (Kp.upd (Kp.upd (Kp.upd (Kp.refl _ _) rfl) rfl) rfl) rfl) rfl) rfl) rfl), ⟨_, rfl, rfl⟩, (Ext.refl w2)⟩
        · refine L_skip rfl rfl (ltb rfl) (congrArg Value.bool b4_) rfl rfl (ltb rfl) <| L_skip rfl rfl (ltb rfl) (congrArg Value.bool b4_) rfl rfl (ltb rfl) <| L_skip rfl rfl (ltb rfl) (congrArg Value.bool b4_) rfl rfl (ltb rfl) <| L_skip rfl rfl (ltb rfl) (congrArg Value.bool b4_) rfl rfl (ltb rfl) <| L_skip rfl rfl (ltb rfl) (congrArg Value.bool b4_) rfl rfl (ltb rfl) <| L_skip rfl rfl (ltb rfl) (congrArg Value.bool b4_) rfl rfl (ltb rfl) <| L_op (.guard 2 false 11 rfl rfl (ltb rfl) (congrArg Value.bool b3_)) rfl (ltb rfl) (X_pick (b := false) (v := (.bool false)) (congrArg Value.bool b4_) rfl) ?_
          obtain rfl := Option.some.inj H
          exact L_nil <| thn_n ⟨(Kp.upd (Kp.upd (Kp.upd (Kp.upd (Kp.upd (Kp.upd (Kp.upd (Kp.refl _ _) rfl) rfl) rfl) rfl) rfl) rfl) rfl), ⟨_, rfl, rfl⟩, (Ext.refl w2)⟩
      intro s12 w8 z13 K9 hq h10 e11
      rw [hq] at h10; clear hq
      refine L_op (.plain rfl) rfl (ltb rfl) (X_pick (b := false) (v := (.bool z6)) ((K9 11 rfl).trans (congrArg Value.bool b3_)) h10) ?_
      obtain rfl := Option.some.inj H
      exact L_nil <| thn_n ⟨(Kp.upd (Kp.cut (Kp.upd (Kp.upd (Kp.upd (Kp.refl _ _) rfl) rfl) rfl) K9 rfl) rfl), ⟨_, rfl, rfl⟩, e11⟩
  intro s14 w7 z15 K8 hq h9 e10
  rw [hq] at h9; clear hq
  refine L_op (.plain rfl) rfl (ltb rfl) (X_assign (v := (.bool z5)) h9) <| L_nil <| thn_n <| W_ret <| fin_r ?_
  obtain rfl := Option.some.inj H
  exact fin1 rfl (Ext.trans e3 e10)
theorem impl_isDir.calls {w : World} {a0 : List Nd} {a1 : List UInt8} {v_a0 : Value} (f_a0 : Rd 4 encNd w v_a0 a0) (h0 : a0.length ≤ 1048576) :
    Calls Tryz.prog 119 #[v_a0, S a1] w (Rt (RP w (.bool (isDirN a0 a1)))) := impl_isDir.walk f_a0 (impl_isDir.eq a0 a1 h0)
end Go.Proofs.YthpjkenkbfkdhaaGreatDoor
