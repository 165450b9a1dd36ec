/- The walks, by program (wip/tools). -/
import Derived.Test.YthpjkenkbfkdhaaGreatDoorProg
import Derived.Test.YthpjkenkbfkdhaaGreatDoorPWA
set_option linter.unusedVariables false
set_option maxRecDepth 10000
namespace Go.Proofs.YthpjkenkbfkdhaaGreatDoor
open Go.UL Go.RowKit
/-! spec.l03Fault -/
abbrev spec_l03Fault.e1 (a0 : List Rec) (x4_1 : Int) := (lessL (cut 47 ((gt a0 (IntKind.wrap .i64 (x4_1 - 1))).path)) (cut 47 ((gt a0 x4_1).path)))
theorem spec_l03Fault.walk {k : Nat} {w : World} {a0 : List Rec} {v_a0 : Value} (f_a0 : Rd 5 encRec w v_a0 a0) {r : Int × Int} (H : spec_l03Fault.sh k a0 = some r) :
    Calls Tryz.prog 109 #[v_a0] w (Rt (RP w (.tuple #[.int .i64 r.1, .int .i64 r.2]))) := by
  unfold spec_l03Fault.sh at H
  refine calls_of_W Tryz.func109 rfl (Nat.le_of_ble_eq_true rfl) Tryz.ntmps109 rfl ?_
  refine W_seq <| W_reg <| L_op (.plain rfl) rfl (ltb rfl) (X_assign (v := (.int .i64 0)) rfl) <| L_op (.plain rfl) rfl (ltb rfl) (X_assign (v := (.int .i64 0)) rfl) <| L_nil <| thn_n <| W_seq <| W_seq <| W_reg <| L_op (.plain rfl) rfl (ltb rfl) (X_assign (v := (.int .i64 0)) rfl) <| L_nil <| thn_n ?_
  obtain ⟨z2, L3, C4⟩ := bind_some H
  clear H
  refine  W_cutQ (fun s0 sQ wQ => Kp [(2, 84)] s0 sQ ∧ Ext w wQ ∧ z2 = .inr ()) ?_ ?_
  · refine W_block <| W_loopI (fun s0 kk sQ wQ => ∃ (x4_1 : Int), Kp [(2, 84)] s0 sQ ∧ sQ 4 = .int .i64 x4_1 ∧ Ext w wQ ∧ loopF (spec_l03Fault.b1 a0) kk x4_1 = some z2) k ⟨0, (Kp.refl _ _), rfl, (Ext.refl w), L3⟩ ?_
    rintro k9 s10 w11 ⟨x4_1, K12, h15, e13, L14⟩
    cases k9 with
    | zero => exact absurd L14 (by simp [loopF])
    | succ k9 =>
      obtain ⟨t16, H, S17⟩ := loopF_succ L14
      clear L14
      unfold spec_l03Fault.b1 at H
      refine W_seq <| W_seq <| W_reg <| L_op (.plain rfl) rfl (ltb rfl) (X_move (v := (.int .i64 x4_1)) h15) <| L_op (.plain rfl) rfl (ltb rfl) (X_move (v := v_a0) (K12 0 rfl)) <| L_op (.plain rfl) rfl (ltb rfl) (X_lenR Tryz.underlying28 rfl (Rd.ext f_a0 e13)) <| L_op (.plain rfl) rfl (ltb rfl) (X_lss rfl rfl) <| L_nil <| thn_n ?_
      rcases bif_two H with ⟨q18, H⟩ | ⟨q18, H⟩
      · refine W_true (congrArg Value.bool q18) <| W_skip <| thn_n <| W_seq <| W_block <| W_seq <| W_seq <| W_reg <| L_op (.plain rfl) rfl (ltb rfl) (X_move (v := (.int .i64 x4_1)) h15) <| L_op (.plain rfl) rfl (ltb rfl) (X_eql rfl rfl) <| L_nil <| thn_n ?_
        rcases bif_two H with ⟨q19, H⟩ | ⟨q19, H⟩
        · refine W_true (congrArg Value.bool q19) <| W_seq <| W_reg <| L_op (.plain rfl) rfl (ltb rfl) (X_move (v := (.int .i64 x4_1)) h15) <| L_op (.plain rfl) rfl (ltb rfl) (X_assign (v := (.int .i64 x4_1)) rfl) <| L_op (.plain rfl) rfl (ltb rfl) (X_assign (v := (.int .i64 6)) rfl) <| L_nil <| thn_n <| W_ret <| thn_r <| blk_r <| thn_r <| thn_r <| blk_r <| thn_r <| thn_r <| fin_r ?_
          obtain rfl := Option.some.inj H
          obtain rfl := Option.some.inj S17
          have H := C4
          obtain rfl := Option.some.inj H
          exact fin2 rfl rfl e13
        · refine W_false (congrArg Value.bool q19) <| W_skip <| thn_n <| W_seq <| W_seq <| W_reg <| L_op (.plain rfl) rfl (ltb rfl) (X_move (v := v_a0) (K12 0 rfl)) <| L_op (.plain rfl) rfl (ltb rfl) (X_move (v := (.int .i64 x4_1)) h15) ?_
          obtain ⟨c20, H⟩ := bif_some H
          refine L_idx (.plain rfl) rfl (ltb rfl) rfl Tryz.underlying28 Tryz.sizeOf78 rfl (Rd.ext f_a0 e13) rfl c20 <| fun p21 h22 => L_op (.plain rfl) rfl (ltb rfl) (X_loadS Tryz.isAgg78 Tryz.sizeOf78 rfl rfl h22) <| L_callP (.plain rfl) rfl (ltb rfl) rfl Tryz.call160 (spec_l02Fault.calls (w := w11) (a0 := gt a0 x4_1)) rfl <| fun w23 e24 => L_op (.plain rfl) rfl (ltb rfl) (X_assign (v := (.int .i64 (recFault (gt a0 x4_1)))) rfl) <| L_nil <| thn_n <| W_seq <| W_reg <| L_op (.plain rfl) rfl (ltb rfl) (X_move (v := (.int .i64 (recFault (gt a0 x4_1)))) rfl) <| L_op (.plain rfl) rfl (ltb rfl) (X_neq rfl rfl) <| L_nil <| thn_n ?_
          rcases bif_two H with ⟨q25, H⟩ | ⟨q25, H⟩
          · refine W_true (congrArg Value.bool q25) <| W_seq <| W_reg <| L_op (.plain rfl) rfl (ltb rfl) (X_move (v := (.int .i64 x4_1)) h15) <| L_op (.plain rfl) rfl (ltb rfl) (X_move (v := (.int .i64 (recFault (gt a0 x4_1)))) rfl) <| L_op (.plain rfl) rfl (ltb rfl) (X_assign (v := (.int .i64 x4_1)) rfl) <| L_op (.plain rfl) rfl (ltb rfl) (X_assign (v := (.int .i64 (recFault (gt a0 x4_1)))) rfl) <| L_nil <| thn_n <| W_ret <| thn_r <| blk_r <| thn_r <| thn_r <| blk_r <| thn_r <| thn_r <| fin_r ?_
            obtain rfl := Option.some.inj H
            obtain rfl := Option.some.inj S17
            have H := C4
            obtain rfl := Option.some.inj H
            exact fin2 rfl rfl (Ext.trans e13 e24)
          · refine W_false (congrArg Value.bool q25) <| W_skip <| thn_n <| W_seq <| W_seq ?_
            obtain ⟨c26, H⟩ := bif_some H
            obtain ⟨c29, H⟩ := bif_some H
            refine W_drawM [LEq (.int .i64 x4_1), LEq (.bool (decide (0 < x4_1))), LEq (.bool (decide (0 < x4_1))), LIf (decide (0 < x4_1)) (LEq v_a0), LIf (decide (0 < x4_1)) (LEq (.int .i64 x4_1)), LIf (decide (0 < x4_1)) (LAt0 (encRec (gt a0 x4_1))), LIf (decide (0 < x4_1)) (LAt 1 (encRec (gt a0 x4_1))), LIf (decide (0 < x4_1)) (LEq (S ((gt a0 x4_1).path))), LIf (decide (0 < x4_1)) (LEq v_a0), LIf (decide (0 < x4_1)) (LEq (.int .i64 x4_1)), LIf (decide (0 < x4_1)) (LEq (.int .i64 (IntKind.wrap .i64 (x4_1 - 1)))), LIf (decide (0 < x4_1)) (LAt0 (encRec (gt a0 (IntKind.wrap .i64 (x4_1 - 1))))), LIf (decide (0 < x4_1)) (LAt 1 (encRec (gt a0 (IntKind.wrap .i64 (x4_1 - 1))))), LIf (decide (0 < x4_1)) (LEq (S ((gt a0 (IntKind.wrap .i64 (x4_1 - 1))).path))), LIf (decide (0 < x4_1)) (LEq (.bool (decide (((gt a0 x4_1).path) = ((gt a0 (IntKind.wrap .i64 (x4_1 - 1))).path))))), LEq (.bool ((decide (0 < x4_1)) && (decide (((gt a0 x4_1).path) = ((gt a0 (IntKind.wrap .i64 (x4_1 - 1))).path)))))] (by kernel_rfl) (by kernel_rfl) ⟨LEq.mono, LEq.mono, LEq.mono, (LIf.mono LEq.mono), (LIf.mono LEq.mono), (LIf.mono LAt0.mono), (LIf.mono LAt.mono), (LIf.mono LEq.mono), (LIf.mono LEq.mono), (LIf.mono LEq.mono), (LIf.mono LEq.mono), (LIf.mono LAt0.mono), (LIf.mono LAt.mono), (LIf.mono LEq.mono), (LIf.mono LEq.mono), LEq.mono, trivial⟩ ⟨?_, ?_, ?_, ?_, ?_, ?_, ?_, ?_, ?_, ?_, ?_, ?_, ?_, ?_, ?_, ?_, trivial⟩ ?_
            · intro s32 w33 e34 hf35 hd36 hu37
              exact L_op (.plain rfl) rfl (ltb rfl) (X_move (v := (.int .i64 x4_1)) ((hf35 4 rfl).trans h15)) <| L_nil <| stepEnd rfl rfl (Ext.refl w33) rfl
            · intro s38 w39 e40 hf41 hd42 hu43
              have d44 : s38 26 = (.int .i64 x4_1) := (hd42 0 rfl)
              exact L_op (.plain rfl) rfl (ltb rfl) (X_gtr d44 rfl) <| L_nil <| stepEnd rfl rfl (Ext.refl w39) rfl
            · intro s45 w46 e47 hf48 hd49 hu50
              have d51 : s45 27 = (.bool (decide (0 < x4_1))) := (hd49 1 rfl)
              exact L_op (.plain rfl) rfl (ltb rfl) (X_move (v := (.bool (decide (0 < x4_1)))) d51) <| L_nil <| stepEnd rfl rfl (Ext.refl w46) rfl
            · intro s52 w53 e54 hf55 hd56 hu57
              rcases bool_two (decide (0 < x4_1)) with b58 | b58
              · have g59 : (decide (0 < x4_1)) = true := b58
                have d60 : s52 28 = (.bool (decide (0 < x4_1))) := (hd56 2 rfl)
                have d61 : s52 28 = (.bool (decide (0 < x4_1))) := (hd56 2 rfl)
                exact L_op (.guard 2 true 28 rfl rfl (ltb rfl) (d60.trans (congrArg Value.bool g59))) rfl (ltb rfl) (X_move (v := v_a0) ((hf55 0 rfl).trans (K12 0 rfl))) <| L_nil <| stepEnd rfl rfl (Ext.refl w53) ⟨fun _ => rfl, fun h => absurd (b58.symm.trans h) (by decide)⟩
              · have d62 : s52 28 = (.bool (decide (0 < x4_1))) := (hd56 2 rfl)
                have g63 : (decide (0 < x4_1)) = false := b58
                exact L_skip rfl rfl (ltb rfl) (d62.trans (congrArg Value.bool g63)) rfl rfl (ltb rfl) <| L_nil <| stepEnd rfl rfl (Ext.refl w53) ⟨fun h => absurd (b58.symm.trans h) (by decide), fun _ => rfl⟩
            · intro s64 w65 e66 hf67 hd68 hu69
              rcases bool_two (decide (0 < x4_1)) with b70 | b70
              · have g71 : (decide (0 < x4_1)) = true := b70
                have d72 : s64 28 = (.bool (decide (0 < x4_1))) := (hd68 2 rfl)
                have d73 : s64 28 = (.bool (decide (0 < x4_1))) := (hd68 2 rfl)
                exact L_op (.guard 2 true 28 rfl rfl (ltb rfl) (d72.trans (congrArg Value.bool g71))) rfl (ltb rfl) (X_move (v := (.int .i64 x4_1)) ((hf67 4 rfl).trans h15)) <| L_nil <| stepEnd rfl rfl (Ext.refl w65) ⟨fun _ => rfl, fun h => absurd (b70.symm.trans h) (by decide)⟩
              · have d74 : s64 28 = (.bool (decide (0 < x4_1))) := (hd68 2 rfl)
                have g75 : (decide (0 < x4_1)) = false := b70
                exact L_skip rfl rfl (ltb rfl) (d74.trans (congrArg Value.bool g75)) rfl rfl (ltb rfl) <| L_nil <| stepEnd rfl rfl (Ext.refl w65) ⟨fun h => absurd (b70.symm.trans h) (by decide), fun _ => rfl⟩
            · intro s76 w77 e78 hf79 hd80 hu81
              rcases bool_two (decide (0 < x4_1)) with b82 | b82
              · have g83 : (decide (0 < x4_1)) = true := b82
                have d84 : s76 28 = (.bool (decide (0 < x4_1))) := (hd80 2 rfl)
                have d85 : s76 28 = (.bool (decide (0 < x4_1))) := (hd80 2 rfl)
                have d86 : s76 29 = v_a0 := ((hd80 3 rfl).1 b82)
                have d87 : s76 30 = (.int .i64 x4_1) := ((hd80 4 rfl).1 b82)
                have c88 := imp_take b82 c26
                exact L_idx (.guard 2 true 28 rfl rfl (ltb rfl) (d84.trans (congrArg Value.bool g83))) rfl (ltb rfl) rfl Tryz.underlying28 Tryz.sizeOf78 d86 (Rd.ext f_a0 (Ext.trans (Ext.trans e13 e24) e78)) d87 c88 <| fun p89 h90 => L_nil <| stepEnd rfl rfl (Ext.refl w77) ⟨fun _ => ⟨_, rfl, h90⟩, fun h => absurd (b82.symm.trans h) (by decide)⟩
              · have d91 : s76 28 = (.bool (decide (0 < x4_1))) := (hd80 2 rfl)
                have g92 : (decide (0 < x4_1)) = false := b82
                exact L_skip rfl rfl (ltb rfl) (d91.trans (congrArg Value.bool g92)) rfl rfl (ltb rfl) <| L_nil <| stepEnd rfl rfl (Ext.refl w77) ⟨fun h => absurd (b82.symm.trans h) (by decide), fun _ => rfl⟩
            · intro s93 w94 e95 hf96 hd97 hu98
              rcases bool_two (decide (0 < x4_1)) with b99 | b99
              · have g100 : (decide (0 < x4_1)) = true := b99
                have d101 : s93 28 = (.bool (decide (0 < x4_1))) := (hd97 2 rfl)
                have d102 : s93 28 = (.bool (decide (0 < x4_1))) := (hd97 2 rfl)
                obtain ⟨p103, h104, h105⟩ := ((hd97 5 rfl).1 b99)
                exact L_op (.guard 2 true 28 rfl rfl (ltb rfl) (d101.trans (congrArg Value.bool g100))) rfl (ltb rfl) (X_fieldAddr Tryz.underlying78 rfl Tryz.sizeOf9 rfl h104) <| L_nil <| stepEnd rfl rfl (Ext.refl w94) ⟨fun _ => ⟨_, rfl, h105⟩, fun h => absurd (b99.symm.trans h) (by decide)⟩
              · have d106 : s93 28 = (.bool (decide (0 < x4_1))) := (hd97 2 rfl)
                have g107 : (decide (0 < x4_1)) = false := b99
                exact L_skip rfl rfl (ltb rfl) (d106.trans (congrArg Value.bool g107)) rfl rfl (ltb rfl) <| L_nil <| stepEnd rfl rfl (Ext.refl w94) ⟨fun h => absurd (b99.symm.trans h) (by decide), fun _ => rfl⟩
            · intro s108 w109 e110 hf111 hd112 hu113
              rcases bool_two (decide (0 < x4_1)) with b114 | b114
              · have g115 : (decide (0 < x4_1)) = true := b114
                have d116 : s108 28 = (.bool (decide (0 < x4_1))) := (hd112 2 rfl)
                have d117 : s108 28 = (.bool (decide (0 < x4_1))) := (hd112 2 rfl)
                obtain ⟨p118, h119, h120⟩ := ((hd112 6 rfl).1 b114)
                exact L_op (.guard 2 true 28 rfl rfl (ltb rfl) (d116.trans (congrArg Value.bool g115))) rfl (ltb rfl) (X_loadF Tryz.isAgg9 (j := 1) h120 h119 rfl) <| L_nil <| stepEnd rfl rfl (Ext.refl w109) ⟨fun _ => rfl, fun h => absurd (b114.symm.trans h) (by decide)⟩
              · have d121 : s108 28 = (.bool (decide (0 < x4_1))) := (hd112 2 rfl)
                have g122 : (decide (0 < x4_1)) = false := b114
                exact L_skip rfl rfl (ltb rfl) (d121.trans (congrArg Value.bool g122)) rfl rfl (ltb rfl) <| L_nil <| stepEnd rfl rfl (Ext.refl w109) ⟨fun h => absurd (b114.symm.trans h) (by decide), fun _ => rfl⟩
            · intro s123 w124 e125 hf126 hd127 hu128
              rcases bool_two (decide (0 < x4_1)) with b129 | b129
              · have g130 : (decide (0 < x4_1)) = true := b129
                have d131 : s123 28 = (.bool (decide (0 < x4_1))) := (hd127 2 rfl)
                have d132 : s123 28 = (.bool (decide (0 < x4_1))) := (hd127 2 rfl)
                exact L_op (.guard 2 true 28 rfl rfl (ltb rfl) (d131.trans (congrArg Value.bool g130))) rfl (ltb rfl) (X_move (v := v_a0) ((hf126 0 rfl).trans (K12 0 rfl))) <| L_nil <| stepEnd rfl rfl (Ext.refl w124) ⟨fun _ => rfl, fun h => absurd (b129.symm.trans h) (by decide)⟩
              · have d133 : s123 28 = (.bool (decide (0 < x4_1))) := (hd127 2 rfl)
                have g134 : (decide (0 < x4_1)) = false := b129
                exact L_skip rfl rfl (ltb rfl) (d133.trans (congrArg Value.bool g134)) rfl rfl (ltb rfl) <| L_nil <| stepEnd rfl rfl (Ext.refl w124) ⟨fun h => absurd (b129.symm.trans h) (by decide), fun _ => rfl⟩
            · intro s135 w136 e137 hf138 hd139 hu140
              rcases bool_two (decide (0 < x4_1)) with b141 | b141
              · have g142 : (decide (0 < x4_1)) = true := b141
                have d143 : s135 28 = (.bool (decide (0 < x4_1))) := (hd139 2 rfl)
                have d144 : s135 28 = (.bool (decide (0 < x4_1))) := (hd139 2 rfl)
                exact L_op (.guard 2 true 28 rfl rfl (ltb rfl) (d143.trans (congrArg Value.bool g142))) rfl (ltb rfl) (X_move (v := (.int .i64 x4_1)) ((hf138 4 rfl).trans h15)) <| L_nil <| stepEnd rfl rfl (Ext.refl w136) ⟨fun _ => rfl, fun h => absurd (b141.symm.trans h) (by decide)⟩
              · have d145 : s135 28 = (.bool (decide (0 < x4_1))) := (hd139 2 rfl)
                have g146 : (decide (0 < x4_1)) = false := b141
                exact L_skip rfl rfl (ltb rfl) (d145.trans (congrArg Value.bool g146)) rfl rfl (ltb rfl) <| L_nil <| stepEnd rfl rfl (Ext.refl w136) ⟨fun h => absurd (b141.symm.trans h) (by decide), fun _ => rfl⟩
            · intro s147 w148 e149 hf150 hd151 hu152
              rcases bool_two (decide (0 < x4_1)) with b153 | b153
              · have g154 : (decide (0 < x4_1)) = true := b153
                have d155 : s147 28 = (.bool (decide (0 < x4_1))) := (hd151 2 rfl)
                have d156 : s147 28 = (.bool (decide (0 < x4_1))) := (hd151 2 rfl)
                have d157 : s147 35 = (.int .i64 x4_1) := ((hd151 9 rfl).1 b153)
                exact L_op (.guard 2 true 28 rfl rfl (ltb rfl) (d155.trans (congrArg Value.bool g154))) rfl (ltb rfl) (X_sub d157 rfl) <| L_nil <| stepEnd rfl rfl (Ext.refl w148) ⟨fun _ => rfl, fun h => absurd (b153.symm.trans h) (by decide)⟩
              · have d158 : s147 28 = (.bool (decide (0 < x4_1))) := (hd151 2 rfl)
                have g159 : (decide (0 < x4_1)) = false := b153
                exact L_skip rfl rfl (ltb rfl) (d158.trans (congrArg Value.bool g159)) rfl rfl (ltb rfl) <| L_nil <| stepEnd rfl rfl (Ext.refl w148) ⟨fun h => absurd (b153.symm.trans h) (by decide), fun _ => rfl⟩
            · intro s160 w161 e162 hf163 hd164 hu165
              rcases bool_two (decide (0 < x4_1)) with b166 | b166
              · have g167 : (decide (0 < x4_1)) = true := b166
                have d168 : s160 28 = (.bool (decide (0 < x4_1))) := (hd164 2 rfl)
                have d169 : s160 28 = (.bool (decide (0 < x4_1))) := (hd164 2 rfl)
                have d170 : s160 34 = v_a0 := ((hd164 8 rfl).1 b166)
                have d171 : s160 36 = (.int .i64 (IntKind.wrap .i64 (x4_1 - 1))) := ((hd164 10 rfl).1 b166)
                have c172 := imp_take b166 c29
                exact L_idx (.guard 2 true 28 rfl rfl (ltb rfl) (d168.trans (congrArg Value.bool g167))) rfl (ltb rfl) rfl Tryz.underlying28 Tryz.sizeOf78 d170 (Rd.ext f_a0 (Ext.trans (Ext.trans e13 e24) e162)) d171 c172 <| fun p173 h174 => L_nil <| stepEnd rfl rfl (Ext.refl w161) ⟨fun _ => ⟨_, rfl, h174⟩, fun h => absurd (b166.symm.trans h) (by decide)⟩
              · have d175 : s160 28 = (.bool (decide (0 < x4_1))) := (hd164 2 rfl)
                have g176 : (decide (0 < x4_1)) = false := b166
                exact L_skip rfl rfl (ltb rfl) (d175.trans (congrArg Value.bool g176)) rfl rfl (ltb rfl) <| L_nil <| stepEnd rfl rfl (Ext.refl w161) ⟨fun h => absurd (b166.symm.trans h) (by decide), fun _ => rfl⟩
            · intro s177 w178 e179 hf180 hd181 hu182
              rcases bool_two (decide (0 < x4_1)) with b183 | b183
              · have g184 : (decide (0 < x4_1)) = true := b183
                have d185 : s177 28 = (.bool (decide (0 < x4_1))) := (hd181 2 rfl)
                have d186 : s177 28 = (.bool (decide (0 < x4_1))) := (hd181 2 rfl)
                obtain ⟨p187, h188, h189⟩ := ((hd181 11 rfl).1 b183)
                exact L_op (.guard 2 true 28 rfl rfl (ltb rfl) (d185.trans (congrArg Value.bool g184))) rfl (ltb rfl) (X_fieldAddr Tryz.underlying78 rfl Tryz.sizeOf9 rfl h188) <| L_nil <| stepEnd rfl rfl (Ext.refl w178) ⟨fun _ => ⟨_, rfl, h189⟩, fun h => absurd (b183.symm.trans h) (by decide)⟩
              · have d190 : s177 28 = (.bool (decide (0 < x4_1))) := (hd181 2 rfl)
                have g191 : (decide (0 < x4_1)) = false := b183
                exact L_skip rfl rfl (ltb rfl) (d190.trans (congrArg Value.bool g191)) rfl rfl (ltb rfl) <| L_nil <| stepEnd rfl rfl (Ext.refl w178) ⟨fun h => absurd (b183.symm.trans h) (by decide), fun _ => rfl⟩
            · intro s192 w193 e194 hf195 hd196 hu197
              rcases bool_two (decide (0 < x4_1)) with b198 | b198
              · have g199 : (decide (0 < x4_1)) = true := b198
                have d200 : s192 28 = (.bool (decide (0 < x4_1))) := (hd196 2 rfl)
                have d201 : s192 28 = (.bool (decide (0 < x4_1))) := (hd196 2 rfl)
                obtain ⟨p202, h203, h204⟩ := ((hd196 12 rfl).1 b198)
                exact L_op (.guard 2 true 28 rfl rfl (ltb rfl) (d200.trans (congrArg Value.bool g199))) rfl (ltb rfl) (X_loadF Tryz.isAgg9 (j := 1) h204 h203 rfl) <| L_nil <| stepEnd rfl rfl (Ext.refl w193) ⟨fun _ => rfl, fun h => absurd (b198.symm.trans h) (by decide)⟩
              · have d205 : s192 28 = (.bool (decide (0 < x4_1))) := (hd196 2 rfl)
                have g206 : (decide (0 < x4_1)) = false := b198
                exact L_skip rfl rfl (ltb rfl) (d205.trans (congrArg Value.bool g206)) rfl rfl (ltb rfl) <| L_nil <| stepEnd rfl rfl (Ext.refl w193) ⟨fun h => absurd (b198.symm.trans h) (by decide), fun _ => rfl⟩
            · intro s207 w208 e209 hf210 hd211 hu212
              rcases bool_two (decide (0 < x4_1)) with b213 | b213
              · have g214 : (decide (0 < x4_1)) = true := b213
                have d215 : s207 28 = (.bool (decide (0 < x4_1))) := (hd211 2 rfl)
                have d216 : s207 28 = (.bool (decide (0 < x4_1))) := (hd211 2 rfl)
                have d217 : s207 33 = (S ((gt a0 x4_1).path)) := ((hd211 7 rfl).1 b213)
                have d218 : s207 39 = (S ((gt a0 (IntKind.wrap .i64 (x4_1 - 1))).path)) := ((hd211 13 rfl).1 b213)
                exact L_op (.guard 2 true 28 rfl rfl (ltb rfl) (d215.trans (congrArg Value.bool g214))) rfl (ltb rfl) (X_seq d217 d218) <| L_nil <| stepEnd rfl rfl (Ext.refl w208) ⟨fun _ => rfl, fun h => absurd (b213.symm.trans h) (by decide)⟩
              · have d219 : s207 28 = (.bool (decide (0 < x4_1))) := (hd211 2 rfl)
                have g220 : (decide (0 < x4_1)) = false := b213
                exact L_skip rfl rfl (ltb rfl) (d219.trans (congrArg Value.bool g220)) rfl rfl (ltb rfl) <| L_nil <| stepEnd rfl rfl (Ext.refl w208) ⟨fun h => absurd (b213.symm.trans h) (by decide), fun _ => rfl⟩
            · intro s221 w222 e223 hf224 hd225 hu226
              rcases bool_two (decide (0 < x4_1)) with b227 | b227
              · have d228 : s221 28 = (.bool (decide (0 < x4_1))) := (hd225 2 rfl)
                have d229 : s221 40 = (.bool (decide (((gt a0 x4_1).path) = ((gt a0 (IntKind.wrap .i64 (x4_1 - 1))).path)))) := ((hd225 14 rfl).1 b227)
                exact L_op (.plain rfl) rfl (ltb rfl) (X_pick (b := true) (v := (.bool (decide (((gt a0 x4_1).path) = ((gt a0 (IntKind.wrap .i64 (x4_1 - 1))).path))))) (d228.trans (congrArg Value.bool b227)) d229) <| L_nil <| stepEnd rfl rfl (Ext.refl w222) (and_t b227)
              · have d230 : s221 28 = (.bool (decide (0 < x4_1))) := (hd225 2 rfl)
                exact L_op (.plain rfl) rfl (ltb rfl) (X_pick (b := false) (v := (.bool false)) (d230.trans (congrArg Value.bool b227)) rfl) <| L_nil <| stepEnd rfl rfl (Ext.refl w222) (and_f b227)
            intro s231 w232 e233 hf234 ha235
            have K236 := Kp.ofD (kp := [(26, 42)]) rfl hf234
            have d237 : s231 41 = (.bool ((decide (0 < x4_1)) && (decide (((gt a0 x4_1).path) = ((gt a0 (IntKind.wrap .i64 (x4_1 - 1))).path))))) := ha235 15 rfl
            clear ha235 hf234
            refine thn_n ?_
            rcases bif_two H with ⟨q238, H⟩ | ⟨q238, H⟩
            · refine W_true (d237.trans (congrArg Value.bool q238)) <| W_seq <| W_reg <| L_op (.plain rfl) rfl (ltb rfl) (X_move (v := (.int .i64 x4_1)) ((K236 4 rfl).trans h15)) <| L_op (.plain rfl) rfl (ltb rfl) (X_assign (v := (.int .i64 x4_1)) rfl) <| L_op (.plain rfl) rfl (ltb rfl) (X_assign (v := (.int .i64 18)) rfl) <| L_nil <| thn_n <| W_ret <| thn_r <| blk_r <| thn_r <| thn_r <| blk_r <| thn_r <| thn_r <| fin_r ?_
              obtain rfl := Option.some.inj H
              obtain rfl := Option.some.inj S17
              have H := C4
              obtain rfl := Option.some.inj H
              exact fin2 rfl rfl (Ext.trans (Ext.trans e13 e24) e233)
            · refine W_false (d237.trans (congrArg Value.bool q238)) <| W_skip <| thn_n <| W_seq <| W_seq ?_
              obtain ⟨c239, H⟩ := bif_some H
              obtain ⟨c242, H⟩ := bif_some H
              obtain ⟨c245, H⟩ := bif_some H
              obtain ⟨c246, H⟩ := bif_some H
              refine W_drawM [LEq (.int .i64 x4_1), LEq (.bool (decide (0 < x4_1))), LEq (.bool (decide (0 < x4_1))), LIf (decide (0 < x4_1)) (LEq v_a0), LIf (decide (0 < x4_1)) (LEq (.int .i64 x4_1)), LIf (decide (0 < x4_1)) (LEq (.int .i64 (IntKind.wrap .i64 (x4_1 - 1)))), LIf (decide (0 < x4_1)) (LAt0 (encRec (gt a0 (IntKind.wrap .i64 (x4_1 - 1))))), LIf (decide (0 < x4_1)) (LAt 1 (encRec (gt a0 (IntKind.wrap .i64 (x4_1 - 1))))), LIf (decide (0 < x4_1)) (LEq (S ((gt a0 (IntKind.wrap .i64 (x4_1 - 1))).path))), LIf (decide (0 < x4_1)) (LEq v_a0), LIf (decide (0 < x4_1)) (LEq (.int .i64 x4_1)), LIf (decide (0 < x4_1)) (LAt0 (encRec (gt a0 x4_1))), LIf (decide (0 < x4_1)) (LAt 1 (encRec (gt a0 x4_1))), LIf (decide (0 < x4_1)) (LEq (S ((gt a0 x4_1).path))), LIf (decide (0 < x4_1)) (LEq (.bool (spec_l03Fault.e1 a0 x4_1))), LIf (decide (0 < x4_1)) (LEq (.bool (!(spec_l03Fault.e1 a0 x4_1)))), LEq (.bool ((decide (0 < x4_1)) && (!(spec_l03Fault.e1 a0 x4_1))))] (by kernel_rfl) (by kernel_rfl) ⟨LEq.mono, LEq.mono, LEq.mono, (LIf.mono LEq.mono), (LIf.mono LEq.mono), (LIf.mono LEq.mono), (LIf.mono LAt0.mono), (LIf.mono LAt.mono), (LIf.mono LEq.mono), (LIf.mono LEq.mono), (LIf.mono LEq.mono), (LIf.mono LAt0.mono), (LIf.mono LAt.mono), (LIf.mono LEq.mono), (LIf.mono LEq.mono), (LIf.mono LEq.mono), LEq.mono, trivial⟩ ⟨?_, ?_, ?_, ?_, ?_, ?_, ?_, ?_, ?_, ?_, ?_, ?_, ?_, ?_, ?_, ?_, ?_, trivial⟩ ?_
              · intro s249 w250 e251 hf252 hd253 hu254
                exact L_op (.plain rfl) rfl (ltb rfl) (X_move (v := (.int .i64 x4_1)) ((hf252 4 rfl).trans ((K236 4 rfl).trans h15))) <| L_nil <| stepEnd rfl rfl (Ext.refl w250) rfl
              · intro s255 w256 e257 hf258 hd259 hu260
                have d261 : s255 43 = (.int .i64 x4_1) := (hd259 0 rfl)
                exact L_op (.plain rfl) rfl (ltb rfl) (X_gtr d261 rfl) <| L_nil <| stepEnd rfl rfl (Ext.refl w256) rfl
              · intro s262 w263 e264 hf265 hd266 hu267
                have d268 : s262 44 = (.bool (decide (0 < x4_1))) := (hd266 1 rfl)
                exact L_op (.plain rfl) rfl (ltb rfl) (X_move (v := (.bool (decide (0 < x4_1)))) d268) <| L_nil <| stepEnd rfl rfl (Ext.refl w263) rfl
              · intro s269 w270 e271 hf272 hd273 hu274
                rcases bool_two (decide (0 < x4_1)) with b275 | b275
                · have g276 : (decide (0 < x4_1)) = true := b275
                  have d277 : s269 45 = (.bool (decide (0 < x4_1))) := (hd273 2 rfl)
                  have d278 : s269 45 = (.bool (decide (0 < x4_1))) := (hd273 2 rfl)
                  exact L_op (.guard 2 true 45 rfl rfl (ltb rfl) (d277.trans (congrArg Value.bool g276))) rfl (ltb rfl) (X_move (v := v_a0) ((hf272 0 rfl).trans ((K236 0 rfl).trans (K12 0 rfl)))) <| L_nil <| stepEnd rfl rfl (Ext.refl w270) ⟨fun _ => rfl, fun h => absurd (b275.symm.trans h) (by decide)⟩
                · have d279 : s269 45 = (.bool (decide (0 < x4_1))) := (hd273 2 rfl)
                  have g280 : (decide (0 < x4_1)) = false := b275
                  exact L_skip rfl rfl (ltb rfl) (d279.trans (congrArg Value.bool g280)) rfl rfl (ltb rfl) <| L_nil <| stepEnd rfl rfl (Ext.refl w270) ⟨fun h => absurd (b275.symm.trans h) (by decide), fun _ => rfl⟩
              · intro s281 w282 e283 hf284 hd285 hu286
                rcases bool_two (decide (0 < x4_1)) with b287 | b287
                · have g288 : (decide (0 < x4_1)) = true := b287
                  have d289 : s281 45 = (.bool (decide (0 < x4_1))) := (hd285 2 rfl)
                  have d290 : s281 45 = (.bool (decide (0 < x4_1))) := (hd285 2 rfl)
                  exact L_op (.guard 2 true 45 rfl rfl (ltb rfl) (d289.trans (congrArg Value.bool g288))) rfl (ltb rfl) (X_move (v := (.int .i64 x4_1)) ((hf284 4 rfl).trans ((K236 4 rfl).trans h15))) <| L_nil <| stepEnd rfl rfl (Ext.refl w282) ⟨fun _ => rfl, fun h => absurd (b287.symm.trans h) (by decide)⟩
                · have d291 : s281 45 = (.bool (decide (0 < x4_1))) := (hd285 2 rfl)
                  have g292 : (decide (0 < x4_1)) = false := b287
                  exact L_skip rfl rfl (ltb rfl) (d291.trans (congrArg Value.bool g292)) rfl rfl (ltb rfl) <| L_nil <| stepEnd rfl rfl (Ext.refl w282) ⟨fun h => absurd (b287.symm.trans h) (by decide), fun _ => rfl⟩
              · intro s293 w294 e295 hf296 hd297 hu298
                rcases bool_two (decide (0 < x4_1)) with b299 | b299
                · have g300 : (decide (0 < x4_1)) = true := b299
                  have d301 : s293 45 = (.bool (decide (0 < x4_1))) := (hd297 2 rfl)
                  have d302 : s293 45 = (.bool (decide (0 < x4_1))) := (hd297 2 rfl)
                  have d303 : s293 47 = (.int .i64 x4_1) := ((hd297 4 rfl).1 b299)
                  exact L_op (.guard 2 true 45 rfl rfl (ltb rfl) (d301.trans (congrArg Value.bool g300))) rfl (ltb rfl) (X_sub d303 rfl) <| L_nil <| stepEnd rfl rfl (Ext.refl w294) ⟨fun _ => rfl, fun h => absurd (b299.symm.trans h) (by decide)⟩
                · have d304 : s293 45 = (.bool (decide (0 < x4_1))) := (hd297 2 rfl)
                  have g305 : (decide (0 < x4_1)) = false := b299
                  exact L_skip rfl rfl (ltb rfl) (d304.trans (congrArg Value.bool g305)) rfl rfl (ltb rfl) <| L_nil <| stepEnd rfl rfl (Ext.refl w294) ⟨fun h => absurd (b299.symm.trans h) (by decide), fun _ => rfl⟩
              · intro s306 w307 e308 hf309 hd310 hu311
                rcases bool_two (decide (0 < x4_1)) with b312 | b312
                · have g313 : (decide (0 < x4_1)) = true := b312
                  have d314 : s306 45 = (.bool (decide (0 < x4_1))) := (hd310 2 rfl)
                  have d315 : s306 45 = (.bool (decide (0 < x4_1))) := (hd310 2 rfl)
                  have d316 : s306 46 = v_a0 := ((hd310 3 rfl).1 b312)
                  have d317 : s306 48 = (.int .i64 (IntKind.wrap .i64 (x4_1 - 1))) := ((hd310 5 rfl).1 b312)
                  have c318 := imp_take b312 c239
                  exact L_idx (.guard 2 true 45 rfl rfl (ltb rfl) (d314.trans (congrArg Value.bool g313))) rfl (ltb rfl) rfl Tryz.underlying28 Tryz.sizeOf78 d316 (Rd.ext f_a0 (Ext.trans (Ext.trans (Ext.trans e13 e24) e233) e308)) d317 c318 <| fun p319 h320 => L_nil <| stepEnd rfl rfl (Ext.refl w307) ⟨fun _ => ⟨_, rfl, h320⟩, fun h => absurd (b312.symm.trans h) (by decide)⟩
                · have d321 : s306 45 = (.bool (decide (0 < x4_1))) := (hd310 2 rfl)
                  have g322 : (decide (0 < x4_1)) = false := b312
                  exact L_skip rfl rfl (ltb rfl) (d321.trans (congrArg Value.bool g322)) rfl rfl (ltb rfl) <| L_nil <| stepEnd rfl rfl (Ext.refl w307) ⟨fun h => absurd (b312.symm.trans h) (by decide), fun _ => rfl⟩
              · intro s323 w324 e325 hf326 hd327 hu328
                rcases bool_two (decide (0 < x4_1)) with b329 | b329
                · have g330 : (decide (0 < x4_1)) = true := b329
                  have d331 : s323 45 = (.bool (decide (0 < x4_1))) := (hd327 2 rfl)
                  have d332 : s323 45 = (.bool (decide (0 < x4_1))) := (hd327 2 rfl)
                  obtain ⟨p333, h334, h335⟩ := ((hd327 6 rfl).1 b329)
                  exact L_op (.guard 2 true 45 rfl rfl (ltb rfl) (d331.trans (congrArg Value.bool g330))) rfl (ltb rfl) (X_fieldAddr Tryz.underlying78 rfl Tryz.sizeOf9 rfl h334) <| L_nil <| stepEnd rfl rfl (Ext.refl w324) ⟨fun _ => ⟨_, rfl, h335⟩, fun h => absurd (b329.symm.trans h) (by decide)⟩
                · have d336 : s323 45 = (.bool (decide (0 < x4_1))) := (hd327 2 rfl)
                  have g337 : (decide (0 < x4_1)) = false := b329
                  exact L_skip rfl rfl (ltb rfl) (d336.trans (congrArg Value.bool g337)) rfl rfl (ltb rfl) <| L_nil <| stepEnd rfl rfl (Ext.refl w324) ⟨fun h => absurd (b329.symm.trans h) (by decide), fun _ => rfl⟩
              · intro s338 w339 e340 hf341 hd342 hu343
                rcases bool_two (decide (0 < x4_1)) with b344 | b344
                · have g345 : (decide (0 < x4_1)) = true := b344
                  have d346 : s338 45 = (.bool (decide (0 < x4_1))) := (hd342 2 rfl)
                  have d347 : s338 45 = (.bool (decide (0 < x4_1))) := (hd342 2 rfl)
                  obtain ⟨p348, h349, h350⟩ := ((hd342 7 rfl).1 b344)
                  exact L_op (.guard 2 true 45 rfl rfl (ltb rfl) (d346.trans (congrArg Value.bool g345))) rfl (ltb rfl) (X_loadF Tryz.isAgg9 (j := 1) h350 h349 rfl) <| L_nil <| stepEnd rfl rfl (Ext.refl w339) ⟨fun _ => rfl, fun h => absurd (b344.symm.trans h) (by decide)⟩
                · have d351 : s338 45 = (.bool (decide (0 < x4_1))) := (hd342 2 rfl)
                  have g352 : (decide (0 < x4_1)) = false := b344
                  exact L_skip rfl rfl (ltb rfl) (d351.trans (congrArg Value.bool g352)) rfl rfl (ltb rfl) <| L_nil <| stepEnd rfl rfl (Ext.refl w339) ⟨fun h => absurd (b344.symm.trans h) (by decide), fun _ => rfl⟩
              · intro s353 w354 e355 hf356 hd357 hu358
                rcases bool_two (decide (0 < x4_1)) with b359 | b359
                · have g360 : (decide (0 < x4_1)) = true := b359
                  have d361 : s353 45 = (.bool (decide (0 < x4_1))) := (hd357 2 rfl)
                  have d362 : s353 45 = (.bool (decide (0 < x4_1))) := (hd357 2 rfl)
                  exact L_op (.guard 2 true 45 rfl rfl (ltb rfl) (d361.trans (congrArg Value.bool g360))) rfl (ltb rfl) (X_move (v := v_a0) ((hf356 0 rfl).trans ((K236 0 rfl).trans (K12 0 rfl)))) <| L_nil <| stepEnd rfl rfl (Ext.refl w354) ⟨fun _ => rfl, fun h => absurd (b359.symm.trans h) (by decide)⟩
                · have d363 : s353 45 = (.bool (decide (0 < x4_1))) := (hd357 2 rfl)
                  have g364 : (decide (0 < x4_1)) = false := b359
                  exact L_skip rfl rfl (ltb rfl) (d363.trans (congrArg Value.bool g364)) rfl rfl (ltb rfl) <| L_nil <| stepEnd rfl rfl (Ext.refl w354) ⟨fun h => absurd (b359.symm.trans h) (by decide), fun _ => rfl⟩
              · intro s365 w366 e367 hf368 hd369 hu370
                rcases bool_two (decide (0 < x4_1)) with b371 | b371
                · have g372 : (decide (0 < x4_1)) = true := b371
                  have d373 : s365 45 = (.bool (decide (0 < x4_1))) := (hd369 2 rfl)
                  have d374 : s365 45 = (.bool (decide (0 < x4_1))) := (hd369 2 rfl)
                  exact L_op (.guard 2 true 45 rfl rfl (ltb rfl) (d373.trans (congrArg Value.bool g372))) rfl (ltb rfl) (X_move (v := (.int .i64 x4_1)) ((hf368 4 rfl).trans ((K236 4 rfl).trans h15))) <| L_nil <| stepEnd rfl rfl (Ext.refl w366) ⟨fun _ => rfl, fun h => absurd (b371.symm.trans h) (by decide)⟩
                · have d375 : s365 45 = (.bool (decide (0 < x4_1))) := (hd369 2 rfl)
                  have g376 : (decide (0 < x4_1)) = false := b371
                  exact L_skip rfl rfl (ltb rfl) (d375.trans (congrArg Value.bool g376)) rfl rfl (ltb rfl) <| L_nil <| stepEnd rfl rfl (Ext.refl w366) ⟨fun h => absurd (b371.symm.trans h) (by decide), fun _ => rfl⟩
              · intro s377 w378 e379 hf380 hd381 hu382
                rcases bool_two (decide (0 < x4_1)) with b383 | b383
                · have g384 : (decide (0 < x4_1)) = true := b383
                  have d385 : s377 45 = (.bool (decide (0 < x4_1))) := (hd381 2 rfl)
                  have d386 : s377 45 = (.bool (decide (0 < x4_1))) := (hd381 2 rfl)
                  have d387 : s377 52 = v_a0 := ((hd381 9 rfl).1 b383)
                  have d388 : s377 53 = (.int .i64 x4_1) := ((hd381 10 rfl).1 b383)
                  have c389 := imp_take b383 c242
                  exact L_idx (.guard 2 true 45 rfl rfl (ltb rfl) (d385.trans (congrArg Value.bool g384))) rfl (ltb rfl) rfl Tryz.underlying28 Tryz.sizeOf78 d387 (Rd.ext f_a0 (Ext.trans (Ext.trans (Ext.trans e13 e24) e233) e379)) d388 c389 <| fun p390 h391 => L_nil <| stepEnd rfl rfl (Ext.refl w378) ⟨fun _ => ⟨_, rfl, h391⟩, fun h => absurd (b383.symm.trans h) (by decide)⟩
                · have d392 : s377 45 = (.bool (decide (0 < x4_1))) := (hd381 2 rfl)
                  have g393 : (decide (0 < x4_1)) = false := b383
                  exact L_skip rfl rfl (ltb rfl) (d392.trans (congrArg Value.bool g393)) rfl rfl (ltb rfl) <| L_nil <| stepEnd rfl rfl (Ext.refl w378) ⟨fun h => absurd (b383.symm.trans h) (by decide), fun _ => rfl⟩
              · intro s394 w395 e396 hf397 hd398 hu399
                rcases bool_two (decide (0 < x4_1)) with b400 | b400
                · have g401 : (decide (0 < x4_1)) = true := b400
                  have d402 : s394 45 = (.bool (decide (0 < x4_1))) := (hd398 2 rfl)
                  have d403 : s394 45 = (.bool (decide (0 < x4_1))) := (hd398 2 rfl)
                  obtain ⟨p404, h405, h406⟩ := ((hd398 11 rfl).1 b400)
                  exact L_op (.guard 2 true 45 rfl rfl (ltb rfl) (d402.trans (congrArg Value.bool g401))) rfl (ltb rfl) (X_fieldAddr Tryz.underlying78 rfl Tryz.sizeOf9 rfl h405) <| L_nil <| stepEnd rfl rfl (Ext.refl w395) ⟨fun _ => ⟨_, rfl, h406⟩, fun h => absurd (b400.symm.trans h) (by decide)⟩
                · have d407 : s394 45 = (.bool (decide (0 < x4_1))) := (hd398 2 rfl)
                  have g408 : (decide (0 < x4_1)) = false := b400
                  exact L_skip rfl rfl (ltb rfl) (d407.trans (congrArg Value.bool g408)) rfl rfl (ltb rfl) <| L_nil <| stepEnd rfl rfl (Ext.refl w395) ⟨fun h => absurd (b400.symm.trans h) (by decide), fun _ => rfl⟩
              · intro s409 w410 e411 hf412 hd413 hu414
                rcases bool_two (decide (0 < x4_1)) with b415 | b415
                · have g416 : (decide (0 < x4_1)) = true := b415
                  have d417 : s409 45 = (.bool (decide (0 < x4_1))) := (hd413 2 rfl)
                  have d418 : s409 45 = (.bool (decide (0 < x4_1))) := (hd413 2 rfl)
                  obtain ⟨p419, h420, h421⟩ := ((hd413 12 rfl).1 b415)
                  exact L_op (.guard 2 true 45 rfl rfl (ltb rfl) (d417.trans (congrArg Value.bool g416))) rfl (ltb rfl) (X_loadF Tryz.isAgg9 (j := 1) h421 h420 rfl) <| L_nil <| stepEnd rfl rfl (Ext.refl w410) ⟨fun _ => rfl, fun h => absurd (b415.symm.trans h) (by decide)⟩
                · have d422 : s409 45 = (.bool (decide (0 < x4_1))) := (hd413 2 rfl)
                  have g423 : (decide (0 < x4_1)) = false := b415
                  exact L_skip rfl rfl (ltb rfl) (d422.trans (congrArg Value.bool g423)) rfl rfl (ltb rfl) <| L_nil <| stepEnd rfl rfl (Ext.refl w410) ⟨fun h => absurd (b415.symm.trans h) (by decide), fun _ => rfl⟩
              · intro s424 w425 e426 hf427 hd428 hu429
                rcases bool_two (decide (0 < x4_1)) with b430 | b430
                · have g431 : (decide (0 < x4_1)) = true := b430
                  have d432 : s424 45 = (.bool (decide (0 < x4_1))) := (hd428 2 rfl)
                  have d433 : s424 45 = (.bool (decide (0 < x4_1))) := (hd428 2 rfl)
                  have d434 : s424 51 = (S ((gt a0 (IntKind.wrap .i64 (x4_1 - 1))).path)) := ((hd428 8 rfl).1 b430)
                  have d435 : s424 56 = (S ((gt a0 x4_1).path)) := ((hd428 13 rfl).1 b430)
                  have c436 := imp_take b430 c245
                  have c437 := imp_take b430 c246
                  exact L_callP (.guard 2 true 45 rfl rfl (ltb rfl) (d432.trans (congrArg Value.bool g431))) rfl (ltb rfl) rfl Tryz.call112 (spec_l01Less.calls (w := w425) (a0 := (gt a0 (IntKind.wrap .i64 (x4_1 - 1))).path) (a1 := (gt a0 x4_1).path) (of_decide_eq_true c436) (of_decide_eq_true c437)) (cons2 d434 (cons2 d435 rfl)) <| fun w438 e439 => L_nil <| stepEnd rfl rfl e439 ⟨fun _ => rfl, fun h => absurd (b430.symm.trans h) (by decide)⟩
                · have d440 : s424 45 = (.bool (decide (0 < x4_1))) := (hd428 2 rfl)
                  have g441 : (decide (0 < x4_1)) = false := b430
                  exact L_skip rfl rfl (ltb rfl) (d440.trans (congrArg Value.bool g441)) rfl rfl (ltb rfl) <| L_nil <| stepEnd rfl rfl (Ext.refl w425) ⟨fun h => absurd (b430.symm.trans h) (by decide), fun _ => rfl⟩
              · intro s442 w443 e444 hf445 hd446 hu447
                rcases bool_two (decide (0 < x4_1)) with b448 | b448
                · have g449 : (decide (0 < x4_1)) = true := b448
                  have d450 : s442 45 = (.bool (decide (0 < x4_1))) := (hd446 2 rfl)
                  have d451 : s442 45 = (.bool (decide (0 < x4_1))) := (hd446 2 rfl)
                  have d452 : s442 57 = (.bool (spec_l03Fault.e1 a0 x4_1)) := ((hd446 14 rfl).1 b448)
                  exact L_op (.guard 2 true 45 rfl rfl (ltb rfl) (d450.trans (congrArg Value.bool g449))) rfl (ltb rfl) (X_not d452) <| L_nil <| stepEnd rfl rfl (Ext.refl w443) ⟨fun _ => rfl, fun h => absurd (b448.symm.trans h) (by decide)⟩
                · have d453 : s442 45 = (.bool (decide (0 < x4_1))) := (hd446 2 rfl)
                  have g454 : (decide (0 < x4_1)) = false := b448
                  exact L_skip rfl rfl (ltb rfl) (d453.trans (congrArg Value.bool g454)) rfl rfl (ltb rfl) <| L_nil <| stepEnd rfl rfl (Ext.refl w443) ⟨fun h => absurd (b448.symm.trans h) (by decide), fun _ => rfl⟩
              · intro s455 w456 e457 hf458 hd459 hu460
                rcases bool_two (decide (0 < x4_1)) with b461 | b461
                · have d462 : s455 45 = (.bool (decide (0 < x4_1))) := (hd459 2 rfl)
                  have d463 : s455 58 = (.bool (!(spec_l03Fault.e1 a0 x4_1))) := ((hd459 15 rfl).1 b461)
                  exact L_op (.plain rfl) rfl (ltb rfl) (X_pick (b := true) (v := (.bool (!(spec_l03Fault.e1 a0 x4_1)))) (d462.trans (congrArg Value.bool b461)) d463) <| L_nil <| stepEnd rfl rfl (Ext.refl w456) (and_t b461)
                · have d464 : s455 45 = (.bool (decide (0 < x4_1))) := (hd459 2 rfl)
                  exact L_op (.plain rfl) rfl (ltb rfl) (X_pick (b := false) (v := (.bool false)) (d464.trans (congrArg Value.bool b461)) rfl) <| L_nil <| stepEnd rfl rfl (Ext.refl w456) (and_f b461)
              intro s465 w466 e467 hf468 ha469
              have K470 := Kp.ofD (kp := [(43, 60)]) rfl hf468
              have d471 : s465 59 = (.bool ((decide (0 < x4_1)) && (!(spec_l03Fault.e1 a0 x4_1)))) := ha469 16 rfl
              clear ha469 hf468
              refine thn_n ?_
              rcases bif_two H with ⟨q472, H⟩ | ⟨q472, H⟩
              · refine W_true (d471.trans (congrArg Value.bool q472)) <| W_seq <| W_reg <| L_op (.plain rfl) rfl (ltb rfl) (X_move (v := (.int .i64 x4_1)) ((K470 4 rfl).trans ((K236 4 rfl).trans h15))) <| L_op (.plain rfl) rfl (ltb rfl) (X_assign (v := (.int .i64 x4_1)) rfl) <| L_op (.plain rfl) rfl (ltb rfl) (X_assign (v := (.int .i64 11)) rfl) <| L_nil <| thn_n <| W_ret <| thn_r <| blk_r <| thn_r <| thn_r <| blk_r <| thn_r <| thn_r <| fin_r ?_
                obtain rfl := Option.some.inj H
                obtain rfl := Option.some.inj S17
                have H := C4
                obtain rfl := Option.some.inj H
                exact fin2 rfl rfl (Ext.trans (Ext.trans (Ext.trans e13 e24) e233) e467)
              · refine W_false (d471.trans (congrArg Value.bool q472)) <| W_skip <| thn_n <| W_seq <| W_reg <| L_op (.plain rfl) rfl (ltb rfl) (X_move (v := v_a0) ((K470 0 rfl).trans ((K236 0 rfl).trans (K12 0 rfl)))) <| L_op (.plain rfl) rfl (ltb rfl) (X_move (v := (.int .i64 x4_1)) ((K470 4 rfl).trans ((K236 4 rfl).trans h15))) ?_
                obtain ⟨c473, H⟩ := bif_some H
                refine L_idx (.plain rfl) rfl (ltb rfl) rfl Tryz.underlying28 Tryz.sizeOf78 rfl (Rd.ext f_a0 (Ext.trans (Ext.trans (Ext.trans e13 e24) e233) e467)) rfl c473 <| fun p474 h475 => L_op (.plain rfl) rfl (ltb rfl) (X_fieldAddr Tryz.underlying78 rfl Tryz.sizeOf9 rfl rfl) <| L_op (.plain rfl) rfl (ltb rfl) (X_loadF Tryz.isAgg9 (j := 1) h475 rfl rfl) ?_
                obtain ⟨c476, H⟩ := bif_some H
                refine L_callP (.plain rfl) rfl (ltb rfl) rfl Tryz.call113 (spec_l01Parent.calls (w := w466) (a0 := (gt a0 x4_1).path) (of_decide_eq_true c476)) rfl <| fun w477 e478 => L_op (.plain rfl) rfl (ltb rfl) (X_assign (v := (S (parentP ((gt a0 x4_1).path)))) rfl) <| L_nil <| thn_n <| W_seq <| W_seq <| W_reg <| L_op (.plain rfl) rfl (ltb rfl) (X_move (v := (S (parentP ((gt a0 x4_1).path)))) rfl) <| L_op (.plain rfl) rfl (ltb rfl) (X_seq rfl rfl) <| L_nil <| thn_n ?_
                rcases bif_two H with ⟨q479, H⟩ | ⟨q479, H⟩
                · refine W_true (congrArg Value.bool q479) <| W_exit <| thn_x <| blk_x <| thn_n <| W_reg <| L_op (.plain rfl) rfl (ltb rfl) (X_move (v := (.int .i64 x4_1)) ((K470 4 rfl).trans ((K236 4 rfl).trans h15))) <| L_op (.plain rfl) rfl (ltb rfl) (X_add rfl rfl) <| L_op (.plain rfl) rfl (ltb rfl) (X_assign (v := (.int .i64 (IntKind.wrap .i64 (x4_1 + 1)))) rfl) <| L_nil <| thn_n ?_
                  obtain rfl := Option.some.inj H
                  exact ⟨_, Nat.lt_succ_self _, IntKind.wrap .i64 (x4_1 + 1), (Kp.upd (Kp.upd (Kp.upd (Kp.upd (Kp.upd (Kp.upd (Kp.upd (Kp.upd (Kp.upd (Kp.upd (Kp.upd (Kp.upd (Kp.cut (Kp.cut (Kp.upd (Kp.upd (Kp.upd (Kp.upd (Kp.upd (Kp.upd (Kp.upd (Kp.upd (Kp.upd (Kp.upd (Kp.upd (Kp.upd (Kp.upd (Kp.upd K12 rfl) rfl) rfl) rfl) rfl) rfl) rfl) rfl) rfl) rfl) rfl) rfl) rfl) rfl) K236 rfl) K470 rfl) rfl) rfl) rfl) rfl) rfl) rfl) rfl) rfl) rfl) rfl) rfl) rfl), rfl, (Ext.trans (Ext.trans (Ext.trans (Ext.trans e13 e24) e233) e467) e478), S17⟩
                · refine W_false (congrArg Value.bool q479) <| W_skip <| thn_n <| W_seq <| W_reg <| L_op (.plain rfl) rfl (ltb rfl) (X_move (v := v_a0) ((K470 0 rfl).trans ((K236 0 rfl).trans (K12 0 rfl)))) <| L_op (.plain rfl) rfl (ltb rfl) (X_move (v := (.int .i64 x4_1)) ((K470 4 rfl).trans ((K236 4 rfl).trans h15))) ?_
                  obtain ⟨c480, H⟩ := bif_some H
                  refine L_sub (.plain rfl) rfl (ltb rfl) rfl Tryz.underlying28 Tryz.sizeOf78 rfl (Rd.ext f_a0 (Ext.trans (Ext.trans (Ext.trans (Ext.trans e13 e24) e233) e467) e478)) (l := 0) (h := x4_1) rfl ⟨_, rfl⟩ c480 <| fun v481 h482 => L_op (.plain rfl) rfl (ltb rfl) (X_move (v := (S (parentP ((gt a0 x4_1).path)))) rfl) ?_
                  obtain ⟨c483, H⟩ := bif_some H
                  refine L_callP (.plain rfl) rfl (ltb rfl) rfl Tryz.call137 (spec_l03At.calls (w := w477) (a0 := sub a0 0 x4_1) (a1 := (parentP ((gt a0 x4_1).path))) h482 (of_decide_eq_true c483)) rfl <| fun w484 e485 => L_op (.plain rfl) rfl (ltb rfl) (X_assign (v := (.int .i64 (findR (sub a0 0 x4_1) (parentP ((gt a0 x4_1).path))))) rfl) <| L_nil <| thn_n <| W_seq <| W_seq <| W_reg <| L_op (.plain rfl) rfl (ltb rfl) (X_move (v := (.int .i64 (findR (sub a0 0 x4_1) (parentP ((gt a0 x4_1).path))))) rfl) <| L_op (.plain rfl) rfl (ltb rfl) (X_lss rfl rfl) <| L_nil <| thn_n ?_
                  rcases bif_two H with ⟨q486, H⟩ | ⟨q486, H⟩
                  · refine W_true (congrArg Value.bool q486) <| W_seq <| W_reg <| L_op (.plain rfl) rfl (ltb rfl) (X_move (v := (.int .i64 x4_1)) ((K470 4 rfl).trans ((K236 4 rfl).trans h15))) <| L_op (.plain rfl) rfl (ltb rfl) (X_assign (v := (.int .i64 x4_1)) rfl) <| L_op (.plain rfl) rfl (ltb rfl) (X_assign (v := (.int .i64 12)) rfl) <| L_nil <| thn_n <| W_ret <| thn_r <| blk_r <| thn_r <| thn_r <| blk_r <| thn_r <| thn_r <| fin_r ?_
                    obtain rfl := Option.some.inj H
                    obtain rfl := Option.some.inj S17
                    have H := C4
                    obtain rfl := Option.some.inj H
                    exact fin2 rfl rfl (Ext.trans (Ext.trans (Ext.trans (Ext.trans (Ext.trans e13 e24) e233) e467) e478) e485)
                  · refine W_false (congrArg Value.bool q486) <| W_skip <| thn_n <| W_seq <| W_reg <| L_op (.plain rfl) rfl (ltb rfl) (X_move (v := v_a0) ((K470 0 rfl).trans ((K236 0 rfl).trans (K12 0 rfl)))) <| L_op (.plain rfl) rfl (ltb rfl) (X_move (v := (.int .i64 (findR (sub a0 0 x4_1) (parentP ((gt a0 x4_1).path))))) rfl) ?_
                    obtain ⟨c487, H⟩ := bif_some H
                    refine L_idx (.plain rfl) rfl (ltb rfl) rfl Tryz.underlying28 Tryz.sizeOf78 rfl (Rd.ext f_a0 (Ext.trans (Ext.trans (Ext.trans (Ext.trans (Ext.trans e13 e24) e233) e467) e478) e485)) rfl c487 <| fun p488 h489 => L_op (.plain rfl) rfl (ltb rfl) (X_fieldAddr Tryz.underlying78 rfl Tryz.sizeOf3 rfl rfl) <| L_op (.plain rfl) rfl (ltb rfl) (X_loadF Tryz.isAgg3 (j := 0) h489 rfl rfl) <| L_op (.plain rfl) rfl (ltb rfl) (X_neq rfl rfl) <| L_nil <| thn_n ?_
                    rcases bif_two H with ⟨q490, H⟩ | ⟨q490, H⟩
                    · refine W_true (congrArg Value.bool q490) <| W_seq <| W_reg <| L_op (.plain rfl) rfl (ltb rfl) (X_move (v := (.int .i64 x4_1)) ((K470 4 rfl).trans ((K236 4 rfl).trans h15))) <| L_op (.plain rfl) rfl (ltb rfl) (X_assign (v := (.int .i64 x4_1)) rfl) <| L_op (.plain rfl) rfl (ltb rfl) (X_assign (v := (.int .i64 13)) rfl) <| L_nil <| thn_n <| W_ret <| blk_r <| thn_r <| thn_r <| blk_r <| thn_r <| thn_r <| fin_r ?_
                      obtain rfl := Option.some.inj H
                      obtain rfl := Option.some.inj S17
                      have H := C4
                      obtain rfl := Option.some.inj H
                      exact fin2 rfl rfl (Ext.trans (Ext.trans (Ext.trans (Ext.trans (Ext.trans e13 e24) e233) e467) e478) e485)
                    · refine W_false (congrArg Value.bool q490) <| W_skip <| blk_n <| thn_n <| W_reg <| L_op (.plain rfl) rfl (ltb rfl) (X_move (v := (.int .i64 x4_1)) ((K470 4 rfl).trans ((K236 4 rfl).trans h15))) <| L_op (.plain rfl) rfl (ltb rfl) (X_add rfl rfl) <| L_op (.plain rfl) rfl (ltb rfl) (X_assign (v := (.int .i64 (IntKind.wrap .i64 (x4_1 + 1)))) rfl) <| L_nil <| thn_n ?_
                      obtain rfl := Option.some.inj H
                      exact ⟨_, Nat.lt_succ_self _, IntKind.wrap .i64 (x4_1 + 1), (Kp.upd (Kp.upd (Kp.upd (Kp.upd (Kp.upd (Kp.upd (Kp.upd (Kp.upd (Kp.upd (Kp.upd (Kp.upd (Kp.upd (Kp.upd (Kp.upd (Kp.upd (Kp.upd (Kp.upd (Kp.upd (Kp.upd (Kp.upd (Kp.upd (Kp.upd (Kp.upd (Kp.upd (Kp.upd (Kp.upd (Kp.cut (Kp.cut (Kp.upd (Kp.upd (Kp.upd (Kp.upd (Kp.upd (Kp.upd (Kp.upd (Kp.upd (Kp.upd (Kp.upd (Kp.upd (Kp.upd (Kp.upd (Kp.upd K12 rfl) rfl) rfl) rfl) rfl) rfl) rfl) rfl) rfl) rfl) rfl) rfl) rfl) rfl) K236 rfl) K470 rfl) rfl) rfl) rfl) rfl) rfl) rfl) rfl) rfl) rfl) rfl) rfl) rfl) rfl) rfl) rfl) rfl) rfl) rfl) rfl) rfl) rfl) rfl) rfl) rfl) rfl) rfl), rfl, (Ext.trans (Ext.trans (Ext.trans (Ext.trans (Ext.trans e13 e24) e233) e467) e478) e485), S17⟩
      · refine W_false (congrArg Value.bool q18) <| W_exit <| thn_x <| thn_x <| blk_x <| thn_n ?_
        obtain rfl := Option.some.inj H
        obtain rfl := Option.some.inj S17
        exact ⟨(Kp.upd (Kp.upd (Kp.upd (Kp.upd K12 rfl) rfl) rfl) rfl), e13, rfl⟩
  · rintro s6 w5 ⟨K7, e8, y491⟩
    rw [y491] at C4
    have H := C4
    replace H : _ = some _ := H
    refine thn_n <| W_seq <| W_reg <| L_op (.plain rfl) rfl (ltb rfl) (X_assign (v := (.int .i64 0)) rfl) <| L_op (.plain rfl) rfl (ltb rfl) (X_assign (v := (.int .i64 0)) rfl) <| L_nil <| thn_n <| W_ret <| fin_r ?_
    obtain rfl := Option.some.inj H
    exact fin2 rfl rfl e8
theorem spec_l03Fault.calls {w : World} {a0 : List Rec} {v_a0 : Value} (f_a0 : Rd 5 encRec w v_a0 a0) (h0 : a0.length ≤ 1048576) (h1 : ∀ x ∈ a0, x.path.length ≤ 1048576) :
    Calls Tryz.prog 109 #[v_a0] w (Rt (RP w (.tuple #[.int .i64 ((layerFault a0).1), .int .i64 ((layerFault a0).2)]))) := by
  obtain ⟨k, h⟩ := spec_l03Fault.eq a0 h0 h1
  exact spec_l03Fault.walk f_a0 h
/-! impl.isLongList(impl.Record) -/
theorem impl_isLongListR.walk {w : World} {a0 : List Rec} {v_a0 : Value} (f_a0 : Rd 5 encRec w v_a0 a0) {r : Bool} (H : impl_isLongListR.sh a0 = some r) :
    Calls Tryz.prog 69 #[v_a0] w (Rt (RP w (.bool r))) := by
  unfold impl_isLongListR.sh at H
  refine calls_of_W Tryz.func69 rfl (Nat.le_of_ble_eq_true rfl) Tryz.ntmps69 rfl ?_
  refine W_seq <| W_reg <| L_op (.plain rfl) rfl (ltb rfl) (X_assign (v := (.bool false)) rfl) <| L_nil <| thn_n <| W_seq <| W_reg <| L_op (.plain rfl) rfl (ltb rfl) (X_move (v := v_a0) rfl) <| L_op (.plain rfl) rfl (ltb rfl) (X_lenR Tryz.underlying28 rfl f_a0) <| L_op (.plain rfl) rfl (ltb rfl) (X_gtr rfl rfl) <| L_op (.plain rfl) rfl (ltb rfl) (X_assign (v := (.bool (decide (4096 < (a0.length : Int))))) rfl) <| L_nil <| thn_n <| W_ret <| fin_r ?_
  obtain rfl := Option.some.inj H
  exact fin1 rfl (Ext.refl w)
theorem impl_isLongListR.calls {w : World} {a0 : List Rec} {v_a0 : Value} (f_a0 : Rd 5 encRec w v_a0 a0) :
    Calls Tryz.prog 69 #[v_a0] w (Rt (RP w (.bool (decide (4096 < a0.length))))) := impl_isLongListR.walk f_a0 (impl_isLongListR.eq a0)
/-! impl.find$1 -/
theorem impl_find_1.walk {w : World} {a0 : Rec} {a1 : List UInt8} {b_a1 : Nat} (k_a1 : Blk w b_a1 #[(S a1)] 9) {r : Bool} (H : impl_find_1.sh a0 a1 = some r) :
    Calls Tryz.prog 157 #[.agg (encRec a0).toArray, .pointer (some ⟨b_a1, 0, none⟩)] w (Rt (RP w (.bool r))) := by
  unfold impl_find_1.sh at H
  refine calls_of_W Tryz.func157 rfl (Nat.le_of_ble_eq_true rfl) Tryz.ntmps157 rfl ?_
  refine W_seq <| W_reg <| L_box (.plain rfl) rfl (ltb rfl) rfl rfl <| fun b1 w2 z3 z4 e5 k6 => L_op (.plain rfl) rfl (ltb rfl) (X_assign (v := (.bool false)) rfl) <| L_nil <| thn_n <| W_seq <| W_reg <| L_op (.plain rfl) rfl (ltb rfl) (X_fieldAddr Tryz.underlying78 rfl Tryz.sizeOf9 rfl rfl) <| L_op (.plain rfl) rfl (ltb rfl) (X_loadB Tryz.isAgg9 k6 rfl rfl) <| L_op (.plain rfl) rfl (ltb rfl) (X_loadB Tryz.isAgg9 (Blk.ext k_a1 e5) rfl rfl) <| L_op (.plain rfl) rfl (ltb rfl) (X_seq rfl rfl) <| L_op (.plain rfl) rfl (ltb rfl) (X_assign (v := (.bool (decide (a0.path = a1)))) rfl) <| L_nil <| thn_n <| W_ret <| fin_r ?_
  obtain rfl := Option.some.inj H
  exact fin1 rfl e5
theorem impl_find_1.calls {w : World} {a0 : Rec} {a1 : List UInt8} {b_a1 : Nat} (k_a1 : Blk w b_a1 #[(S a1)] 9) :
    Calls Tryz.prog 157 #[.agg (encRec a0).toArray, .pointer (some ⟨b_a1, 0, none⟩)] w (Rt (RP w (.bool (decide (a0.path = a1))))) := impl_find_1.walk k_a1 (impl_find_1.eq a0 a1)
/-! slices.IndexFunc(()impl.Record,impl.Record) -/
theorem slices_IndexFuncR.walk {k : Nat} {w : World} {a0 : List Rec} {a1 : Rec → Option Bool} {v_a0 : Value} (f_a0 : Rd 5 encRec w v_a0 a0) {v_a1 : Value} (f_a1 : ∀ (x0 : Rec) (r : Bool), a1 x0 = some r → FnAt Tryz.prog w v_a1 [(.agg (encRec x0).toArray)] (.bool r)) (g_a1 : v_a1.cells = #[v_a1]) {r : Int} (H : slices_IndexFuncR.sh k a0 a1 = some r) :
    Calls Tryz.prog 156 #[v_a0, v_a1] w (Rt (RP w (.int .i64 r))) := by
  unfold slices_IndexFuncR.sh at H
  refine calls_of_W Tryz.func156 rfl (Nat.le_of_ble_eq_true rfl) Tryz.ntmps156 rfl ?_
  refine W_seq <| W_reg <| L_op (.plain rfl) rfl (ltb rfl) (X_assign (v := (.int .i64 0)) rfl) <| L_nil <| thn_n <| W_seq <| W_seq <| W_reg <| L_op (.plain rfl) rfl (ltb rfl) (X_move (v := v_a0) rfl) <| L_op (.plain rfl) rfl (ltb rfl) (X_lenR Tryz.underlying28 rfl f_a0) <| L_op (.plain rfl) rfl (ltb rfl) (X_move (v := (.int .i64 0)) rfl) <| L_nil <| thn_n ?_
  obtain ⟨z2, L3, C4⟩ := bind_some H
  clear H
  refine  W_cutQ (fun s0 sQ wQ => Kp [(4, 6), (8, 19)] s0 sQ ∧ Ext w wQ ∧ z2 = .inr ()) ?_ ?_
  · refine W_block <| W_loopI (fun s0 kk sQ wQ => ∃ (x8_1 : Int), Kp [(4, 6), (8, 19)] s0 sQ ∧ sQ 8 = .int .i64 x8_1 ∧ Ext w wQ ∧ loopF (slices_IndexFuncR.b1 a0 a1) kk x8_1 = some z2) k ⟨0, (Kp.refl _ _), rfl, (Ext.refl w), L3⟩ ?_
    rintro k9 s10 w11 ⟨x8_1, K12, h15, e13, L14⟩
    cases k9 with
    | zero => exact absurd L14 (by simp [loopF])
    | succ k9 =>
      obtain ⟨t16, H, S17⟩ := loopF_succ L14
      clear L14
      unfold slices_IndexFuncR.b1 at H
      refine W_seq <| W_reg <| L_op (.plain rfl) rfl (ltb rfl) (X_lss h15 (K12 7 rfl)) <| L_nil <| thn_n <| W_seq ?_
      rcases bif_two H with ⟨q18, H⟩ | ⟨q18, H⟩
      · refine W_true (congrArg Value.bool q18) <| W_skip <| thn_n <| W_seq <| W_block <| W_seq <| W_reg <| L_op (.plain rfl) rfl (ltb rfl) (X_move (v := (.int .i64 x8_1)) h15) <| L_op (.plain rfl) rfl (ltb rfl) (X_assign (v := (.int .i64 x8_1)) rfl) <| L_nil <| thn_n <| W_seq <| W_reg <| L_op (.plain rfl) rfl (ltb rfl) (X_move (v := v_a1) (K12 1 rfl)) <| L_op (.plain rfl) rfl (ltb rfl) (X_move (v := v_a0) (K12 0 rfl)) <| L_op (.plain rfl) rfl (ltb rfl) (X_move (v := (.int .i64 x8_1)) rfl) ?_
        obtain ⟨c19, H⟩ := bif_some H
        refine L_idx (.plain rfl) rfl (ltb rfl) rfl Tryz.underlying28 Tryz.sizeOf78 rfl (Rd.ext f_a0 e13) rfl c19 <| fun p20 h21 => L_op (.plain rfl) rfl (ltb rfl) (X_loadS Tryz.isAgg78 Tryz.sizeOf78 rfl rfl h21) ?_
        obtain ⟨z22, x23, H⟩ := bind_some H
        refine L_callF (.plain rfl) rfl (ltb rfl) rfl rfl (FnAt.ext (f_a1 _ _ x23) e13) rfl <| fun w24 e25 => L_nil <| thn_n ?_
        rcases bif_two H with ⟨q26, H⟩ | ⟨q26, H⟩
        · refine W_true (congrArg Value.bool q26) <| W_seq <| W_reg <| L_op (.plain rfl) rfl (ltb rfl) (X_move (v := (.int .i64 x8_1)) rfl) <| L_op (.plain rfl) rfl (ltb rfl) (X_assign (v := (.int .i64 x8_1)) rfl) <| L_nil <| thn_n <| W_ret <| blk_r <| thn_r <| thn_r <| blk_r <| thn_r <| thn_r <| fin_r ?_
          obtain rfl := Option.some.inj H
          obtain rfl := Option.some.inj S17
          have H := C4
          obtain rfl := Option.some.inj H
          exact fin1 rfl (Ext.trans e13 e25)
        · refine W_false (congrArg Value.bool q26) <| W_skip <| blk_n <| thn_n <| W_reg <| L_op (.plain rfl) rfl (ltb rfl) (X_add h15 rfl) <| L_op (.plain rfl) rfl (ltb rfl) (X_move (v := (.int .i64 (IntKind.wrap .i64 (x8_1 + 1)))) rfl) <| L_nil <| thn_n ?_
          obtain rfl := Option.some.inj H
          exact ⟨_, Nat.lt_succ_self _, IntKind.wrap .i64 (x8_1 + 1), (Kp.upd (Kp.upd (Kp.upd (Kp.upd (Kp.upd (Kp.upd (Kp.upd (Kp.upd (Kp.upd (Kp.upd (Kp.upd K12 rfl) rfl) rfl) rfl) rfl) rfl) rfl) rfl) rfl) rfl) rfl), rfl, (Ext.trans e13 e25), S17⟩
      · refine W_false (congrArg Value.bool q18) <| W_exit <| thn_x <| thn_x <| blk_x <| thn_n ?_
        obtain rfl := Option.some.inj H
        obtain rfl := Option.some.inj S17
        exact ⟨(Kp.upd K12 rfl), e13, rfl⟩
  · rintro s6 w5 ⟨K7, e8, y27⟩
    rw [y27] at C4
    have H := C4
    replace H : _ = some _ := H
    refine thn_n <| W_seq <| W_reg <| L_op (.plain rfl) rfl (ltb rfl) (X_assign (v := (.int .i64 (-1))) rfl) <| L_nil <| thn_n <| W_ret <| fin_r ?_
    obtain rfl := Option.some.inj H
    exact fin1 rfl e8
theorem slices_IndexFuncR.calls {w : World} {a0 : List Rec} {a1 : Rec → Option Bool} {r : Int} {v_a0 : Value} (f_a0 : Rd 5 encRec w v_a0 a0) {v_a1 : Value} (f_a1 : ∀ (x0 : Rec) (r : Bool), a1 x0 = some r → FnAt Tryz.prog w v_a1 [(.agg (encRec x0).toArray)] (.bool r)) (g_a1 : v_a1.cells = #[v_a1]) (h0 : a0.length ≤ 4611686018427387904) (H : (idxO a1 a0) = some r) :
    Calls Tryz.prog 156 #[v_a0, v_a1] w (Rt (RP w (.int .i64 r))) := by
  obtain ⟨k, h⟩ := slices_IndexFuncR.eq a0 a1 h0 H
  exact slices_IndexFuncR.walk f_a0 f_a1 g_a1 h
/-! impl.find -/
theorem impl_find.walk {w : World} {a0 : List Rec} {a1 : List UInt8} {v_a0 : Value} (f_a0 : Rd 5 encRec w v_a0 a0) {r : Int} (H : impl_find.sh a0 a1 = some r) :
    Calls Tryz.prog 105 #[v_a0, S a1] w (Rt (RP w (.int .i64 r))) := by
  unfold impl_find.sh at H
  refine calls_of_W Tryz.func105 rfl (Nat.le_of_ble_eq_true rfl) Tryz.ntmps105 rfl ?_
  refine W_seq <| W_reg <| L_box (.plain rfl) rfl (ltb rfl) rfl rfl <| fun b1 w2 z3 z4 e5 k6 => L_op (.plain rfl) rfl (ltb rfl) (X_assign (v := (.int .i64 0)) rfl) <| L_nil <| thn_n <| W_seq <| W_reg <| L_op (.plain rfl) rfl (ltb rfl) (X_move (v := v_a0) rfl) <| L_op (.plain rfl) rfl (ltb rfl) (X_makeFunc (vs := #[]) (us := #[.pointer (some ⟨b1, 0, none⟩)]) rfl rfl) ?_
  obtain ⟨c11, H⟩ := bif_some H
  obtain ⟨z12, x13, H⟩ := bind_some H
  refine L_callP (.plain rfl) rfl (ltb rfl) rfl Tryz.call156 (slices_IndexFuncR.calls (w := w2) (a0 := a0) (a1 := (fun (x0_ : Rec) => some (decide (x0_.path = a1)))) (Rd.ext f_a0 e5) (fun x0_ r h => by have h := Option.some.inj h; subst h; exact FnAt.mk Tryz.call157 (by rfl) fun w9 k10 => impl_find_1.calls (w := w9) (a0 := x0_) (a1 := a1) (Blk.ext k6 k10)) rfl (of_decide_eq_true c11) x13) rfl <| fun w14 e15 => L_op (.plain rfl) rfl (ltb rfl) (X_assign (v := (.int .i64 z12)) rfl) <| L_nil <| thn_n <| W_ret <| fin_r ?_
  obtain rfl := Option.some.inj H
  exact fin1 rfl (Ext.trans e5 e15)
theorem impl_find.calls {w : World} {a0 : List Rec} {a1 : List UInt8} {v_a0 : Value} (f_a0 : Rd 5 encRec w v_a0 a0) (h0 : a0.length ≤ 1048576) :
    Calls Tryz.prog 105 #[v_a0, S a1] w (Rt (RP w (.int .i64 (findR a0 a1)))) := impl_find.walk f_a0 (impl_find.eq a0 a1 h0)
/-! impl.faultAt -/
abbrev impl_faultAt.e1 (a0 : List Rec) (a1 : Int) (x6_19 : Int) := ([.inl (!(decide (recFault (gt a0 a1) = 0))), .inr (recFault (gt a0 a1)), .inl ((decide (0 < a1)) && (decide (((gt a0 (if ((IntKind.wrap .i64 (a1 - 1)) < 0 : Prop) then 0 else (IntKind.wrap .i64 (a1 - 1)))).path) = ((gt a0 a1).path)))), .inr 18, .inl ((decide (0 < a1)) && (!(pathLess ((gt a0 (if ((IntKind.wrap .i64 (a1 - 1)) < 0 : Prop) then 0 else (IntKind.wrap .i64 (a1 - 1)))).path) ((gt a0 a1).path)))), .inr 11, .inl (decide (x6_19 < 0)), .inr 12, .inl ((!decide ((parentP ((gt a0 a1).path)) = ([] : List UInt8))) && (!decide (((gt a0 (if (x6_19 < 0 : Prop) then 0 else x6_19)).kind) = 3))), .inr 13] : List (Bool ⊕ Int))
abbrev impl_faultAt.e2 (a0 : List Rec) (a1 : Int) := (!decide ((parentP ((gt a0 a1).path)) = ([] : List UInt8)))
abbrev impl_faultAt.e3 (a1 : Int) := (if ((IntKind.wrap .i64 (a1 - 1)) < 0 : Prop) then 0 else (IntKind.wrap .i64 (a1 - 1)))
abbrev impl_faultAt.e4 (a0 : List Rec) (a1 : Int) (x6_19 : Int) := ([.inl (decide (16 ≤ a1)), .inr 6, .inl true, .inr (firstOf (impl_faultAt.e1 a0 a1 x6_19))] : List (Bool ⊕ Int))
abbrev impl_faultAt.e5 (a0 : List Rec) (a1 : Int) := (pathLess ((gt a0 (impl_faultAt.e3 a1)).path) ((gt a0 a1).path))
abbrev impl_faultAt.e6 (a0 : List Rec) (x6_19 : Int) := (!decide (((gt a0 (if (x6_19 < 0 : Prop) then 0 else x6_19)).kind) = 3))
abbrev impl_faultAt.e7 (a0 : List Rec) (a1 : Int) := (decide (((gt a0 (impl_faultAt.e3 a1)).path) = ((gt a0 a1).path)))
theorem impl_faultAt.walk {w : World} {a0 : List Rec} {a1 : Int} (gv : GV 0 w) {v_a0 : Value} (f_a0 : Rd 5 encRec w v_a0 a0) {r : Int} (H : impl_faultAt.sh a0 a1 = some r) :
    Calls Tryz.prog 199 #[v_a0, .int .i64 a1] w (Rt (RP w (.int .i64 r))) := by
  unfold impl_faultAt.sh at H
  refine calls_of_W Tryz.func199 rfl (Nat.le_of_ble_eq_true rfl) Tryz.ntmps199 rfl ?_
  refine W_seq <| W_reg <| L_op (.plain rfl) rfl (ltb rfl) (X_assign (v := (.int .i64 0)) rfl) <| L_nil <| thn_n <| W_seq <| W_reg <| L_op (.plain rfl) rfl (ltb rfl) (X_move (v := v_a0) rfl) <| L_op (.plain rfl) rfl (ltb rfl) (X_move (v := (.int .i64 a1)) rfl) ?_
  obtain ⟨c1, H⟩ := bif_some H
  refine L_idx (.plain rfl) rfl (ltb rfl) rfl Tryz.underlying28 Tryz.sizeOf78 rfl f_a0 rfl c1 <| fun p2 h3 => L_op (.plain rfl) rfl (ltb rfl) (X_loadS Tryz.isAgg78 Tryz.sizeOf78 rfl rfl h3) <| L_alloc (.plain rfl) rfl (ltb rfl) rfl Tryz.zeroValue78 <| fun b4 w5 z6 z7 e8 k9 => L_storeA (.plain rfl) rfl rfl Tryz.sizeOf78 rfl rfl rfl rfl rfl k9 <| fun w10 h11 k12 => L_op (.plain rfl) rfl (ltb rfl) (X_assign (v := (.int .i64 0)) rfl) <| L_nil <| thn_n <| W_seq <| W_seq <| W_reg <| L_op (.plain rfl) rfl (ltb rfl) (X_fieldAddr Tryz.underlying78 rfl Tryz.sizeOf9 rfl rfl) <| L_op (.plain rfl) rfl (ltb rfl) (X_loadB Tryz.isAgg9 k12 rfl rfl) ?_
  obtain ⟨c13, H⟩ := bif_some H
  refine L_callP (.plain rfl) rfl (ltb rfl) rfl Tryz.call120 (impl_parent.calls (w := w10) (a0 := (gt a0 a1).path) (of_decide_eq_true c13)) rfl <| fun w14 e15 => L_op (.plain rfl) rfl (ltb rfl) (X_assign (v := (S (parentP ((gt a0 a1).path)))) rfl) <| L_nil <| thn_n <| W_seq <| W_reg <| L_op (.plain rfl) rfl (ltb rfl) (X_move (v := (S (parentP ((gt a0 a1).path)))) rfl) <| L_op (.plain rfl) rfl (ltb rfl) (X_sne rfl rfl) <| L_nil <| thn_n ?_
  obtain ⟨z16, L17, C18⟩ := bind_some H
  clear H
  refine W_cutQ (fun s0 sQ wQ => ∃ (x6_19 : Int), Kp [(6, 7), (17, 22)] s0 sQ ∧ sQ 6 = .int .i64 x6_19 ∧ Ext w14 wQ ∧ z16 = .inr x6_19) ?_ ?_
  · have H := L17
    rcases bif_two H with ⟨q20, H⟩ | ⟨q20, H⟩
    · refine W_true (congrArg Value.bool q20) <| W_reg <| L_op (.plain rfl) rfl (ltb rfl) (X_move (v := v_a0) rfl) <| L_op (.plain rfl) rfl (ltb rfl) (X_move (v := (.int .i64 a1)) rfl) ?_
      obtain ⟨c21, H⟩ := bif_some H
      refine L_sub (.plain rfl) rfl (ltb rfl) rfl Tryz.underlying28 Tryz.sizeOf78 rfl (Rd.ext f_a0 (Ext.trans (Below.trans e8 (Wr.below h11 (Nat.le_of_eq z6))) e15)) (l := 0) (h := a1) rfl ⟨_, rfl⟩ c21 <| fun v22 h23 => L_op (.plain rfl) rfl (ltb rfl) (X_move (v := (S (parentP ((gt a0 a1).path)))) rfl) ?_
      obtain ⟨c24, H⟩ := bif_some H
      refine L_callP (.plain rfl) rfl (ltb rfl) rfl Tryz.call105 (impl_find.calls (w := w14) (a0 := sub a0 0 a1) (a1 := (parentP ((gt a0 a1).path))) h23 (of_decide_eq_true c24)) rfl <| fun w25 e26 => L_op (.plain rfl) rfl (ltb rfl) (X_assign (v := (.int .i64 (findR (sub a0 0 a1) (parentP ((gt a0 a1).path))))) rfl) <| L_nil <| thn_n ?_
      obtain rfl := Option.some.inj H
      exact ⟨(findR (sub a0 0 a1) (parentP ((gt a0 a1).path))), (Kp.upd (Kp.upd (Kp.upd (Kp.upd (Kp.upd (Kp.upd (Kp.refl _ _) rfl) rfl) rfl) rfl) rfl) rfl), rfl, e26, rfl⟩
    · refine W_false (congrArg Value.bool q20) <| W_skip <| thn_n ?_
      obtain rfl := Option.some.inj H
      exact ⟨0, (Kp.refl _ _), rfl, (Ext.refl w14), rfl⟩
  · rintro s28 w27 ⟨x6_19, K29, h32, e30, y31⟩
    rw [y31] at C18
    have H := C18
    refine thn_n <| W_seq ?_
    obtain ⟨c37, H⟩ := bif_some H
    obtain ⟨c40, H⟩ := bif_some H
    obtain ⟨c45, H⟩ := bif_some H
    obtain ⟨c48, H⟩ := bif_some H
    obtain ⟨c57, H⟩ := bif_some H
    obtain ⟨c66, H⟩ := bif_some H
    refine W_drawM [LEq (.int .i64 a1), LEq (.bool (decide (16 ≤ a1))), LEq (.iface 4 (.bool (decide (16 ≤ a1)))), LEq (.iface 3 (.int .i64 6)), LEq (.iface 4 (.bool true)), LEq (.agg #[(.int .i64 ((gt a0 a1).kind)), (S ((gt a0 a1).path)), (S ((gt a0 a1).body)), (.int .i64 ((gt a0 a1).mode)), (.bool ((gt a0 a1).opq))]), LEq (.bool (decide (recFault (gt a0 a1) = 0))), LEq (.bool (!(decide (recFault (gt a0 a1) = 0)))), LEq (.iface 4 (.bool (!(decide (recFault (gt a0 a1) = 0))))), LEq (.agg #[(.int .i64 ((gt a0 a1).kind)), (S ((gt a0 a1).path)), (S ((gt a0 a1).body)), (.int .i64 ((gt a0 a1).mode)), (.bool ((gt a0 a1).opq))]), LEq (.int .i64 (recFault (gt a0 a1))), LEq (.iface 3 (.int .i64 (recFault (gt a0 a1)))), LEq (.int .i64 a1), LEq (.bool (decide (0 < a1))), LEq (.bool (decide (0 < a1))), LIf (decide (0 < a1)) (LEq v_a0), LIf (decide (0 < a1)) (LEq (.int .i64 a1)), LIf (decide (0 < a1)) (LEq (.int .i64 (IntKind.wrap .i64 (a1 - 1)))), LIf (decide (0 < a1)) (LEq (.int .i64 (impl_faultAt.e3 a1))), LIf (decide (0 < a1)) (LAt0 (encRec (gt a0 (impl_faultAt.e3 a1)))), LIf (decide (0 < a1)) (LAt 1 (encRec (gt a0 (impl_faultAt.e3 a1)))), LIf (decide (0 < a1)) (LEq (S ((gt a0 (impl_faultAt.e3 a1)).path))), LIf (decide (0 < a1)) (LEq (.pointer (some ⟨b4, 1, none⟩))), LIf (decide (0 < a1)) (LEq (S ((gt a0 a1).path))), LIf (decide (0 < a1)) (LEq (.bool (impl_faultAt.e7 a0 a1))), LEq (.bool ((decide (0 < a1)) && (impl_faultAt.e7 a0 a1))), LEq (.iface 4 (.bool ((decide (0 < a1)) && (impl_faultAt.e7 a0 a1)))), LEq (.iface 3 (.int .i64 18)), LEq (.int .i64 a1), LEq (.bool (decide (0 < a1))), LEq (.bool (decide (0 < a1))), LIf (decide (0 < a1)) (LEq v_a0), LIf (decide (0 < a1)) (LEq (.int .i64 a1)), LIf (decide (0 < a1)) (LEq (.int .i64 (IntKind.wrap .i64 (a1 - 1)))), LIf (decide (0 < a1)) (LEq (.int .i64 (impl_faultAt.e3 a1))), LIf (decide (0 < a1)) (LAt0 (encRec (gt a0 (impl_faultAt.e3 a1)))), LIf (decide (0 < a1)) (LAt 1 (encRec (gt a0 (impl_faultAt.e3 a1)))), LIf (decide (0 < a1)) (LEq (S ((gt a0 (impl_faultAt.e3 a1)).path))), LIf (decide (0 < a1)) (LEq (.pointer (some ⟨b4, 1, none⟩))), LIf (decide (0 < a1)) (LEq (S ((gt a0 a1).path))), LIf (decide (0 < a1)) (LEq (.bool (impl_faultAt.e5 a0 a1))), LIf (decide (0 < a1)) (LEq (.bool (!(impl_faultAt.e5 a0 a1)))), LEq (.bool ((decide (0 < a1)) && (!(impl_faultAt.e5 a0 a1)))), LEq (.iface 4 (.bool ((decide (0 < a1)) && (!(impl_faultAt.e5 a0 a1))))), LEq (.iface 3 (.int .i64 11)), LEq (.int .i64 x6_19), LEq (.bool (decide (x6_19 < 0))), LEq (.iface 4 (.bool (decide (x6_19 < 0)))), LEq (.iface 3 (.int .i64 12)), LEq (.pointer (some ⟨b4, 1, none⟩)), LEq (S ((gt a0 a1).path)), LEq (S (parentP ((gt a0 a1).path))), LEq (.bool (impl_faultAt.e2 a0 a1)), LEq (.bool (impl_faultAt.e2 a0 a1)), LIf (impl_faultAt.e2 a0 a1) (LEq v_a0), LIf (impl_faultAt.e2 a0 a1) (LEq (.int .i64 x6_19)), LIf (impl_faultAt.e2 a0 a1) (LEq (.int .i64 (if (x6_19 < 0 : Prop) then 0 else x6_19))), LIf (impl_faultAt.e2 a0 a1) (LAt0 (encRec (gt a0 (if (x6_19 < 0 : Prop) then 0 else x6_19)))), LIf (impl_faultAt.e2 a0 a1) (LAt 0 (encRec (gt a0 (if (x6_19 < 0 : Prop) then 0 else x6_19)))), LIf (impl_faultAt.e2 a0 a1) (LEq (.int .i64 ((gt a0 (if (x6_19 < 0 : Prop) then 0 else x6_19)).kind))), LIf (impl_faultAt.e2 a0 a1) (LEq (.bool (impl_faultAt.e6 a0 x6_19))), LEq (.bool ((impl_faultAt.e2 a0 a1) && (impl_faultAt.e6 a0 x6_19))), LEq (.iface 4 (.bool ((impl_faultAt.e2 a0 a1) && (impl_faultAt.e6 a0 x6_19)))), LEq (.iface 3 (.int .i64 13)), LRd 1 (encAny 4 3) (impl_faultAt.e1 a0 a1 x6_19), LEq (.int .i64 (firstOf (impl_faultAt.e1 a0 a1 x6_19))), LEq (.iface 3 (.int .i64 (firstOf (impl_faultAt.e1 a0 a1 x6_19)))), LRd 1 (encAny 4 3) (impl_faultAt.e4 a0 a1 x6_19), LEq (.int .i64 (firstOf (impl_faultAt.e4 a0 a1 x6_19))), LEq (.int .i64 (firstOf (impl_faultAt.e4 a0 a1 x6_19)))] (by kernel_rfl) (by kernel_rfl) ⟨LEq.mono, LEq.mono, LEq.mono, LEq.mono, LEq.mono, LEq.mono, LEq.mono, LEq.mono, LEq.mono, LEq.mono, LEq.mono, LEq.mono, LEq.mono, LEq.mono, LEq.mono, (LIf.mono LEq.mono), (LIf.mono LEq.mono), (LIf.mono LEq.mono), (LIf.mono LEq.mono), (LIf.mono LAt0.mono), (LIf.mono LAt.mono), (LIf.mono LEq.mono), (LIf.mono LEq.mono), (LIf.mono LEq.mono), (LIf.mono LEq.mono), LEq.mono, LEq.mono, LEq.mono, LEq.mono, LEq.mono, LEq.mono, (LIf.mono LEq.mono), (LIf.mono LEq.mono), (LIf.mono LEq.mono), (LIf.mono LEq.mono), (LIf.mono LAt0.mono), (LIf.mono LAt.mono), (LIf.mono LEq.mono), (LIf.mono LEq.mono), (LIf.mono LEq.mono), (LIf.mono LEq.mono), (LIf.mono LEq.mono), LEq.mono, LEq.mono, LEq.mono, LEq.mono, LEq.mono, LEq.mono, LEq.mono, LEq.mono, LEq.mono, LEq.mono, LEq.mono, LEq.mono, (LIf.mono LEq.mono), (LIf.mono LEq.mono), (LIf.mono LEq.mono), (LIf.mono LAt0.mono), (LIf.mono LAt.mono), (LIf.mono LEq.mono), (LIf.mono LEq.mono), LEq.mono, LEq.mono, LEq.mono, LRd.mono, LEq.mono, LEq.mono, LRd.mono, LEq.mono, LEq.mono, trivial⟩ ⟨?_, ?_, ?_, ?_, ?_, ?_, ?_, ?_, ?_, ?_, ?_, ?_, ?_, ?_, ?_, ?_, ?_, ?_, ?_, ?_, ?_, ?_, ?_, ?_, ?_, ?_, ?_, ?_, ?_, ?_, ?_, ?_, ?_, ?_, ?_, ?_, ?_, ?_, ?_, ?_, ?_, ?_, ?_, ?_, ?_, ?_, ?_, ?_, ?_, ?_, ?_, ?_, ?_, ?_, ?_, ?_, ?_, ?_, ?_, ?_, ?_, ?_, ?_, ?_, ?_, ?_, ?_, ?_, ?_, ?_, trivial⟩ ?_
    · intro s69 w70 e71 hf72 hd73 hu74
      exact L_op (.plain rfl) rfl (ltb rfl) (X_move (v := (.int .i64 a1)) ((hf72 1 rfl).trans (K29 1 rfl))) <| L_nil <| stepEnd rfl rfl (Ext.refl w70) rfl
    · intro s75 w76 e77 hf78 hd79 hu80
      have d81 : s75 22 = (.int .i64 a1) := (hd79 0 rfl)
      exact L_op (.plain rfl) rfl (ltb rfl) (X_geq d81 rfl) <| L_nil <| stepEnd rfl rfl (Ext.refl w76) rfl
    · intro s82 w83 e84 hf85 hd86 hu87
      have d88 : s82 23 = (.bool (decide (16 ≤ a1))) := (hd86 1 rfl)
      exact L_op (.plain rfl) rfl (ltb rfl) (X_mkiface Tryz.underlying4 rfl d88) <| L_nil <| stepEnd rfl rfl (Ext.refl w83) rfl
    · intro s89 w90 e91 hf92 hd93 hu94
      exact L_op (.plain rfl) rfl (ltb rfl) (X_mkiface Tryz.underlying3 rfl rfl) <| L_nil <| stepEnd rfl rfl (Ext.refl w90) rfl
    · intro s95 w96 e97 hf98 hd99 hu100
      exact L_op (.plain rfl) rfl (ltb rfl) (X_mkiface Tryz.underlying4 rfl rfl) <| L_nil <| stepEnd rfl rfl (Ext.refl w96) rfl
    · intro s101 w102 e103 hf104 hd105 hu106
      exact L_op (.plain rfl) rfl (ltb rfl) (X_loadS Tryz.isAgg78 Tryz.sizeOf78 rfl ((hf104 5 rfl).trans (K29 5 rfl)) (Blk.at0 (Blk.ext k12 (Ext.trans (Ext.trans e15 e30) e103)))) <| L_nil <| stepEnd rfl rfl (Ext.refl w102) rfl
    · intro s107 w108 e109 hf110 hd111 hu112
      have d113 : s107 27 = (.agg #[(.int .i64 ((gt a0 a1).kind)), (S ((gt a0 a1).path)), (S ((gt a0 a1).body)), (.int .i64 ((gt a0 a1).mode)), (.bool ((gt a0 a1).opq))]) := (hd111 5 rfl)
      exact L_callP (.plain rfl) rfl (ltb rfl) rfl Tryz.call166 (impl_RecordOK.calls (w := w108) (a0 := (gt a0 a1)) (GV.ext gv (Ext.trans (Ext.trans (Ext.trans (Below.trans e8 (Wr.below h11 (Nat.le_of_eq z6))) e15) e30) e109))) (cons2 d113 rfl) <| fun w114 e115 => L_nil <| stepEnd rfl rfl e115 rfl
    · intro s116 w117 e118 hf119 hd120 hu121
      have d122 : s116 28 = (.bool (decide (recFault (gt a0 a1) = 0))) := (hd120 6 rfl)
      exact L_op (.plain rfl) rfl (ltb rfl) (X_not d122) <| L_nil <| stepEnd rfl rfl (Ext.refl w117) rfl
    · intro s123 w124 e125 hf126 hd127 hu128
      have d129 : s123 29 = (.bool (!(decide (recFault (gt a0 a1) = 0)))) := (hd127 7 rfl)
      exact L_op (.plain rfl) rfl (ltb rfl) (X_mkiface Tryz.underlying4 rfl d129) <| L_nil <| stepEnd rfl rfl (Ext.refl w124) rfl
    · intro s130 w131 e132 hf133 hd134 hu135
      exact L_op (.plain rfl) rfl (ltb rfl) (X_loadS Tryz.isAgg78 Tryz.sizeOf78 rfl ((hf133 5 rfl).trans (K29 5 rfl)) (Blk.at0 (Blk.ext k12 (Ext.trans (Ext.trans e15 e30) e132)))) <| L_nil <| stepEnd rfl rfl (Ext.refl w131) rfl
    · intro s136 w137 e138 hf139 hd140 hu141
      have d142 : s136 31 = (.agg #[(.int .i64 ((gt a0 a1).kind)), (S ((gt a0 a1).path)), (S ((gt a0 a1).body)), (.int .i64 ((gt a0 a1).mode)), (.bool ((gt a0 a1).opq))]) := (hd140 9 rfl)
      exact L_callP (.plain rfl) rfl (ltb rfl) rfl Tryz.call200 (impl_RecordFault.calls (w := w137) (a0 := (gt a0 a1)) (GV.ext gv (Ext.trans (Ext.trans (Ext.trans (Below.trans e8 (Wr.below h11 (Nat.le_of_eq z6))) e15) e30) e138))) (cons2 d142 rfl) <| fun w143 e144 => L_nil <| stepEnd rfl rfl e144 rfl
    · intro s145 w146 e147 hf148 hd149 hu150
      have d151 : s145 32 = (.int .i64 (recFault (gt a0 a1))) := (hd149 10 rfl)
      exact L_op (.plain rfl) rfl (ltb rfl) (X_mkiface Tryz.underlying3 rfl d151) <| L_nil <| stepEnd rfl rfl (Ext.refl w146) rfl
    · intro s152 w153 e154 hf155 hd156 hu157
      exact L_op (.plain rfl) rfl (ltb rfl) (X_move (v := (.int .i64 a1)) ((hf155 1 rfl).trans (K29 1 rfl))) <| L_nil <| stepEnd rfl rfl (Ext.refl w153) rfl
    · intro s158 w159 e160 hf161 hd162 hu163
      have d164 : s158 34 = (.int .i64 a1) := (hd162 12 rfl)
      exact L_op (.plain rfl) rfl (ltb rfl) (X_gtr d164 rfl) <| L_nil <| stepEnd rfl rfl (Ext.refl w159) rfl
    · intro s165 w166 e167 hf168 hd169 hu170
      have d171 : s165 35 = (.bool (decide (0 < a1))) := (hd169 13 rfl)
      exact L_op (.plain rfl) rfl (ltb rfl) (X_move (v := (.bool (decide (0 < a1)))) d171) <| L_nil <| stepEnd rfl rfl (Ext.refl w166) rfl
    · intro s172 w173 e174 hf175 hd176 hu177
      rcases bool_two (decide (0 < a1)) with b178 | b178
      · have g179 : (decide (0 < a1)) = true := b178
        have d180 : s172 36 = (.bool (decide (0 < a1))) := (hd176 14 rfl)
        have d181 : s172 36 = (.bool (decide (0 < a1))) := (hd176 14 rfl)
        exact L_op (.guard 14 true 36 rfl rfl (ltb rfl) (d180.trans (congrArg Value.bool g179))) rfl (ltb rfl) (X_move (v := v_a0) ((hf175 0 rfl).trans (K29 0 rfl))) <| L_nil <| stepEnd rfl rfl (Ext.refl w173) ⟨fun _ => rfl, fun h => absurd (b178.symm.trans h) (by decide)⟩
      · have d182 : s172 36 = (.bool (decide (0 < a1))) := (hd176 14 rfl)
        have g183 : (decide (0 < a1)) = false := b178
        exact L_skip rfl rfl (ltb rfl) (d182.trans (congrArg Value.bool g183)) rfl rfl (ltb rfl) <| L_nil <| stepEnd rfl rfl (Ext.refl w173) ⟨fun h => absurd (b178.symm.trans h) (by decide), fun _ => rfl⟩
    · intro s184 w185 e186 hf187 hd188 hu189
      rcases bool_two (decide (0 < a1)) with b190 | b190
      · have g191 : (decide (0 < a1)) = true := b190
        have d192 : s184 36 = (.bool (decide (0 < a1))) := (hd188 14 rfl)
        have d193 : s184 36 = (.bool (decide (0 < a1))) := (hd188 14 rfl)
        exact L_op (.guard 14 true 36 rfl rfl (ltb rfl) (d192.trans (congrArg Value.bool g191))) rfl (ltb rfl) (X_move (v := (.int .i64 a1)) ((hf187 1 rfl).trans (K29 1 rfl))) <| L_nil <| stepEnd rfl rfl (Ext.refl w185) ⟨fun _ => rfl, fun h => absurd (b190.symm.trans h) (by decide)⟩
      · have d194 : s184 36 = (.bool (decide (0 < a1))) := (hd188 14 rfl)
        have g195 : (decide (0 < a1)) = false := b190
        exact L_skip rfl rfl (ltb rfl) (d194.trans (congrArg Value.bool g195)) rfl rfl (ltb rfl) <| L_nil <| stepEnd rfl rfl (Ext.refl w185) ⟨fun h => absurd (b190.symm.trans h) (by decide), fun _ => rfl⟩
    · intro s196 w197 e198 hf199 hd200 hu201
      rcases bool_two (decide (0 < a1)) with b202 | b202
      · have g203 : (decide (0 < a1)) = true := b202
        have d204 : s196 36 = (.bool (decide (0 < a1))) := (hd200 14 rfl)
        have d205 : s196 36 = (.bool (decide (0 < a1))) := (hd200 14 rfl)
        have d206 : s196 38 = (.int .i64 a1) := ((hd200 16 rfl).1 b202)
        exact L_op (.guard 14 true 36 rfl rfl (ltb rfl) (d204.trans (congrArg Value.bool g203))) rfl (ltb rfl) (X_sub d206 rfl) <| L_nil <| stepEnd rfl rfl (Ext.refl w197) ⟨fun _ => rfl, fun h => absurd (b202.symm.trans h) (by decide)⟩
      · have d207 : s196 36 = (.bool (decide (0 < a1))) := (hd200 14 rfl)
        have g208 : (decide (0 < a1)) = false := b202
        exact L_skip rfl rfl (ltb rfl) (d207.trans (congrArg Value.bool g208)) rfl rfl (ltb rfl) <| L_nil <| stepEnd rfl rfl (Ext.refl w197) ⟨fun h => absurd (b202.symm.trans h) (by decide), fun _ => rfl⟩
    · intro s209 w210 e211 hf212 hd213 hu214
      rcases bool_two (decide (0 < a1)) with b215 | b215
      · have g216 : (decide (0 < a1)) = true := b215
        have d217 : s209 36 = (.bool (decide (0 < a1))) := (hd213 14 rfl)
        have d218 : s209 36 = (.bool (decide (0 < a1))) := (hd213 14 rfl)
        have d219 : s209 39 = (.int .i64 (IntKind.wrap .i64 (a1 - 1))) := ((hd213 17 rfl).1 b215)
        exact L_op (.guard 14 true 36 rfl rfl (ltb rfl) (d217.trans (congrArg Value.bool g216))) rfl (ltb rfl) (X_max d219 rfl) <| L_nil <| stepEnd rfl rfl (Ext.refl w210) ⟨fun _ => rfl, fun h => absurd (b215.symm.trans h) (by decide)⟩
      · have d220 : s209 36 = (.bool (decide (0 < a1))) := (hd213 14 rfl)
        have g221 : (decide (0 < a1)) = false := b215
        exact L_skip rfl rfl (ltb rfl) (d220.trans (congrArg Value.bool g221)) rfl rfl (ltb rfl) <| L_nil <| stepEnd rfl rfl (Ext.refl w210) ⟨fun h => absurd (b215.symm.trans h) (by decide), fun _ => rfl⟩
    · intro s222 w223 e224 hf225 hd226 hu227
      rcases bool_two (decide (0 < a1)) with b228 | b228
      · have g229 : (decide (0 < a1)) = true := b228
        have d230 : s222 36 = (.bool (decide (0 < a1))) := (hd226 14 rfl)
        have d231 : s222 36 = (.bool (decide (0 < a1))) := (hd226 14 rfl)
        have d232 : s222 37 = v_a0 := ((hd226 15 rfl).1 b228)
        have d233 : s222 40 = (.int .i64 (impl_faultAt.e3 a1)) := ((hd226 18 rfl).1 b228)
        have c234 := imp_take b228 c40
        exact L_idx (.guard 14 true 36 rfl rfl (ltb rfl) (d230.trans (congrArg Value.bool g229))) rfl (ltb rfl) rfl Tryz.underlying28 Tryz.sizeOf78 d232 (Rd.ext f_a0 (Ext.trans (Ext.trans (Ext.trans (Below.trans e8 (Wr.below h11 (Nat.le_of_eq z6))) e15) e30) e224)) d233 c234 <| fun p235 h236 => L_nil <| stepEnd rfl rfl (Ext.refl w223) ⟨fun _ => ⟨_, rfl, h236⟩, fun h => absurd (b228.symm.trans h) (by decide)⟩
      · have d237 : s222 36 = (.bool (decide (0 < a1))) := (hd226 14 rfl)
        have g238 : (decide (0 < a1)) = false := b228
        exact L_skip rfl rfl (ltb rfl) (d237.trans (congrArg Value.bool g238)) rfl rfl (ltb rfl) <| L_nil <| stepEnd rfl rfl (Ext.refl w223) ⟨fun h => absurd (b228.symm.trans h) (by decide), fun _ => rfl⟩
    · intro s239 w240 e241 hf242 hd243 hu244
      rcases bool_two (decide (0 < a1)) with b245 | b245
      · have g246 : (decide (0 < a1)) = true := b245
        have d247 : s239 36 = (.bool (decide (0 < a1))) := (hd243 14 rfl)
        have d248 : s239 36 = (.bool (decide (0 < a1))) := (hd243 14 rfl)
        obtain ⟨p249, h250, h251⟩ := ((hd243 19 rfl).1 b245)
        exact L_op (.guard 14 true 36 rfl rfl (ltb rfl) (d247.trans (congrArg Value.bool g246))) rfl (ltb rfl) (X_fieldAddr Tryz.underlying78 rfl Tryz.sizeOf9 rfl h250) <| L_nil <| stepEnd rfl rfl (Ext.refl w240) ⟨fun _ => ⟨_, rfl, h251⟩, fun h => absurd (b245.symm.trans h) (by decide)⟩
      · have d252 : s239 36 = (.bool (decide (0 < a1))) := (hd243 14 rfl)
        have g253 : (decide (0 < a1)) = false := b245
        exact L_skip rfl rfl (ltb rfl) (d252.trans (congrArg Value.bool g253)) rfl rfl (ltb rfl) <| L_nil <| stepEnd rfl rfl (Ext.refl w240) ⟨fun h => absurd (b245.symm.trans h) (by decide), fun _ => rfl⟩
    · intro s254 w255 e256 hf257 hd258 hu259
      rcases bool_two (decide (0 < a1)) with b260 | b260
      · have g261 : (decide (0 < a1)) = true := b260
        have d262 : s254 36 = (.bool (decide (0 < a1))) := (hd258 14 rfl)
        have d263 : s254 36 = (.bool (decide (0 < a1))) := (hd258 14 rfl)
        obtain ⟨p264, h265, h266⟩ := ((hd258 20 rfl).1 b260)
        exact L_op (.guard 14 true 36 rfl rfl (ltb rfl) (d262.trans (congrArg Value.bool g261))) rfl (ltb rfl) (X_loadF Tryz.isAgg9 (j := 1) h266 h265 rfl) <| L_nil <| stepEnd rfl rfl (Ext.refl w255) ⟨fun _ => rfl, fun h => absurd (b260.symm.trans h) (by decide)⟩
      · have d267 : s254 36 = (.bool (decide (0 < a1))) := (hd258 14 rfl)
        have g268 : (decide (0 < a1)) = false := b260
        exact L_skip rfl rfl (ltb rfl) (d267.trans (congrArg Value.bool g268)) rfl rfl (ltb rfl) <| L_nil <| stepEnd rfl rfl (Ext.refl w255) ⟨fun h => absurd (b260.symm.trans h) (by decide), fun _ => rfl⟩
    · intro s269 w270 e271 hf272 hd273 hu274
      rcases bool_two (decide (0 < a1)) with b275 | b275
      · have g276 : (decide (0 < a1)) = true := b275
        have d277 : s269 36 = (.bool (decide (0 < a1))) := (hd273 14 rfl)
        have d278 : s269 36 = (.bool (decide (0 < a1))) := (hd273 14 rfl)
        exact L_op (.guard 14 true 36 rfl rfl (ltb rfl) (d277.trans (congrArg Value.bool g276))) rfl (ltb rfl) (X_fieldAddr Tryz.underlying78 rfl Tryz.sizeOf9 rfl ((hf272 5 rfl).trans (K29 5 rfl))) <| L_nil <| stepEnd rfl rfl (Ext.refl w270) ⟨fun _ => rfl, fun h => absurd (b275.symm.trans h) (by decide)⟩
      · have d279 : s269 36 = (.bool (decide (0 < a1))) := (hd273 14 rfl)
        have g280 : (decide (0 < a1)) = false := b275
        exact L_skip rfl rfl (ltb rfl) (d279.trans (congrArg Value.bool g280)) rfl rfl (ltb rfl) <| L_nil <| stepEnd rfl rfl (Ext.refl w270) ⟨fun h => absurd (b275.symm.trans h) (by decide), fun _ => rfl⟩
    · intro s281 w282 e283 hf284 hd285 hu286
      rcases bool_two (decide (0 < a1)) with b287 | b287
      · have g288 : (decide (0 < a1)) = true := b287
        have d289 : s281 36 = (.bool (decide (0 < a1))) := (hd285 14 rfl)
        have d290 : s281 36 = (.bool (decide (0 < a1))) := (hd285 14 rfl)
        have d291 : s281 44 = (.pointer (some ⟨b4, 1, none⟩)) := ((hd285 22 rfl).1 b287)
        exact L_op (.guard 14 true 36 rfl rfl (ltb rfl) (d289.trans (congrArg Value.bool g288))) rfl (ltb rfl) (X_loadB Tryz.isAgg9 (Blk.ext k12 (Ext.trans (Ext.trans e15 e30) e283)) d291 rfl) <| L_nil <| stepEnd rfl rfl (Ext.refl w282) ⟨fun _ => rfl, fun h => absurd (b287.symm.trans h) (by decide)⟩
      · have d292 : s281 36 = (.bool (decide (0 < a1))) := (hd285 14 rfl)
        have g293 : (decide (0 < a1)) = false := b287
        exact L_skip rfl rfl (ltb rfl) (d292.trans (congrArg Value.bool g293)) rfl rfl (ltb rfl) <| L_nil <| stepEnd rfl rfl (Ext.refl w282) ⟨fun h => absurd (b287.symm.trans h) (by decide), fun _ => rfl⟩
    · intro s294 w295 e296 hf297 hd298 hu299
      rcases bool_two (decide (0 < a1)) with b300 | b300
      · have g301 : (decide (0 < a1)) = true := b300
        have d302 : s294 36 = (.bool (decide (0 < a1))) := (hd298 14 rfl)
        have d303 : s294 36 = (.bool (decide (0 < a1))) := (hd298 14 rfl)
        have d304 : s294 43 = (S ((gt a0 (impl_faultAt.e3 a1)).path)) := ((hd298 21 rfl).1 b300)
        have d305 : s294 45 = (S ((gt a0 a1).path)) := ((hd298 23 rfl).1 b300)
        exact L_op (.guard 14 true 36 rfl rfl (ltb rfl) (d302.trans (congrArg Value.bool g301))) rfl (ltb rfl) (X_seq d304 d305) <| L_nil <| stepEnd rfl rfl (Ext.refl w295) ⟨fun _ => rfl, fun h => absurd (b300.symm.trans h) (by decide)⟩
      · have d306 : s294 36 = (.bool (decide (0 < a1))) := (hd298 14 rfl)
        have g307 : (decide (0 < a1)) = false := b300
        exact L_skip rfl rfl (ltb rfl) (d306.trans (congrArg Value.bool g307)) rfl rfl (ltb rfl) <| L_nil <| stepEnd rfl rfl (Ext.refl w295) ⟨fun h => absurd (b300.symm.trans h) (by decide), fun _ => rfl⟩
    · intro s308 w309 e310 hf311 hd312 hu313
      rcases bool_two (decide (0 < a1)) with b314 | b314
      · have d315 : s308 36 = (.bool (decide (0 < a1))) := (hd312 14 rfl)
        have d316 : s308 46 = (.bool (impl_faultAt.e7 a0 a1)) := ((hd312 24 rfl).1 b314)
        exact L_op (.plain rfl) rfl (ltb rfl) (X_pick (b := true) (v := (.bool (impl_faultAt.e7 a0 a1))) (d315.trans (congrArg Value.bool b314)) d316) <| L_nil <| stepEnd rfl rfl (Ext.refl w309) (and_t b314)
      · have d317 : s308 36 = (.bool (decide (0 < a1))) := (hd312 14 rfl)
        exact L_op (.plain rfl) rfl (ltb rfl) (X_pick (b := false) (v := (.bool false)) (d317.trans (congrArg Value.bool b314)) rfl) <| L_nil <| stepEnd rfl rfl (Ext.refl w309) (and_f b314)
    · intro s318 w319 e320 hf321 hd322 hu323
      have d324 : s318 47 = (.bool ((decide (0 < a1)) && (impl_faultAt.e7 a0 a1))) := (hd322 25 rfl)
      exact L_op (.plain rfl) rfl (ltb rfl) (X_mkiface Tryz.underlying4 rfl d324) <| L_nil <| stepEnd rfl rfl (Ext.refl w319) rfl
    · intro s325 w326 e327 hf328 hd329 hu330
      exact L_op (.plain rfl) rfl (ltb rfl) (X_mkiface Tryz.underlying3 rfl rfl) <| L_nil <| stepEnd rfl rfl (Ext.refl w326) rfl
    · intro s331 w332 e333 hf334 hd335 hu336
      exact L_op (.plain rfl) rfl (ltb rfl) (X_move (v := (.int .i64 a1)) ((hf334 1 rfl).trans (K29 1 rfl))) <| L_nil <| stepEnd rfl rfl (Ext.refl w332) rfl
    · intro s337 w338 e339 hf340 hd341 hu342
      have d343 : s337 50 = (.int .i64 a1) := (hd341 28 rfl)
      exact L_op (.plain rfl) rfl (ltb rfl) (X_gtr d343 rfl) <| L_nil <| stepEnd rfl rfl (Ext.refl w338) rfl
    · intro s344 w345 e346 hf347 hd348 hu349
      have d350 : s344 51 = (.bool (decide (0 < a1))) := (hd348 29 rfl)
      exact L_op (.plain rfl) rfl (ltb rfl) (X_move (v := (.bool (decide (0 < a1)))) d350) <| L_nil <| stepEnd rfl rfl (Ext.refl w345) rfl
    · intro s351 w352 e353 hf354 hd355 hu356
      rcases bool_two (decide (0 < a1)) with b357 | b357
      · have g358 : (decide (0 < a1)) = true := b357
        have d359 : s351 52 = (.bool (decide (0 < a1))) := (hd355 30 rfl)
        have d360 : s351 52 = (.bool (decide (0 < a1))) := (hd355 30 rfl)
        exact L_op (.guard 30 true 52 rfl rfl (ltb rfl) (d359.trans (congrArg Value.bool g358))) rfl (ltb rfl) (X_move (v := v_a0) ((hf354 0 rfl).trans (K29 0 rfl))) <| L_nil <| stepEnd rfl rfl (Ext.refl w352) ⟨fun _ => rfl, fun h => absurd (b357.symm.trans h) (by decide)⟩
      · have d361 : s351 52 = (.bool (decide (0 < a1))) := (hd355 30 rfl)
        have g362 : (decide (0 < a1)) = false := b357
        exact L_skip rfl rfl (ltb rfl) (d361.trans (congrArg Value.bool g362)) rfl rfl (ltb rfl) <| L_nil <| stepEnd rfl rfl (Ext.refl w352) ⟨fun h => absurd (b357.symm.trans h) (by decide), fun _ => rfl⟩
    · intro s363 w364 e365 hf366 hd367 hu368
      rcases bool_two (decide (0 < a1)) with b369 | b369
      · have g370 : (decide (0 < a1)) = true := b369
        have d371 : s363 52 = (.bool (decide (0 < a1))) := (hd367 30 rfl)
        have d372 : s363 52 = (.bool (decide (0 < a1))) := (hd367 30 rfl)
        exact L_op (.guard 30 true 52 rfl rfl (ltb rfl) (d371.trans (congrArg Value.bool g370))) rfl (ltb rfl) (X_move (v := (.int .i64 a1)) ((hf366 1 rfl).trans (K29 1 rfl))) <| L_nil <| stepEnd rfl rfl (Ext.refl w364) ⟨fun _ => rfl, fun h => absurd (b369.symm.trans h) (by decide)⟩
      · have d373 : s363 52 = (.bool (decide (0 < a1))) := (hd367 30 rfl)
        have g374 : (decide (0 < a1)) = false := b369
        exact L_skip rfl rfl (ltb rfl) (d373.trans (congrArg Value.bool g374)) rfl rfl (ltb rfl) <| L_nil <| stepEnd rfl rfl (Ext.refl w364) ⟨fun h => absurd (b369.symm.trans h) (by decide), fun _ => rfl⟩
    · intro s375 w376 e377 hf378 hd379 hu380
      rcases bool_two (decide (0 < a1)) with b381 | b381
      · have g382 : (decide (0 < a1)) = true := b381
        have d383 : s375 52 = (.bool (decide (0 < a1))) := (hd379 30 rfl)
        have d384 : s375 52 = (.bool (decide (0 < a1))) := (hd379 30 rfl)
        have d385 : s375 54 = (.int .i64 a1) := ((hd379 32 rfl).1 b381)
        exact L_op (.guard 30 true 52 rfl rfl (ltb rfl) (d383.trans (congrArg Value.bool g382))) rfl (ltb rfl) (X_sub d385 rfl) <| L_nil <| stepEnd rfl rfl (Ext.refl w376) ⟨fun _ => rfl, fun h => absurd (b381.symm.trans h) (by decide)⟩
      · have d386 : s375 52 = (.bool (decide (0 < a1))) := (hd379 30 rfl)
        have g387 : (decide (0 < a1)) = false := b381
        exact L_skip rfl rfl (ltb rfl) (d386.trans (congrArg Value.bool g387)) rfl rfl (ltb rfl) <| L_nil <| stepEnd rfl rfl (Ext.refl w376) ⟨fun h => absurd (b381.symm.trans h) (by decide), fun _ => rfl⟩
    · intro s388 w389 e390 hf391 hd392 hu393
      rcases bool_two (decide (0 < a1)) with b394 | b394
      · have g395 : (decide (0 < a1)) = true := b394
        have d396 : s388 52 = (.bool (decide (0 < a1))) := (hd392 30 rfl)
        have d397 : s388 52 = (.bool (decide (0 < a1))) := (hd392 30 rfl)
        have d398 : s388 55 = (.int .i64 (IntKind.wrap .i64 (a1 - 1))) := ((hd392 33 rfl).1 b394)
        exact L_op (.guard 30 true 52 rfl rfl (ltb rfl) (d396.trans (congrArg Value.bool g395))) rfl (ltb rfl) (X_max d398 rfl) <| L_nil <| stepEnd rfl rfl (Ext.refl w389) ⟨fun _ => rfl, fun h => absurd (b394.symm.trans h) (by decide)⟩
      · have d399 : s388 52 = (.bool (decide (0 < a1))) := (hd392 30 rfl)
        have g400 : (decide (0 < a1)) = false := b394
        exact L_skip rfl rfl (ltb rfl) (d399.trans (congrArg Value.bool g400)) rfl rfl (ltb rfl) <| L_nil <| stepEnd rfl rfl (Ext.refl w389) ⟨fun h => absurd (b394.symm.trans h) (by decide), fun _ => rfl⟩
    · intro s401 w402 e403 hf404 hd405 hu406
      rcases bool_two (decide (0 < a1)) with b407 | b407
      · have g408 : (decide (0 < a1)) = true := b407
        have d409 : s401 52 = (.bool (decide (0 < a1))) := (hd405 30 rfl)
        have d410 : s401 52 = (.bool (decide (0 < a1))) := (hd405 30 rfl)
        have d411 : s401 53 = v_a0 := ((hd405 31 rfl).1 b407)
        have d412 : s401 56 = (.int .i64 (impl_faultAt.e3 a1)) := ((hd405 34 rfl).1 b407)
        have c413 := imp_take b407 c40
        exact L_idx (.guard 30 true 52 rfl rfl (ltb rfl) (d409.trans (congrArg Value.bool g408))) rfl (ltb rfl) rfl Tryz.underlying28 Tryz.sizeOf78 d411 (Rd.ext f_a0 (Ext.trans (Ext.trans (Ext.trans (Below.trans e8 (Wr.below h11 (Nat.le_of_eq z6))) e15) e30) e403)) d412 c413 <| fun p414 h415 => L_nil <| stepEnd rfl rfl (Ext.refl w402) ⟨fun _ => ⟨_, rfl, h415⟩, fun h => absurd (b407.symm.trans h) (by decide)⟩
      · have d416 : s401 52 = (.bool (decide (0 < a1))) := (hd405 30 rfl)
        have g417 : (decide (0 < a1)) = false := b407
        exact L_skip rfl rfl (ltb rfl) (d416.trans (congrArg Value.bool g417)) rfl rfl (ltb rfl) <| L_nil <| stepEnd rfl rfl (Ext.refl w402) ⟨fun h => absurd (b407.symm.trans h) (by decide), fun _ => rfl⟩
    · intro s418 w419 e420 hf421 hd422 hu423
      rcases bool_two (decide (0 < a1)) with b424 | b424
      · have g425 : (decide (0 < a1)) = true := b424
        have d426 : s418 52 = (.bool (decide (0 < a1))) := (hd422 30 rfl)
        have d427 : s418 52 = (.bool (decide (0 < a1))) := (hd422 30 rfl)
        obtain ⟨p428, h429, h430⟩ := ((hd422 35 rfl).1 b424)
        exact L_op (.guard 30 true 52 rfl rfl (ltb rfl) (d426.trans (congrArg Value.bool g425))) rfl (ltb rfl) (X_fieldAddr Tryz.underlying78 rfl Tryz.sizeOf9 rfl h429) <| L_nil <| stepEnd rfl rfl (Ext.refl w419) ⟨fun _ => ⟨_, rfl, h430⟩, fun h => absurd (b424.symm.trans h) (by decide)⟩
      · have d431 : s418 52 = (.bool (decide (0 < a1))) := (hd422 30 rfl)
        have g432 : (decide (0 < a1)) = false := b424
        exact L_skip rfl rfl (ltb rfl) (d431.trans (congrArg Value.bool g432)) rfl rfl (ltb rfl) <| L_nil <| stepEnd rfl rfl (Ext.refl w419) ⟨fun h => absurd (b424.symm.trans h) (by decide), fun _ => rfl⟩
    · intro s433 w434 e435 hf436 hd437 hu438
      rcases bool_two (decide (0 < a1)) with b439 | b439
      · have g440 : (decide (0 < a1)) = true := b439
        have d441 : s433 52 = (.bool (decide (0 < a1))) := (hd437 30 rfl)
        have d442 : s433 52 = (.bool (decide (0 < a1))) := (hd437 30 rfl)
        obtain ⟨p443, h444, h445⟩ := ((hd437 36 rfl).1 b439)
        exact L_op (.guard 30 true 52 rfl rfl (ltb rfl) (d441.trans (congrArg Value.bool g440))) rfl (ltb rfl) (X_loadF Tryz.isAgg9 (j := 1) h445 h444 rfl) <| L_nil <| stepEnd rfl rfl (Ext.refl w434) ⟨fun _ => rfl, fun h => absurd (b439.symm.trans h) (by decide)⟩
      · have d446 : s433 52 = (.bool (decide (0 < a1))) := (hd437 30 rfl)
        have g447 : (decide (0 < a1)) = false := b439
        exact L_skip rfl rfl (ltb rfl) (d446.trans (congrArg Value.bool g447)) rfl rfl (ltb rfl) <| L_nil <| stepEnd rfl rfl (Ext.refl w434) ⟨fun h => absurd (b439.symm.trans h) (by decide), fun _ => rfl⟩
    · intro s448 w449 e450 hf451 hd452 hu453
      rcases bool_two (decide (0 < a1)) with b454 | b454
      · have g455 : (decide (0 < a1)) = true := b454
        have d456 : s448 52 = (.bool (decide (0 < a1))) := (hd452 30 rfl)
        have d457 : s448 52 = (.bool (decide (0 < a1))) := (hd452 30 rfl)
        exact L_op (.guard 30 true 52 rfl rfl (ltb rfl) (d456.trans (congrArg Value.bool g455))) rfl (ltb rfl) (X_fieldAddr Tryz.underlying78 rfl Tryz.sizeOf9 rfl ((hf451 5 rfl).trans (K29 5 rfl))) <| L_nil <| stepEnd rfl rfl (Ext.refl w449) ⟨fun _ => rfl, fun h => absurd (b454.symm.trans h) (by decide)⟩
      · have d458 : s448 52 = (.bool (decide (0 < a1))) := (hd452 30 rfl)
        have g459 : (decide (0 < a1)) = false := b454
        exact L_skip rfl rfl (ltb rfl) (d458.trans (congrArg Value.bool g459)) rfl rfl (ltb rfl) <| L_nil <| stepEnd rfl rfl (Ext.refl w449) ⟨fun h => absurd (b454.symm.trans h) (by decide), fun _ => rfl⟩
    · intro s460 w461 e462 hf463 hd464 hu465
      rcases bool_two (decide (0 < a1)) with b466 | b466
      · have g467 : (decide (0 < a1)) = true := b466
        have d468 : s460 52 = (.bool (decide (0 < a1))) := (hd464 30 rfl)
        have d469 : s460 52 = (.bool (decide (0 < a1))) := (hd464 30 rfl)
        have d470 : s460 60 = (.pointer (some ⟨b4, 1, none⟩)) := ((hd464 38 rfl).1 b466)
        exact L_op (.guard 30 true 52 rfl rfl (ltb rfl) (d468.trans (congrArg Value.bool g467))) rfl (ltb rfl) (X_loadB Tryz.isAgg9 (Blk.ext k12 (Ext.trans (Ext.trans e15 e30) e462)) d470 rfl) <| L_nil <| stepEnd rfl rfl (Ext.refl w461) ⟨fun _ => rfl, fun h => absurd (b466.symm.trans h) (by decide)⟩
      · have d471 : s460 52 = (.bool (decide (0 < a1))) := (hd464 30 rfl)
        have g472 : (decide (0 < a1)) = false := b466
        exact L_skip rfl rfl (ltb rfl) (d471.trans (congrArg Value.bool g472)) rfl rfl (ltb rfl) <| L_nil <| stepEnd rfl rfl (Ext.refl w461) ⟨fun h => absurd (b466.symm.trans h) (by decide), fun _ => rfl⟩
    · intro s473 w474 e475 hf476 hd477 hu478
      rcases bool_two (decide (0 < a1)) with b479 | b479
      · have g480 : (decide (0 < a1)) = true := b479
        have d481 : s473 52 = (.bool (decide (0 < a1))) := (hd477 30 rfl)
        have d482 : s473 52 = (.bool (decide (0 < a1))) := (hd477 30 rfl)
        have d483 : s473 59 = (S ((gt a0 (impl_faultAt.e3 a1)).path)) := ((hd477 37 rfl).1 b479)
        have d484 : s473 61 = (S ((gt a0 a1).path)) := ((hd477 39 rfl).1 b479)
        exact L_callP (.guard 30 true 52 rfl rfl (ltb rfl) (d481.trans (congrArg Value.bool g480))) rfl (ltb rfl) rfl Tryz.call118 (impl_PathLess.calls (w := w474) (a0 := (gt a0 (impl_faultAt.e3 a1)).path) (a1 := (gt a0 a1).path) (GV.ext gv (Ext.trans (Ext.trans (Ext.trans (Below.trans e8 (Wr.below h11 (Nat.le_of_eq z6))) e15) e30) e475))) (cons2 d483 (cons2 d484 rfl)) <| fun w485 e486 => L_nil <| stepEnd rfl rfl e486 ⟨fun _ => rfl, fun h => absurd (b479.symm.trans h) (by decide)⟩
      · have d487 : s473 52 = (.bool (decide (0 < a1))) := (hd477 30 rfl)
        have g488 : (decide (0 < a1)) = false := b479
        exact L_skip rfl rfl (ltb rfl) (d487.trans (congrArg Value.bool g488)) rfl rfl (ltb rfl) <| L_nil <| stepEnd rfl rfl (Ext.refl w474) ⟨fun h => absurd (b479.symm.trans h) (by decide), fun _ => rfl⟩
    · intro s489 w490 e491 hf492 hd493 hu494
      rcases bool_two (decide (0 < a1)) with b495 | b495
      · have g496 : (decide (0 < a1)) = true := b495
        have d497 : s489 52 = (.bool (decide (0 < a1))) := (hd493 30 rfl)
        have d498 : s489 52 = (.bool (decide (0 < a1))) := (hd493 30 rfl)
        have d499 : s489 62 = (.bool (impl_faultAt.e5 a0 a1)) := ((hd493 40 rfl).1 b495)
        exact L_op (.guard 30 true 52 rfl rfl (ltb rfl) (d497.trans (congrArg Value.bool g496))) rfl (ltb rfl) (X_not d499) <| L_nil <| stepEnd rfl rfl (Ext.refl w490) ⟨fun _ => rfl, fun h => absurd (b495.symm.trans h) (by decide)⟩
      · have d500 : s489 52 = (.bool (decide (0 < a1))) := (hd493 30 rfl)
        have g501 : (decide (0 < a1)) = false := b495
        exact L_skip rfl rfl (ltb rfl) (d500.trans (congrArg Value.bool g501)) rfl rfl (ltb rfl) <| L_nil <| stepEnd rfl rfl (Ext.refl w490) ⟨fun h => absurd (b495.symm.trans h) (by decide), fun _ => rfl⟩
    · intro s502 w503 e504 hf505 hd506 hu507
      rcases bool_two (decide (0 < a1)) with b508 | b508
      · have d509 : s502 52 = (.bool (decide (0 < a1))) := (hd506 30 rfl)
        have d510 : s502 63 = (.bool (!(impl_faultAt.e5 a0 a1))) := ((hd506 41 rfl).1 b508)
        exact L_op (.plain rfl) rfl (ltb rfl) (X_pick (b := true) (v := (.bool (!(impl_faultAt.e5 a0 a1)))) (d509.trans (congrArg Value.bool b508)) d510) <| L_nil <| stepEnd rfl rfl (Ext.refl w503) (and_t b508)
      · have d511 : s502 52 = (.bool (decide (0 < a1))) := (hd506 30 rfl)
        exact L_op (.plain rfl) rfl (ltb rfl) (X_pick (b := false) (v := (.bool false)) (d511.trans (congrArg Value.bool b508)) rfl) <| L_nil <| stepEnd rfl rfl (Ext.refl w503) (and_f b508)
    · intro s512 w513 e514 hf515 hd516 hu517
      have d518 : s512 64 = (.bool ((decide (0 < a1)) && (!(impl_faultAt.e5 a0 a1)))) := (hd516 42 rfl)
      exact L_op (.plain rfl) rfl (ltb rfl) (X_mkiface Tryz.underlying4 rfl d518) <| L_nil <| stepEnd rfl rfl (Ext.refl w513) rfl
    · intro s519 w520 e521 hf522 hd523 hu524
      exact L_op (.plain rfl) rfl (ltb rfl) (X_mkiface Tryz.underlying3 rfl rfl) <| L_nil <| stepEnd rfl rfl (Ext.refl w520) rfl
    · intro s525 w526 e527 hf528 hd529 hu530
      exact L_op (.plain rfl) rfl (ltb rfl) (X_move (v := (.int .i64 x6_19)) ((hf528 6 rfl).trans h32)) <| L_nil <| stepEnd rfl rfl (Ext.refl w526) rfl
    · intro s531 w532 e533 hf534 hd535 hu536
      have d537 : s531 67 = (.int .i64 x6_19) := (hd535 45 rfl)
      exact L_op (.plain rfl) rfl (ltb rfl) (X_lss d537 rfl) <| L_nil <| stepEnd rfl rfl (Ext.refl w532) rfl
    · intro s538 w539 e540 hf541 hd542 hu543
      have d544 : s538 68 = (.bool (decide (x6_19 < 0))) := (hd542 46 rfl)
      exact L_op (.plain rfl) rfl (ltb rfl) (X_mkiface Tryz.underlying4 rfl d544) <| L_nil <| stepEnd rfl rfl (Ext.refl w539) rfl
    · intro s545 w546 e547 hf548 hd549 hu550
      exact L_op (.plain rfl) rfl (ltb rfl) (X_mkiface Tryz.underlying3 rfl rfl) <| L_nil <| stepEnd rfl rfl (Ext.refl w546) rfl
    · intro s551 w552 e553 hf554 hd555 hu556
      exact L_op (.plain rfl) rfl (ltb rfl) (X_fieldAddr Tryz.underlying78 rfl Tryz.sizeOf9 rfl ((hf554 5 rfl).trans (K29 5 rfl))) <| L_nil <| stepEnd rfl rfl (Ext.refl w552) rfl
    · intro s557 w558 e559 hf560 hd561 hu562
      have d563 : s557 71 = (.pointer (some ⟨b4, 1, none⟩)) := (hd561 49 rfl)
      exact L_op (.plain rfl) rfl (ltb rfl) (X_loadB Tryz.isAgg9 (Blk.ext k12 (Ext.trans (Ext.trans e15 e30) e559)) d563 rfl) <| L_nil <| stepEnd rfl rfl (Ext.refl w558) rfl
    · intro s564 w565 e566 hf567 hd568 hu569
      have d570 : s564 72 = (S ((gt a0 a1).path)) := (hd568 50 rfl)
      have c571 := c45
      exact L_callP (.plain rfl) rfl (ltb rfl) rfl Tryz.call120 (impl_parent.calls (w := w565) (a0 := (gt a0 a1).path) (of_decide_eq_true c571)) (cons2 d570 rfl) <| fun w572 e573 => L_nil <| stepEnd rfl rfl e573 rfl
    · intro s574 w575 e576 hf577 hd578 hu579
      have d580 : s574 73 = (S (parentP ((gt a0 a1).path))) := (hd578 51 rfl)
      exact L_op (.plain rfl) rfl (ltb rfl) (X_sne d580 rfl) <| L_nil <| stepEnd rfl rfl (Ext.refl w575) rfl
    · intro s581 w582 e583 hf584 hd585 hu586
      have d587 : s581 74 = (.bool (impl_faultAt.e2 a0 a1)) := (hd585 52 rfl)
      exact L_op (.plain rfl) rfl (ltb rfl) (X_move (v := (.bool (impl_faultAt.e2 a0 a1))) d587) <| L_nil <| stepEnd rfl rfl (Ext.refl w582) rfl
    · intro s588 w589 e590 hf591 hd592 hu593
      rcases bool_two (impl_faultAt.e2 a0 a1) with b594 | b594
      · have g595 : (impl_faultAt.e2 a0 a1) = true := b594
        have d596 : s588 75 = (.bool (impl_faultAt.e2 a0 a1)) := (hd592 53 rfl)
        have d597 : s588 75 = (.bool (impl_faultAt.e2 a0 a1)) := (hd592 53 rfl)
        exact L_op (.guard 53 true 75 rfl rfl (ltb rfl) (d596.trans (congrArg Value.bool g595))) rfl (ltb rfl) (X_move (v := v_a0) ((hf591 0 rfl).trans (K29 0 rfl))) <| L_nil <| stepEnd rfl rfl (Ext.refl w589) ⟨fun _ => rfl, fun h => absurd (b594.symm.trans h) (by decide)⟩
      · have d598 : s588 75 = (.bool (impl_faultAt.e2 a0 a1)) := (hd592 53 rfl)
        have g599 : (impl_faultAt.e2 a0 a1) = false := b594
        exact L_skip rfl rfl (ltb rfl) (d598.trans (congrArg Value.bool g599)) rfl rfl (ltb rfl) <| L_nil <| stepEnd rfl rfl (Ext.refl w589) ⟨fun h => absurd (b594.symm.trans h) (by decide), fun _ => rfl⟩
    · intro s600 w601 e602 hf603 hd604 hu605
      rcases bool_two (impl_faultAt.e2 a0 a1) with b606 | b606
      · have g607 : (impl_faultAt.e2 a0 a1) = true := b606
        have d608 : s600 75 = (.bool (impl_faultAt.e2 a0 a1)) := (hd604 53 rfl)
        have d609 : s600 75 = (.bool (impl_faultAt.e2 a0 a1)) := (hd604 53 rfl)
        exact L_op (.guard 53 true 75 rfl rfl (ltb rfl) (d608.trans (congrArg Value.bool g607))) rfl (ltb rfl) (X_move (v := (.int .i64 x6_19)) ((hf603 6 rfl).trans h32)) <| L_nil <| stepEnd rfl rfl (Ext.refl w601) ⟨fun _ => rfl, fun h => absurd (b606.symm.trans h) (by decide)⟩
      · have d610 : s600 75 = (.bool (impl_faultAt.e2 a0 a1)) := (hd604 53 rfl)
        have g611 : (impl_faultAt.e2 a0 a1) = false := b606
        exact L_skip rfl rfl (ltb rfl) (d610.trans (congrArg Value.bool g611)) rfl rfl (ltb rfl) <| L_nil <| stepEnd rfl rfl (Ext.refl w601) ⟨fun h => absurd (b606.symm.trans h) (by decide), fun _ => rfl⟩
    · intro s612 w613 e614 hf615 hd616 hu617
      rcases bool_two (impl_faultAt.e2 a0 a1) with b618 | b618
      · have g619 : (impl_faultAt.e2 a0 a1) = true := b618
        have d620 : s612 75 = (.bool (impl_faultAt.e2 a0 a1)) := (hd616 53 rfl)
        have d621 : s612 75 = (.bool (impl_faultAt.e2 a0 a1)) := (hd616 53 rfl)
        have d622 : s612 77 = (.int .i64 x6_19) := ((hd616 55 rfl).1 b618)
        exact L_op (.guard 53 true 75 rfl rfl (ltb rfl) (d620.trans (congrArg Value.bool g619))) rfl (ltb rfl) (X_max d622 rfl) <| L_nil <| stepEnd rfl rfl (Ext.refl w613) ⟨fun _ => rfl, fun h => absurd (b618.symm.trans h) (by decide)⟩
      · have d623 : s612 75 = (.bool (impl_faultAt.e2 a0 a1)) := (hd616 53 rfl)
        have g624 : (impl_faultAt.e2 a0 a1) = false := b618
        exact L_skip rfl rfl (ltb rfl) (d623.trans (congrArg Value.bool g624)) rfl rfl (ltb rfl) <| L_nil <| stepEnd rfl rfl (Ext.refl w613) ⟨fun h => absurd (b618.symm.trans h) (by decide), fun _ => rfl⟩
    · intro s625 w626 e627 hf628 hd629 hu630
      rcases bool_two (impl_faultAt.e2 a0 a1) with b631 | b631
      · have g632 : (impl_faultAt.e2 a0 a1) = true := b631
        have d633 : s625 75 = (.bool (impl_faultAt.e2 a0 a1)) := (hd629 53 rfl)
        have d634 : s625 75 = (.bool (impl_faultAt.e2 a0 a1)) := (hd629 53 rfl)
        have d635 : s625 76 = v_a0 := ((hd629 54 rfl).1 b631)
        have d636 : s625 78 = (.int .i64 (if (x6_19 < 0 : Prop) then 0 else x6_19)) := ((hd629 56 rfl).1 b631)
        have c637 := imp_take b631 c48
        exact L_idx (.guard 53 true 75 rfl rfl (ltb rfl) (d633.trans (congrArg Value.bool g632))) rfl (ltb rfl) rfl Tryz.underlying28 Tryz.sizeOf78 d635 (Rd.ext f_a0 (Ext.trans (Ext.trans (Ext.trans (Below.trans e8 (Wr.below h11 (Nat.le_of_eq z6))) e15) e30) e627)) d636 c637 <| fun p638 h639 => L_nil <| stepEnd rfl rfl (Ext.refl w626) ⟨fun _ => ⟨_, rfl, h639⟩, fun h => absurd (b631.symm.trans h) (by decide)⟩
      · have d640 : s625 75 = (.bool (impl_faultAt.e2 a0 a1)) := (hd629 53 rfl)
        have g641 : (impl_faultAt.e2 a0 a1) = false := b631
        exact L_skip rfl rfl (ltb rfl) (d640.trans (congrArg Value.bool g641)) rfl rfl (ltb rfl) <| L_nil <| stepEnd rfl rfl (Ext.refl w626) ⟨fun h => absurd (b631.symm.trans h) (by decide), fun _ => rfl⟩
    · intro s642 w643 e644 hf645 hd646 hu647
      rcases bool_two (impl_faultAt.e2 a0 a1) with b648 | b648
      · have g649 : (impl_faultAt.e2 a0 a1) = true := b648
        have d650 : s642 75 = (.bool (impl_faultAt.e2 a0 a1)) := (hd646 53 rfl)
        have d651 : s642 75 = (.bool (impl_faultAt.e2 a0 a1)) := (hd646 53 rfl)
        obtain ⟨p652, h653, h654⟩ := ((hd646 57 rfl).1 b648)
        exact L_op (.guard 53 true 75 rfl rfl (ltb rfl) (d650.trans (congrArg Value.bool g649))) rfl (ltb rfl) (X_fieldAddr Tryz.underlying78 rfl Tryz.sizeOf3 rfl h653) <| L_nil <| stepEnd rfl rfl (Ext.refl w643) ⟨fun _ => ⟨_, rfl, h654⟩, fun h => absurd (b648.symm.trans h) (by decide)⟩
      · have d655 : s642 75 = (.bool (impl_faultAt.e2 a0 a1)) := (hd646 53 rfl)
        have g656 : (impl_faultAt.e2 a0 a1) = false := b648
        exact L_skip rfl rfl (ltb rfl) (d655.trans (congrArg Value.bool g656)) rfl rfl (ltb rfl) <| L_nil <| stepEnd rfl rfl (Ext.refl w643) ⟨fun h => absurd (b648.symm.trans h) (by decide), fun _ => rfl⟩
    · intro s657 w658 e659 hf660 hd661 hu662
      rcases bool_two (impl_faultAt.e2 a0 a1) with b663 | b663
      · have g664 : (impl_faultAt.e2 a0 a1) = true := b663
        have d665 : s657 75 = (.bool (impl_faultAt.e2 a0 a1)) := (hd661 53 rfl)
        have d666 : s657 75 = (.bool (impl_faultAt.e2 a0 a1)) := (hd661 53 rfl)
        obtain ⟨p667, h668, h669⟩ := ((hd661 58 rfl).1 b663)
        exact L_op (.guard 53 true 75 rfl rfl (ltb rfl) (d665.trans (congrArg Value.bool g664))) rfl (ltb rfl) (X_loadF Tryz.isAgg3 (j := 0) h669 h668 rfl) <| L_nil <| stepEnd rfl rfl (Ext.refl w658) ⟨fun _ => rfl, fun h => absurd (b663.symm.trans h) (by decide)⟩
      · have d670 : s657 75 = (.bool (impl_faultAt.e2 a0 a1)) := (hd661 53 rfl)
        have g671 : (impl_faultAt.e2 a0 a1) = false := b663
        exact L_skip rfl rfl (ltb rfl) (d670.trans (congrArg Value.bool g671)) rfl rfl (ltb rfl) <| L_nil <| stepEnd rfl rfl (Ext.refl w658) ⟨fun h => absurd (b663.symm.trans h) (by decide), fun _ => rfl⟩
    · intro s672 w673 e674 hf675 hd676 hu677
      rcases bool_two (impl_faultAt.e2 a0 a1) with b678 | b678
      · have g679 : (impl_faultAt.e2 a0 a1) = true := b678
        have d680 : s672 75 = (.bool (impl_faultAt.e2 a0 a1)) := (hd676 53 rfl)
        have d681 : s672 75 = (.bool (impl_faultAt.e2 a0 a1)) := (hd676 53 rfl)
        have d682 : s672 81 = (.int .i64 ((gt a0 (if (x6_19 < 0 : Prop) then 0 else x6_19)).kind)) := ((hd676 59 rfl).1 b678)
        exact L_op (.guard 53 true 75 rfl rfl (ltb rfl) (d680.trans (congrArg Value.bool g679))) rfl (ltb rfl) (X_neq d682 rfl) <| L_nil <| stepEnd rfl rfl (Ext.refl w673) ⟨fun _ => rfl, fun h => absurd (b678.symm.trans h) (by decide)⟩
      · have d683 : s672 75 = (.bool (impl_faultAt.e2 a0 a1)) := (hd676 53 rfl)
        have g684 : (impl_faultAt.e2 a0 a1) = false := b678
        exact L_skip rfl rfl (ltb rfl) (d683.trans (congrArg Value.bool g684)) rfl rfl (ltb rfl) <| L_nil <| stepEnd rfl rfl (Ext.refl w673) ⟨fun h => absurd (b678.symm.trans h) (by decide), fun _ => rfl⟩
    · intro s685 w686 e687 hf688 hd689 hu690
      rcases bool_two (impl_faultAt.e2 a0 a1) with b691 | b691
      · have d692 : s685 75 = (.bool (impl_faultAt.e2 a0 a1)) := (hd689 53 rfl)
        have d693 : s685 82 = (.bool (impl_faultAt.e6 a0 x6_19)) := ((hd689 60 rfl).1 b691)
        exact L_op (.plain rfl) rfl (ltb rfl) (X_pick (b := true) (v := (.bool (impl_faultAt.e6 a0 x6_19))) (d692.trans (congrArg Value.bool b691)) d693) <| L_nil <| stepEnd rfl rfl (Ext.refl w686) (and_t b691)
      · have d694 : s685 75 = (.bool (impl_faultAt.e2 a0 a1)) := (hd689 53 rfl)
        exact L_op (.plain rfl) rfl (ltb rfl) (X_pick (b := false) (v := (.bool false)) (d694.trans (congrArg Value.bool b691)) rfl) <| L_nil <| stepEnd rfl rfl (Ext.refl w686) (and_f b691)
    · intro s695 w696 e697 hf698 hd699 hu700
      have d701 : s695 83 = (.bool ((impl_faultAt.e2 a0 a1) && (impl_faultAt.e6 a0 x6_19))) := (hd699 61 rfl)
      exact L_op (.plain rfl) rfl (ltb rfl) (X_mkiface Tryz.underlying4 rfl d701) <| L_nil <| stepEnd rfl rfl (Ext.refl w696) rfl
    · intro s702 w703 e704 hf705 hd706 hu707
      exact L_op (.plain rfl) rfl (ltb rfl) (X_mkiface Tryz.underlying3 rfl rfl) <| L_nil <| stepEnd rfl rfl (Ext.refl w703) rfl
    · intro s708 w709 e710 hf711 hd712 hu713
      have d714 : s708 30 = (.iface 4 (.bool (!(decide (recFault (gt a0 a1) = 0))))) := (hd712 8 rfl)
      have d715 : s708 33 = (.iface 3 (.int .i64 (recFault (gt a0 a1)))) := (hd712 11 rfl)
      have d716 : s708 48 = (.iface 4 (.bool ((decide (0 < a1)) && (impl_faultAt.e7 a0 a1)))) := (hd712 26 rfl)
      have d717 : s708 49 = (.iface 3 (.int .i64 18)) := (hd712 27 rfl)
      have d718 : s708 65 = (.iface 4 (.bool ((decide (0 < a1)) && (!(impl_faultAt.e5 a0 a1))))) := (hd712 43 rfl)
      have d719 : s708 66 = (.iface 3 (.int .i64 11)) := (hd712 44 rfl)
      have d720 : s708 69 = (.iface 4 (.bool (decide (x6_19 < 0)))) := (hd712 47 rfl)
      have d721 : s708 70 = (.iface 3 (.int .i64 12)) := (hd712 48 rfl)
      have d722 : s708 84 = (.iface 4 (.bool ((impl_faultAt.e2 a0 a1) && (impl_faultAt.e6 a0 x6_19)))) := (hd712 62 rfl)
      have d723 : s708 85 = (.iface 3 (.int .i64 13)) := (hd712 63 rfl)
      exact L_lit (.plain rfl) rfl (ltb rfl) rfl Tryz.underlying119 Tryz.sizeOf20 Tryz.zeroValue20 rfl rfl rfl (vs := [(.iface 4 (.bool (!(decide (recFault (gt a0 a1) = 0))))), (.iface 3 (.int .i64 (recFault (gt a0 a1)))), (.iface 4 (.bool ((decide (0 < a1)) && (impl_faultAt.e7 a0 a1)))), (.iface 3 (.int .i64 18)), (.iface 4 (.bool ((decide (0 < a1)) && (!(impl_faultAt.e5 a0 a1))))), (.iface 3 (.int .i64 11)), (.iface 4 (.bool (decide (x6_19 < 0)))), (.iface 3 (.int .i64 12)), (.iface 4 (.bool ((impl_faultAt.e2 a0 a1) && (impl_faultAt.e6 a0 x6_19)))), (.iface 3 (.int .i64 13))]) (cons2 d714 (cons2 d715 (cons2 d716 (cons2 d717 (cons2 d718 (cons2 d719 (cons2 d720 (cons2 d721 (cons2 d722 (cons2 d723 rfl)))))))))) (lit_all rfl) <| fun b724 w725 z726 z727 e728 k729 => L_nil <| stepEnd rfl rfl e728 (Ow.rd (Ow.new (xs := [.inl (!(decide (recFault (gt a0 a1) = 0))), .inr (recFault (gt a0 a1)), .inl ((decide (0 < a1)) && (impl_faultAt.e7 a0 a1)), .inr 18, .inl ((decide (0 < a1)) && (!(impl_faultAt.e5 a0 a1))), .inr 11, .inl (decide (x6_19 < 0)), .inr 12, .inl ((impl_faultAt.e2 a0 a1) && (impl_faultAt.e6 a0 x6_19)), .inr 13]) (sz := 1) (enc := (encAny 4 3)) (base := w709.heap.size) k729 (Nat.le_of_eq z726) rfl (fun _ _ => by first | rfl | exact encAny_len _ _ _) (Nat.le_of_ble_eq_true rfl)))
    · intro s730 w731 e732 hf733 hd734 hu735
      have d736 : Rd 1 (encAny 4 3) w731 (s730 86) (impl_faultAt.e1 a0 a1 x6_19) := (hd734 64 rfl)
      have c737 := c57
      exact L_callP (.plain rfl) rfl (ltb rfl) rfl Tryz.call68 (impl_first.calls (w := w731) (a0 := (impl_faultAt.e1 a0 a1 x6_19)) d736 (of_decide_eq_true c737)) rfl <| fun w738 e739 => L_nil <| stepEnd rfl rfl e739 rfl
    · intro s740 w741 e742 hf743 hd744 hu745
      have d746 : s740 87 = (.int .i64 (firstOf (impl_faultAt.e1 a0 a1 x6_19))) := (hd744 65 rfl)
      exact L_op (.plain rfl) rfl (ltb rfl) (X_mkiface Tryz.underlying3 rfl d746) <| L_nil <| stepEnd rfl rfl (Ext.refl w741) rfl
    · intro s747 w748 e749 hf750 hd751 hu752
      have d753 : s747 24 = (.iface 4 (.bool (decide (16 ≤ a1)))) := (hd751 2 rfl)
      have d754 : s747 25 = (.iface 3 (.int .i64 6)) := (hd751 3 rfl)
      have d755 : s747 26 = (.iface 4 (.bool true)) := (hd751 4 rfl)
      have d756 : s747 88 = (.iface 3 (.int .i64 (firstOf (impl_faultAt.e1 a0 a1 x6_19)))) := (hd751 66 rfl)
      exact L_lit (.plain rfl) rfl (ltb rfl) rfl Tryz.underlying119 Tryz.sizeOf20 Tryz.zeroValue20 rfl rfl rfl (vs := [(.iface 4 (.bool (decide (16 ≤ a1)))), (.iface 3 (.int .i64 6)), (.iface 4 (.bool true)), (.iface 3 (.int .i64 (firstOf (impl_faultAt.e1 a0 a1 x6_19))))]) (cons2 d753 (cons2 d754 (cons2 d755 (cons2 d756 rfl)))) (lit_all rfl) <| fun b757 w758 z759 z760 e761 k762 => L_nil <| stepEnd rfl rfl e761 (Ow.rd (Ow.new (xs := [.inl (decide (16 ≤ a1)), .inr 6, .inl true, .inr (firstOf (impl_faultAt.e1 a0 a1 x6_19))]) (sz := 1) (enc := (encAny 4 3)) (base := w748.heap.size) k762 (Nat.le_of_eq z759) rfl (fun _ _ => by first | rfl | exact encAny_len _ _ _) (Nat.le_of_ble_eq_true rfl)))
    · intro s763 w764 e765 hf766 hd767 hu768
      have d769 : Rd 1 (encAny 4 3) w764 (s763 89) (impl_faultAt.e4 a0 a1 x6_19) := (hd767 67 rfl)
      have c770 := c66
      exact L_callP (.plain rfl) rfl (ltb rfl) rfl Tryz.call68 (impl_first.calls (w := w764) (a0 := (impl_faultAt.e4 a0 a1 x6_19)) d769 (of_decide_eq_true c770)) rfl <| fun w771 e772 => L_nil <| stepEnd rfl rfl e772 rfl
    · intro s773 w774 e775 hf776 hd777 hu778
      have d779 : s773 90 = (.int .i64 (firstOf (impl_faultAt.e4 a0 a1 x6_19))) := (hd777 68 rfl)
      exact L_op (.plain rfl) rfl (ltb rfl) (X_assign d779) <| L_nil <| stepEnd rfl rfl (Ext.refl w774) rfl
    intro s780 w781 e782 hf783 ha784
    have K785 := Kp.ofD (kp := [(4, 5), (22, 91)]) rfl hf783
    have d786 : s780 4 = (.int .i64 (firstOf (impl_faultAt.e4 a0 a1 x6_19))) := ha784 69 rfl
    clear ha784 hf783
    refine thn_n <| W_ret <| fin_r ?_
    obtain rfl := Option.some.inj H
    exact fin1 d786 (Ext.trans (Ext.trans (Ext.trans (Below.trans e8 (Wr.below h11 (Nat.le_of_eq z6))) e15) e30) e782)
theorem impl_faultAt.calls {w : World} {a0 : List Rec} {a1 : Int} (gv : GV 0 w) {v_a0 : Value} (f_a0 : Rd 5 encRec w v_a0 a0) (h0 : a0.length ≤ 1048576) (h1 : ∀ x ∈ a0, x.path.length ≤ 1048576) (h2 : inR a1 a0.length = true) :
    Calls Tryz.prog 199 #[v_a0, .int .i64 a1] w (Rt (RP w (.int .i64 (faultAt a0 a1)))) := impl_faultAt.walk gv f_a0 (impl_faultAt.eq a0 a1 h0 h1 h2)
/-! impl.fault -/
theorem impl_fault.walk {k : Nat} {w : World} {a0 : List Rec} (gv : GV 0 w) {v_a0 : Value} (f_a0 : Rd 5 encRec w v_a0 a0) {r : Int × Int} (H : impl_fault.sh k a0 = some r) :
    Calls Tryz.prog 165 #[v_a0] w (Rt (RP w (.tuple #[.int .i64 r.1, .int .i64 r.2]))) := by
  unfold impl_fault.sh at H
  refine calls_of_W Tryz.func165 rfl (Nat.le_of_ble_eq_true rfl) Tryz.ntmps165 rfl ?_
  refine W_seq <| W_reg <| L_op (.plain rfl) rfl (ltb rfl) (X_assign (v := (.int .i64 0)) rfl) <| L_op (.plain rfl) rfl (ltb rfl) (X_assign (v := (.int .i64 0)) rfl) <| L_nil <| thn_n <| W_seq <| W_seq <| W_reg <| L_op (.plain rfl) rfl (ltb rfl) (X_move (v := v_a0) rfl) <| L_op (.plain rfl) rfl (ltb rfl) (X_lenR Tryz.underlying28 rfl f_a0) <| L_op (.plain rfl) rfl (ltb rfl) (X_move (v := (.int .i64 0)) rfl) <| L_nil <| thn_n ?_
  obtain ⟨z2, L3, C4⟩ := bind_some H
  clear H
  refine  W_cutQ (fun s0 sQ wQ => Kp [(2, 6), (8, 19)] s0 sQ ∧ Ext w wQ ∧ z2 = .inr ()) ?_ ?_
  · refine W_block <| W_loopI (fun s0 kk sQ wQ => ∃ (x8_1 : Int), Kp [(2, 6), (8, 19)] s0 sQ ∧ sQ 8 = .int .i64 x8_1 ∧ Ext w wQ ∧ loopF (impl_fault.b1 a0) kk x8_1 = some z2) k ⟨0, (Kp.refl _ _), rfl, (Ext.refl w), L3⟩ ?_
    rintro k9 s10 w11 ⟨x8_1, K12, h15, e13, L14⟩
    cases k9 with
    | zero => exact absurd L14 (by simp [loopF])
    | succ k9 =>
      obtain ⟨t16, H, S17⟩ := loopF_succ L14
      clear L14
      unfold impl_fault.b1 at H
      refine W_seq <| W_reg <| L_op (.plain rfl) rfl (ltb rfl) (X_lss h15 (K12 7 rfl)) <| L_nil <| thn_n <| W_seq ?_
      rcases bif_two H with ⟨q18, H⟩ | ⟨q18, H⟩
      · refine W_true (congrArg Value.bool q18) <| W_skip <| thn_n <| W_seq <| W_block <| W_seq <| W_reg <| L_op (.plain rfl) rfl (ltb rfl) (X_move (v := (.int .i64 x8_1)) h15) <| L_op (.plain rfl) rfl (ltb rfl) (X_assign (v := (.int .i64 x8_1)) rfl) <| L_nil <| thn_n <| W_seq <| W_reg <| L_op (.plain rfl) rfl (ltb rfl) (X_move (v := v_a0) (K12 0 rfl)) <| L_op (.plain rfl) rfl (ltb rfl) (X_move (v := (.int .i64 x8_1)) rfl) ?_
        obtain ⟨c19, H⟩ := bif_some H
        obtain ⟨c20, H⟩ := bif_some H
        obtain ⟨c21, H⟩ := bif_some H
        refine L_callP (.plain rfl) rfl (ltb rfl) rfl Tryz.call199 (impl_faultAt.calls (w := w11) (a0 := a0) (a1 := x8_1) (GV.ext gv e13) (Rd.ext f_a0 e13) (of_decide_eq_true c19) (of_decide_eq_true c20) (of_decide_eq_true c21)) rfl <| fun w22 e23 => L_op (.plain rfl) rfl (ltb rfl) (X_assign (v := (.int .i64 (faultAt a0 x8_1))) rfl) <| L_nil <| thn_n <| W_seq <| W_reg <| L_op (.plain rfl) rfl (ltb rfl) (X_move (v := (.int .i64 (faultAt a0 x8_1))) rfl) <| L_op (.plain rfl) rfl (ltb rfl) (X_neq rfl rfl) <| L_nil <| thn_n ?_
        rcases bif_two H with ⟨q24, H⟩ | ⟨q24, H⟩
        · refine W_true (congrArg Value.bool q24) <| W_seq <| W_reg <| L_op (.plain rfl) rfl (ltb rfl) (X_move (v := (.int .i64 x8_1)) rfl) <| L_op (.plain rfl) rfl (ltb rfl) (X_move (v := (.int .i64 (faultAt a0 x8_1))) rfl) <| L_op (.plain rfl) rfl (ltb rfl) (X_assign (v := (.int .i64 x8_1)) rfl) <| L_op (.plain rfl) rfl (ltb rfl) (X_assign (v := (.int .i64 (faultAt a0 x8_1))) rfl) <| L_nil <| thn_n <| W_ret <| blk_r <| thn_r <| thn_r <| blk_r <| thn_r <| thn_r <| fin_r ?_
          obtain rfl := Option.some.inj H
          obtain rfl := Option.some.inj S17
          have H := C4
          obtain rfl := Option.some.inj H
          exact fin2 rfl rfl (Ext.trans e13 e23)
        · refine W_false (congrArg Value.bool q24) <| W_skip <| blk_n <| thn_n <| W_reg <| L_op (.plain rfl) rfl (ltb rfl) (X_add h15 rfl) <| L_op (.plain rfl) rfl (ltb rfl) (X_move (v := (.int .i64 (IntKind.wrap .i64 (x8_1 + 1)))) rfl) <| L_nil <| thn_n ?_
          obtain rfl := Option.some.inj H
          exact ⟨_, Nat.lt_succ_self _, IntKind.wrap .i64 (x8_1 + 1), (Kp.upd (Kp.upd (Kp.upd (Kp.upd (Kp.upd (Kp.upd (Kp.upd (Kp.upd (Kp.upd (Kp.upd (Kp.upd K12 rfl) rfl) rfl) rfl) rfl) rfl) rfl) rfl) rfl) rfl) rfl), rfl, (Ext.trans e13 e23), S17⟩
      · refine W_false (congrArg Value.bool q18) <| W_exit <| thn_x <| thn_x <| blk_x <| thn_n ?_
        obtain rfl := Option.some.inj H
        obtain rfl := Option.some.inj S17
        exact ⟨(Kp.upd K12 rfl), e13, rfl⟩
  · rintro s6 w5 ⟨K7, e8, y25⟩
    rw [y25] at C4
    have H := C4
    replace H : _ = some _ := H
    refine thn_n <| W_seq <| W_reg <| L_op (.plain rfl) rfl (ltb rfl) (X_assign (v := (.int .i64 0)) rfl) <| L_op (.plain rfl) rfl (ltb rfl) (X_assign (v := (.int .i64 0)) rfl) <| L_nil <| thn_n <| W_ret <| fin_r ?_
    obtain rfl := Option.some.inj H
    exact fin2 rfl rfl e8
theorem impl_fault.calls {w : World} {a0 : List Rec} (gv : GV 0 w) {v_a0 : Value} (f_a0 : Rd 5 encRec w v_a0 a0) (h0 : a0.length ≤ 1048576) (h1 : ∀ x ∈ a0, x.path.length ≤ 1048576) :
    Calls Tryz.prog 165 #[v_a0] w (Rt (RP w (.tuple #[.int .i64 ((layerFault a0).1), .int .i64 ((layerFault a0).2)]))) := by
  obtain ⟨k, h⟩ := impl_fault.eq a0 h0 h1
  exact impl_fault.walk gv f_a0 h
/-! impl.LayerFault -/
theorem impl_LayerFault.walk {w : World} {a0 : List Rec} (gv : GV 0 w) {v_a0 : Value} (f_a0 : Rd 5 encRec w v_a0 a0) {r : Int × Int} (H : impl_LayerFault.sh a0 = some r) :
    Calls Tryz.prog 116 #[v_a0] w (Rt (RP w (.tuple #[.int .i64 r.1, .int .i64 r.2]))) := by
  unfold impl_LayerFault.sh at H
  refine calls_of_W Tryz.func116 rfl (Nat.le_of_ble_eq_true rfl) Tryz.ntmps116 rfl ?_
  refine W_seq <| W_reg <| L_op (.plain rfl) rfl (ltb rfl) (X_assign (v := (.int .i64 0)) rfl) <| L_op (.plain rfl) rfl (ltb rfl) (X_assign (v := (.int .i64 0)) rfl) <| L_nil <| thn_n <| W_seq <| W_seq <| W_reg <| L_op (.plain rfl) rfl (ltb rfl) (X_move (v := v_a0) rfl) <| L_callP (.plain rfl) rfl (ltb rfl) rfl Tryz.call69 (impl_isLongListR.calls (w := w) (a0 := a0) f_a0) rfl <| fun w1 e2 => L_nil <| thn_n ?_
  rcases bif_two H with ⟨q3, H⟩ | ⟨q3, H⟩
  · refine W_true (congrArg Value.bool q3) <| W_seq <| W_reg <| L_op (.plain rfl) rfl (ltb rfl) (X_assign (v := (.int .i64 0)) rfl) <| L_op (.plain rfl) rfl (ltb rfl) (X_assign (v := (.int .i64 2)) rfl) <| L_nil <| thn_n <| W_ret <| thn_r <| fin_r ?_
    obtain rfl := Option.some.inj H
    exact fin2 rfl rfl e2
  · refine W_false (congrArg Value.bool q3) <| W_skip <| thn_n <| W_seq <| W_reg <| L_op (.plain rfl) rfl (ltb rfl) (X_move (v := v_a0) rfl) ?_
    obtain ⟨c4, H⟩ := bif_some H
    obtain ⟨c5, H⟩ := bif_some H
    refine L_callP (.plain rfl) rfl (ltb rfl) rfl Tryz.call165 (impl_fault.calls (w := w1) (a0 := a0) (GV.ext gv e2) (Rd.ext f_a0 e2) (of_decide_eq_true c4) (of_decide_eq_true c5)) rfl <| fun w6 e7 => L_op (.plain rfl) rfl (ltb rfl) (X_extract (v := (.int .i64 ((layerFault a0).1))) rfl rfl) <| L_op (.plain rfl) rfl (ltb rfl) (X_extract (v := (.int .i64 ((layerFault a0).2))) rfl rfl) <| L_op (.plain rfl) rfl (ltb rfl) (X_assign (v := (.int .i64 ((layerFault a0).1))) rfl) <| L_op (.plain rfl) rfl (ltb rfl) (X_assign (v := (.int .i64 ((layerFault a0).2))) rfl) <| L_nil <| thn_n <| W_ret <| fin_r ?_
    obtain rfl := Option.some.inj H
    exact fin2 rfl rfl (Ext.trans e2 e7)
theorem impl_LayerFault.calls {w : World} {a0 : List Rec} (gv : GV 0 w) {v_a0 : Value} (f_a0 : Rd 5 encRec w v_a0 a0) (h0 : a0.length ≤ 1048576) (h1 : ∀ x ∈ a0, x.path.length ≤ 1048576) :
    Calls Tryz.prog 116 #[v_a0] w (Rt (RP w (.tuple #[.int .i64 ((layerFaultL a0).1), .int .i64 ((layerFaultL a0).2)]))) := impl_LayerFault.walk gv f_a0 (impl_LayerFault.eq a0 h0 h1)
/-! laws.eqRecordS -/
theorem laws_eqRecordS.walk {k : Nat} {w : World} {a0 : List Rec} {a1 : List Rec} {v_a0 : Value} (f_a0 : Rd 5 encRec w v_a0 a0) {v_a1 : Value} (f_a1 : Rd 5 encRec w v_a1 a1) {r : Bool} (H : laws_eqRecordS.sh k a0 a1 = some r) :
    Calls Tryz.prog 21 #[v_a0, v_a1] w (Rt (RP w (.bool r))) := by
  unfold laws_eqRecordS.sh at H
  refine calls_of_W Tryz.func21 rfl (Nat.le_of_ble_eq_true rfl) Tryz.ntmps21 rfl ?_
  refine W_seq <| W_reg <| L_op (.plain rfl) rfl (ltb rfl) (X_assign (v := (.bool false)) rfl) <| L_nil <| thn_n <| W_seq <| W_seq <| W_reg <| L_op (.plain rfl) rfl (ltb rfl) (X_move (v := v_a0) rfl) <| L_op (.plain rfl) rfl (ltb rfl) (X_lenR Tryz.underlying28 rfl f_a0) <| L_op (.plain rfl) rfl (ltb rfl) (X_move (v := v_a1) rfl) <| L_op (.plain rfl) rfl (ltb rfl) (X_lenR Tryz.underlying28 rfl f_a1) <| L_op (.plain rfl) rfl (ltb rfl) (X_neq rfl rfl) <| L_nil <| thn_n ?_
  rcases bif_two H with ⟨q1, H⟩ | ⟨q1, H⟩
  · refine W_true (congrArg Value.bool q1) <| W_seq <| W_reg <| L_op (.plain rfl) rfl (ltb rfl) (X_assign (v := (.bool false)) rfl) <| L_nil <| thn_n <| W_ret <| thn_r <| fin_r ?_
    obtain rfl := Option.some.inj H
    exact fin1 rfl (Ext.refl w)
  · refine W_false (congrArg Value.bool q1) <| W_skip <| thn_n <| W_seq <| W_seq <| W_reg <| L_op (.plain rfl) rfl (ltb rfl) (X_assign (v := (.int .i64 0)) rfl) <| L_nil <| thn_n ?_
    obtain ⟨z3, L4, C5⟩ := bind_some H
    clear H
    refine  W_cutQ (fun s0 sQ wQ => Kp [(4, 6), (11, 27)] s0 sQ ∧ Ext w wQ ∧ z3 = .inr ()) ?_ ?_
    · refine W_block <| W_loopI (fun s0 kk sQ wQ => ∃ (x5_2 : Int), Kp [(4, 6), (11, 27)] s0 sQ ∧ sQ 5 = .int .i64 x5_2 ∧ Ext w wQ ∧ loopF (laws_eqRecordS.b1 a0 a1) kk x5_2 = some z3) k ⟨0, (Kp.refl _ _), rfl, (Ext.refl w), L4⟩ ?_
      rintro k10 s11 w12 ⟨x5_2, K13, h16, e14, L15⟩
      cases k10 with
      | zero => exact absurd L15 (by simp [loopF])
      | succ k10 =>
        obtain ⟨t17, H, S18⟩ := loopF_succ L15
        clear L15
        unfold laws_eqRecordS.b1 at H
        refine W_seq <| W_seq <| W_reg <| L_op (.plain rfl) rfl (ltb rfl) (X_move (v := (.int .i64 x5_2)) h16) <| L_op (.plain rfl) rfl (ltb rfl) (X_move (v := v_a0) (K13 0 rfl)) <| L_op (.plain rfl) rfl (ltb rfl) (X_lenR Tryz.underlying28 rfl (Rd.ext f_a0 e14)) <| L_op (.plain rfl) rfl (ltb rfl) (X_lss rfl rfl) <| L_nil <| thn_n ?_
        rcases bif_two H with ⟨q19, H⟩ | ⟨q19, H⟩
        · refine W_true (congrArg Value.bool q19) <| W_skip <| thn_n <| W_seq <| W_block <| W_seq ?_
          obtain ⟨c20, H⟩ := bif_some H
          obtain ⟨c23, H⟩ := bif_some H
          refine W_drawM [LEq v_a0, LEq (.int .i64 x5_2), LAt0 (encRec (gt a0 x5_2)), LEq (.agg (encRec (gt a0 x5_2)).toArray), LEq v_a1, LEq (.int .i64 x5_2), LAt0 (encRec (gt a1 x5_2)), LEq (.agg (encRec (gt a1 x5_2)).toArray), LEq (.bool (decide ((gt a0 x5_2) = (gt a1 x5_2)))), LEq (.bool (!(decide ((gt a0 x5_2) = (gt a1 x5_2)))))] (by kernel_rfl) (by kernel_rfl) ⟨LEq.mono, LEq.mono, LAt0.mono, LEq.mono, LEq.mono, LEq.mono, LAt0.mono, LEq.mono, LEq.mono, LEq.mono, trivial⟩ ⟨?_, ?_, ?_, ?_, ?_, ?_, ?_, ?_, ?_, ?_, trivial⟩ ?_
          · intro s28 w29 e30 hf31 hd32 hu33
            exact L_op (.plain rfl) rfl (ltb rfl) (X_move (v := v_a0) ((hf31 0 rfl).trans (K13 0 rfl))) <| L_nil <| stepEnd rfl rfl (Ext.refl w29) rfl
          · intro s34 w35 e36 hf37 hd38 hu39
            exact L_op (.plain rfl) rfl (ltb rfl) (X_move (v := (.int .i64 x5_2)) ((hf37 5 rfl).trans h16)) <| L_nil <| stepEnd rfl rfl (Ext.refl w35) rfl
          · intro s40 w41 e42 hf43 hd44 hu45
            have d46 : s40 17 = v_a0 := (hd44 0 rfl)
            have d47 : s40 18 = (.int .i64 x5_2) := (hd44 1 rfl)
            have c48 := c20
            exact L_idx (.plain rfl) rfl (ltb rfl) rfl Tryz.underlying28 Tryz.sizeOf78 d46 (Rd.ext f_a0 (Ext.trans e14 e42)) d47 c48 <| fun p49 h50 => L_nil <| stepEnd rfl rfl (Ext.refl w41) ⟨_, rfl, h50⟩
          · intro s51 w52 e53 hf54 hd55 hu56
            obtain ⟨p57, h58, h59⟩ := (hd55 2 rfl)
            exact L_op (.plain rfl) rfl (ltb rfl) (X_loadS Tryz.isAgg78 Tryz.sizeOf78 rfl h58 h59) <| L_nil <| stepEnd rfl rfl (Ext.refl w52) rfl
          · intro s60 w61 e62 hf63 hd64 hu65
            exact L_op (.plain rfl) rfl (ltb rfl) (X_move (v := v_a1) ((hf63 1 rfl).trans (K13 1 rfl))) <| L_nil <| stepEnd rfl rfl (Ext.refl w61) rfl
          · intro s66 w67 e68 hf69 hd70 hu71
            exact L_op (.plain rfl) rfl (ltb rfl) (X_move (v := (.int .i64 x5_2)) ((hf69 5 rfl).trans h16)) <| L_nil <| stepEnd rfl rfl (Ext.refl w67) rfl
          · intro s72 w73 e74 hf75 hd76 hu77
            have d78 : s72 21 = v_a1 := (hd76 4 rfl)
            have d79 : s72 22 = (.int .i64 x5_2) := (hd76 5 rfl)
            have c80 := c23
            exact L_idx (.plain rfl) rfl (ltb rfl) rfl Tryz.underlying28 Tryz.sizeOf78 d78 (Rd.ext f_a1 (Ext.trans e14 e74)) d79 c80 <| fun p81 h82 => L_nil <| stepEnd rfl rfl (Ext.refl w73) ⟨_, rfl, h82⟩
          · intro s83 w84 e85 hf86 hd87 hu88
            obtain ⟨p89, h90, h91⟩ := (hd87 6 rfl)
            exact L_op (.plain rfl) rfl (ltb rfl) (X_loadS Tryz.isAgg78 Tryz.sizeOf78 rfl h90 h91) <| L_nil <| stepEnd rfl rfl (Ext.refl w84) rfl
          · intro s92 w93 e94 hf95 hd96 hu97
            have d98 : s92 20 = (.agg (encRec (gt a0 x5_2)).toArray) := (hd96 3 rfl)
            have d99 : s92 24 = (.agg (encRec (gt a1 x5_2)).toArray) := (hd96 7 rfl)
            exact L_callP (.plain rfl) rfl (ltb rfl) rfl Tryz.call75 (laws_eqRecord.calls (w := w93) (a0 := gt a0 x5_2) (a1 := gt a1 x5_2)) (cons2 d98 (cons2 d99 rfl)) <| fun w100 e101 => L_nil <| stepEnd rfl rfl e101 rfl
          · intro s102 w103 e104 hf105 hd106 hu107
            have d108 : s102 25 = (.bool (decide ((gt a0 x5_2) = (gt a1 x5_2)))) := (hd106 8 rfl)
            exact L_op (.plain rfl) rfl (ltb rfl) (X_not d108) <| L_nil <| stepEnd rfl rfl (Ext.refl w103) rfl
          intro s109 w110 e111 hf112 ha113
          have K114 := Kp.ofD (kp := [(17, 27)]) rfl hf112
          have d115 : s109 26 = (.bool (!(decide ((gt a0 x5_2) = (gt a1 x5_2))))) := ha113 9 rfl
          clear ha113 hf112
          refine thn_n ?_
          rcases bif_two H with ⟨q116, H⟩ | ⟨q116, H⟩
          · refine W_true (d115.trans (congrArg Value.bool q116)) <| W_seq <| W_reg <| L_op (.plain rfl) rfl (ltb rfl) (X_assign (v := (.bool false)) rfl) <| L_nil <| thn_n <| W_ret <| blk_r <| thn_r <| thn_r <| blk_r <| thn_r <| thn_r <| fin_r ?_
            obtain rfl := Option.some.inj H
            obtain rfl := Option.some.inj S18
            have H := C5
            obtain rfl := Option.some.inj H
            exact fin1 rfl (Ext.trans e14 e111)
          · refine W_false (d115.trans (congrArg Value.bool q116)) <| W_skip <| blk_n <| thn_n <| W_reg <| L_op (.plain rfl) rfl (ltb rfl) (X_move (v := (.int .i64 x5_2)) ((K114 5 rfl).trans h16)) <| L_op (.plain rfl) rfl (ltb rfl) (X_add rfl rfl) <| L_op (.plain rfl) rfl (ltb rfl) (X_assign (v := (.int .i64 (IntKind.wrap .i64 (x5_2 + 1)))) rfl) <| L_nil <| thn_n ?_
            obtain rfl := Option.some.inj H
            exact ⟨_, Nat.lt_succ_self _, IntKind.wrap .i64 (x5_2 + 1), (Kp.upd (Kp.upd (Kp.upd (Kp.cut (Kp.upd (Kp.upd (Kp.upd (Kp.upd K13 rfl) rfl) rfl) rfl) K114 rfl) rfl) rfl) rfl), rfl, (Ext.trans e14 e111), S18⟩
        · refine W_false (congrArg Value.bool q19) <| W_exit <| thn_x <| thn_x <| blk_x <| thn_n ?_
          obtain rfl := Option.some.inj H
          obtain rfl := Option.some.inj S18
          exact ⟨(Kp.upd (Kp.upd (Kp.upd (Kp.upd K13 rfl) rfl) rfl) rfl), e14, rfl⟩
    · rintro s7 w6 ⟨K8, e9, y117⟩
      rw [y117] at C5
      have H := C5
      replace H : _ = some _ := H
      refine thn_n <| W_seq <| W_reg <| L_op (.plain rfl) rfl (ltb rfl) (X_assign (v := (.bool true)) rfl) <| L_nil <| thn_n <| W_ret <| fin_r ?_
      obtain rfl := Option.some.inj H
      exact fin1 rfl e9
theorem laws_eqRecordS.calls {w : World} {a0 : List Rec} {a1 : List Rec} {v_a0 : Value} (f_a0 : Rd 5 encRec w v_a0 a0) {v_a1 : Value} (f_a1 : Rd 5 encRec w v_a1 a1) (h0 : a0.length ≤ 4611686018427387904) :
    Calls Tryz.prog 21 #[v_a0, v_a1] w (Rt (RP w (.bool (decide (a0 = a1))))) := by
  obtain ⟨k, h⟩ := laws_eqRecordS.eq a0 a1 h0
  exact laws_eqRecordS.walk f_a0 f_a1 h
/-! spec.l03OK -/
theorem spec_l03OK.walk {w : World} {a0 : List Rec} {v_a0 : Value} (f_a0 : Rd 5 encRec w v_a0 a0) {r : Bool} (H : spec_l03OK.sh a0 = some r) :
    Calls Tryz.prog 62 #[v_a0] w (Rt (RP w (.bool r))) := by
  unfold spec_l03OK.sh at H
  refine calls_of_W Tryz.func62 rfl (Nat.le_of_ble_eq_true rfl) Tryz.ntmps62 rfl ?_
  refine W_seq <| W_reg <| L_op (.plain rfl) rfl (ltb rfl) (X_assign (v := (.bool false)) rfl) <| L_nil <| thn_n <| W_seq <| W_reg <| L_op (.plain rfl) rfl (ltb rfl) (X_move (v := v_a0) rfl) ?_
  obtain ⟨c1, H⟩ := bif_some H
  obtain ⟨c2, H⟩ := bif_some H
  refine L_callP (.plain rfl) rfl (ltb rfl) rfl Tryz.call109 (spec_l03Fault.calls (w := w) (a0 := a0) f_a0 (of_decide_eq_true c1) (of_decide_eq_true c2)) rfl <| fun w3 e4 => L_op (.plain rfl) rfl (ltb rfl) (X_move rfl) <| L_op (.plain rfl) rfl (ltb rfl) (X_extract (v := (.int .i64 ((layerFault a0).1))) rfl rfl) <| L_op (.plain rfl) rfl (ltb rfl) (X_extract (v := (.int .i64 ((layerFault a0).2))) rfl rfl) <| L_op (.plain rfl) rfl (ltb rfl) (X_assign (v := (.int .i64 ((layerFault a0).1))) rfl) <| L_op (.plain rfl) rfl (ltb rfl) (X_assign (v := (.int .i64 ((layerFault a0).2))) rfl) <| L_nil <| thn_n <| W_seq <| W_reg <| L_op (.plain rfl) rfl (ltb rfl) (X_move (v := (.int .i64 ((layerFault a0).2))) rfl) <| L_op (.plain rfl) rfl (ltb rfl) (X_eql rfl rfl) <| L_op (.plain rfl) rfl (ltb rfl) (X_assign (v := (.bool (decide (((layerFault a0).2) = 0)))) rfl) <| L_nil <| thn_n <| W_ret <| fin_r ?_
  obtain rfl := Option.some.inj H
  exact fin1 rfl e4
theorem spec_l03OK.calls {w : World} {a0 : List Rec} {v_a0 : Value} (f_a0 : Rd 5 encRec w v_a0 a0) (h0 : a0.length ≤ 1048576) (h1 : ∀ x ∈ a0, x.path.length ≤ 1048576) :
    Calls Tryz.prog 62 #[v_a0] w (Rt (RP w (.bool (decide ((layerFault a0).2 = 0))))) := spec_l03OK.walk f_a0 (spec_l03OK.eq a0 h0 h1)
/-! impl.LayerOK -/
theorem impl_LayerOK.walk {w : World} {a0 : List Rec} (gv : GV 0 w) {v_a0 : Value} (f_a0 : Rd 5 encRec w v_a0 a0) {r : Bool} (H : impl_LayerOK.sh a0 = some r) :
    Calls Tryz.prog 71 #[v_a0] w (Rt (RP w (.bool r))) := by
  unfold impl_LayerOK.sh at H
  refine calls_of_W Tryz.func71 rfl (Nat.le_of_ble_eq_true rfl) Tryz.ntmps71 rfl ?_
  refine W_seq <| W_reg <| L_op (.plain rfl) rfl (ltb rfl) (X_assign (v := (.bool false)) rfl) <| L_nil <| thn_n <| W_seq <| W_reg <| L_op (.plain rfl) rfl (ltb rfl) (X_move (v := v_a0) rfl) ?_
  obtain ⟨c1, H⟩ := bif_some H
  obtain ⟨c2, H⟩ := bif_some H
  refine L_callP (.plain rfl) rfl (ltb rfl) rfl Tryz.call116 (impl_LayerFault.calls (w := w) (a0 := a0) gv f_a0 (of_decide_eq_true c1) (of_decide_eq_true c2)) rfl <| fun w3 e4 => L_op (.plain rfl) rfl (ltb rfl) (X_move rfl) <| L_op (.plain rfl) rfl (ltb rfl) (X_extract (v := (.int .i64 ((layerFaultL a0).1))) rfl rfl) <| L_op (.plain rfl) rfl (ltb rfl) (X_extract (v := (.int .i64 ((layerFaultL a0).2))) rfl rfl) <| L_op (.plain rfl) rfl (ltb rfl) (X_assign (v := (.int .i64 ((layerFaultL a0).1))) rfl) <| L_op (.plain rfl) rfl (ltb rfl) (X_assign (v := (.int .i64 ((layerFaultL a0).2))) rfl) <| L_nil <| thn_n <| W_seq <| W_reg <| L_op (.plain rfl) rfl (ltb rfl) (X_move (v := (.int .i64 ((layerFaultL a0).2))) rfl) <| L_op (.plain rfl) rfl (ltb rfl) (X_eql rfl rfl) <| L_op (.plain rfl) rfl (ltb rfl) (X_assign (v := (.bool (decide (((layerFaultL a0).2) = 0)))) rfl) <| L_nil <| thn_n <| W_ret <| fin_r ?_
  obtain rfl := Option.some.inj H
  exact fin1 rfl e4
theorem impl_LayerOK.calls {w : World} {a0 : List Rec} (gv : GV 0 w) {v_a0 : Value} (f_a0 : Rd 5 encRec w v_a0 a0) (h0 : a0.length ≤ 1048576) (h1 : ∀ x ∈ a0, x.path.length ≤ 1048576) :
    Calls Tryz.prog 71 #[v_a0] w (Rt (RP w (.bool (decide ((layerFaultL a0).2 = 0))))) := impl_LayerOK.walk gv f_a0 (impl_LayerOK.eq a0 h0 h1)
/-! laws.szRecordSS -/
theorem laws_szRecordSS.walk {k : Nat} {w : World} {a0 : List (List Rec)} {a1 : Int} {v_a0 : Value} (f_a0 : Rd2 5 encRec w v_a0 a0) {r : Int} (H : laws_szRecordSS.sh k a0 a1 = some r) :
    Calls Tryz.prog 23 #[v_a0, .int .i64 a1] w (Rt (RP w (.int .i64 r))) := by
  unfold laws_szRecordSS.sh at H
  refine calls_of_W Tryz.func23 rfl (Nat.le_of_ble_eq_true rfl) Tryz.ntmps23 rfl ?_
  refine W_seq <| W_reg <| L_op (.plain rfl) rfl (ltb rfl) (X_assign (v := (.int .i64 0)) rfl) <| L_nil <| thn_n <| W_seq <| W_reg <| L_op (.plain rfl) rfl (ltb rfl) (X_move (v := (.int .i64 a1)) rfl) <| L_op (.plain rfl) rfl (ltb rfl) (X_move (v := v_a0) rfl) <| L_op (.plain rfl) rfl (ltb rfl) (X_lenR2 Tryz.underlying35 rfl f_a0) <| L_op (.plain rfl) rfl (ltb rfl) (X_sub rfl rfl) <| L_op (.plain rfl) rfl (ltb rfl) (X_assign (v := (.int .i64 (IntKind.wrap .i64 (a1 - (a0.length : Int))))) rfl) <| L_nil <| thn_n <| W_seq <| W_seq <| W_reg <| L_op (.plain rfl) rfl (ltb rfl) (X_move (v := (.int .i64 (IntKind.wrap .i64 (a1 - (a0.length : Int))))) rfl) <| L_op (.plain rfl) rfl (ltb rfl) (X_lss rfl rfl) <| L_nil <| thn_n ?_
  rcases bif_two H with ⟨q1, H⟩ | ⟨q1, H⟩
  · refine W_true (congrArg Value.bool q1) <| W_seq <| W_reg <| L_op (.plain rfl) rfl (ltb rfl) (X_assign (v := (.int .i64 (-1))) rfl) <| L_nil <| thn_n <| W_ret <| thn_r <| fin_r ?_
    obtain rfl := Option.some.inj H
    exact fin1 rfl (Ext.refl w)
  · refine W_false (congrArg Value.bool q1) <| W_skip <| thn_n <| W_seq <| W_seq <| W_reg <| L_op (.plain rfl) rfl (ltb rfl) (X_assign (v := (.int .i64 0)) rfl) <| L_nil <| thn_n ?_
    obtain ⟨z4, L5, C6⟩ := bind_some H
    clear H
    refine  W_cutQ (fun s0 sQ wQ => ∃ (x1_7 : Int), Kp [(1, 2), (4, 6), (12, 26)] s0 sQ ∧ sQ 1 = .int .i64 x1_7 ∧ Ext w wQ ∧ z4 = .inr x1_7) ?_ ?_
    · refine W_block <| W_loopI (fun s0 kk sQ wQ => ∃ (x1_2 : Int) (x5_3 : Int), Kp [(1, 2), (4, 6), (12, 26)] s0 sQ ∧ sQ 1 = .int .i64 x1_2 ∧ sQ 5 = .int .i64 x5_3 ∧ Ext w wQ ∧ loopF (laws_szRecordSS.b1 a0) kk (x1_2, x5_3) = some z4) k ⟨IntKind.wrap .i64 (a1 - (a0.length : Int)), 0, (Kp.refl _ _), rfl, rfl, (Ext.refl w), L5⟩ ?_
      rintro k12 s13 w14 ⟨x1_2, x5_3, K15, h18, h19, e16, L17⟩
      cases k12 with
      | zero => exact absurd L17 (by simp [loopF])
      | succ k12 =>
        obtain ⟨t20, H, S21⟩ := loopF_succ L17
        clear L17
        unfold laws_szRecordSS.b1 at H
        refine W_seq <| W_seq <| W_reg <| L_op (.plain rfl) rfl (ltb rfl) (X_move (v := (.int .i64 x5_3)) h19) <| L_op (.plain rfl) rfl (ltb rfl) (X_move (v := v_a0) (K15 0 rfl)) <| L_op (.plain rfl) rfl (ltb rfl) (X_lenR2 Tryz.underlying35 rfl (Rd2.ext f_a0 e16)) <| L_op (.plain rfl) rfl (ltb rfl) (X_lss rfl rfl) <| L_nil <| thn_n ?_
        rcases bif_two H with ⟨q22, H⟩ | ⟨q22, H⟩
        · refine W_true (congrArg Value.bool q22) <| W_skip <| thn_n <| W_seq <| W_block <| W_seq <| W_reg <| L_op (.plain rfl) rfl (ltb rfl) (X_move (v := v_a0) (K15 0 rfl)) <| L_op (.plain rfl) rfl (ltb rfl) (X_move (v := (.int .i64 x5_3)) h19) ?_
          obtain ⟨c23, H⟩ := bif_some H
          refine L_idx2 (.plain rfl) rfl (ltb rfl) rfl Tryz.underlying35 Tryz.sizeOf22 rfl (Rd2.ext f_a0 e16) rfl c23 <| fun p24 v26 h25 h27 => L_op (.plain rfl) rfl (ltb rfl) (X_loadAt Tryz.isAgg22 rfl h25 rfl) <| L_op (.plain rfl) rfl (ltb rfl) (X_move (v := (.int .i64 x1_2)) h18) ?_
          obtain ⟨c28, H⟩ := bif_some H
          obtain ⟨c29, H⟩ := bif_some H
          obtain ⟨c30, H⟩ := bif_some H
          obtain ⟨c31, H⟩ := bif_some H
          refine L_callP (.plain rfl) rfl (ltb rfl) rfl Tryz.call15 (laws_szRecordS.calls (w := w14) (a0 := gt a0 x5_3) (a1 := x1_2) h27 (of_decide_eq_true c28) (of_decide_eq_true c29) (of_decide_eq_true c30) (of_decide_eq_true c31)) rfl <| fun w32 e33 => L_op (.plain rfl) rfl (ltb rfl) (X_assign (v := (.int .i64 (szRecS (gt a0 x5_3) x1_2))) rfl) <| L_nil <| thn_n <| W_seq <| W_reg <| L_op (.plain rfl) rfl (ltb rfl) (X_move (v := (.int .i64 (szRecS (gt a0 x5_3) x1_2))) rfl) <| L_op (.plain rfl) rfl (ltb rfl) (X_lss rfl rfl) <| L_nil <| thn_n ?_
          rcases bif_two H with ⟨q34, H⟩ | ⟨q34, H⟩
          · refine W_true (congrArg Value.bool q34) <| W_seq <| W_reg <| L_op (.plain rfl) rfl (ltb rfl) (X_assign (v := (.int .i64 (-1))) rfl) <| L_nil <| thn_n <| W_ret <| blk_r <| thn_r <| thn_r <| blk_r <| thn_r <| thn_r <| fin_r ?_
            obtain rfl := Option.some.inj H
            obtain rfl := Option.some.inj S21
            have H := C6
            obtain rfl := Option.some.inj H
            exact fin1 rfl (Ext.trans e16 e33)
          · refine W_false (congrArg Value.bool q34) <| W_skip <| blk_n <| thn_n <| W_reg <| L_op (.plain rfl) rfl (ltb rfl) (X_move (v := (.int .i64 x5_3)) h19) <| L_op (.plain rfl) rfl (ltb rfl) (X_add rfl rfl) <| L_op (.plain rfl) rfl (ltb rfl) (X_assign (v := (.int .i64 (IntKind.wrap .i64 (x5_3 + 1)))) rfl) <| L_nil <| thn_n ?_
            obtain rfl := Option.some.inj H
            exact ⟨_, Nat.lt_succ_self _, (szRecS (gt a0 x5_3) x1_2), IntKind.wrap .i64 (x5_3 + 1), (Kp.upd (Kp.upd (Kp.upd (Kp.upd (Kp.upd (Kp.upd (Kp.upd (Kp.upd (Kp.upd (Kp.upd (Kp.upd (Kp.upd (Kp.upd (Kp.upd (Kp.upd (Kp.upd K15 rfl) rfl) rfl) rfl) rfl) rfl) rfl) rfl) rfl) rfl) rfl) rfl) rfl) rfl) rfl) rfl), rfl, rfl, (Ext.trans e16 e33), S21⟩
        · refine W_false (congrArg Value.bool q22) <| W_exit <| thn_x <| thn_x <| blk_x <| thn_n ?_
          obtain rfl := Option.some.inj H
          obtain rfl := Option.some.inj S21
          exact ⟨x1_2, (Kp.upd (Kp.upd (Kp.upd (Kp.upd K15 rfl) rfl) rfl) rfl), h18, e16, rfl⟩
    · rintro s9 w8 ⟨x1_7, K10, h35, e11, y36⟩
      rw [y36] at C6
      have H := C6
      replace H : _ = some _ := H
      refine thn_n <| W_seq <| W_reg <| L_op (.plain rfl) rfl (ltb rfl) (X_move (v := (.int .i64 x1_7)) h35) <| L_op (.plain rfl) rfl (ltb rfl) (X_assign (v := (.int .i64 x1_7)) rfl) <| L_nil <| thn_n <| W_ret <| fin_r ?_
      obtain rfl := Option.some.inj H
      exact fin1 rfl e11
theorem laws_szRecordSS.calls {w : World} {a0 : List (List Rec)} {a1 : Int} {v_a0 : Value} (f_a0 : Rd2 5 encRec w v_a0 a0) (h0 : (0 : Int) ≤ a1) (h1 : (a1 : Int) ≤ 1048576) (h2 : a0.length ≤ 9223372036854775807) (h3 : ∀ l ∈ a0, l.length ≤ 9223372036854775807) (h4 : ∀ l ∈ a0, ∀ x ∈ l, okRec x) :
    Calls Tryz.prog 23 #[v_a0, .int .i64 a1] w (Rt (RP w (.int .i64 (szRecSS a0 a1)))) := by
  obtain ⟨k, h⟩ := laws_szRecordSS.eq a0 a1 h0 h1 h2 h3 h4
  exact laws_szRecordSS.walk f_a0 h
/-! laws.toRecordSS -/
theorem laws_toRecordSS.walk {k : Nat} {w : World} {a0 : List (List Rec)} {v_a0 : Value} (f_a0 : Rd2 5 encRec w v_a0 a0) {r : List (List Rec)} (H : laws_toRecordSS.sh k a0 = some r) :
    Calls Tryz.prog 25 #[v_a0] w (Rt (ROS 28 78 5 encRec w r)) := by
  unfold laws_toRecordSS.sh at H
  refine calls_of_W Tryz.func25 rfl (Nat.le_of_ble_eq_true rfl) Tryz.ntmps25 rfl ?_
  refine W_seq <| W_reg <| L_op (.plain rfl) rfl (ltb rfl) (X_assign (v := (.slice none 0 0)) rfl) <| L_nil <| thn_n <| W_seq <| W_reg <| L_op (.plain rfl) rfl (ltb rfl) (X_move (v := v_a0) rfl) <| L_op (.plain rfl) rfl (ltb rfl) (X_lenR2 Tryz.underlying35 rfl f_a0) ?_
  obtain ⟨c1, H⟩ := bif_some H
  refine L_make (enc := encV) (zr := .slice none 0 0) (n := a0.length) (.plain rfl) rfl (ltb rfl) rfl El.t39 rfl rfl rfl (of_decide_eq_true c1) (Nat.le_refl _) <| fun b2 w3 z4 z5 e6 o7 => L_op (.plain rfl) rfl (ltb rfl) (X_assign (v := (.slice (some ⟨b2, 0, none⟩) a0.length a0.length)) rfl) <| L_nil <| thn_n <| W_seq <| W_seq <| W_reg <| L_op (.plain rfl) rfl (ltb rfl) (X_assign (v := (.int .i64 0)) rfl) <| L_nil <| thn_n ?_
  obtain ⟨z10, L11, C12⟩ := bind_some H
  clear H
  refine  W_cutQ (fun s0 sQ wQ => ∃ (y13 : List (List Rec)), Kp [(4, 5), (8, 22)] s0 sQ ∧ Own2 28 78 5 encRec w.heap.size wQ (.slice (some ⟨b2, 0, none⟩) a0.length a0.length) y13 ∧ Ext w wQ ∧ z10 = .inr y13) ?_ ?_
  · refine W_block <| W_loopI (fun s0 kk sQ wQ => ∃ (x4_8 : Int) (y9 : List (List Rec)), Kp [(4, 5), (8, 22)] s0 sQ ∧ sQ 4 = .int .i64 x4_8 ∧ Own2 28 78 5 encRec w.heap.size wQ (.slice (some ⟨b2, 0, none⟩) a0.length a0.length) y9 ∧ Ext w wQ ∧ loopF (laws_toRecordSS.b1 a0) kk (x4_8, y9) = some z10) k ⟨0, List.replicate a0.length ([] : List Rec), (Kp.refl _ _), rfl, (Own2.made o7), e6, L11⟩ ?_
    rintro k18 s19 w20 ⟨x4_8, y9, K21, h24, h25, e22, L23⟩
    cases k18 with
    | zero => exact absurd L23 (by simp [loopF])
    | succ k18 =>
      obtain ⟨t26, H, S27⟩ := loopF_succ L23
      clear L23
      unfold laws_toRecordSS.b1 at H
      refine W_seq <| W_seq <| W_reg <| L_op (.plain rfl) rfl (ltb rfl) (X_move (v := (.int .i64 x4_8)) h24) <| L_op (.plain rfl) rfl (ltb rfl) (X_move (v := v_a0) (K21 0 rfl)) <| L_op (.plain rfl) rfl (ltb rfl) (X_lenR2 Tryz.underlying35 rfl (Rd2.ext f_a0 e22)) <| L_op (.plain rfl) rfl (ltb rfl) (X_lss rfl rfl) <| L_nil <| thn_n ?_
      rcases bif_two H with ⟨q28, H⟩ | ⟨q28, H⟩
      · refine W_true (congrArg Value.bool q28) <| W_skip <| thn_n <| W_seq <| W_block <| W_reg <| L_op (.plain rfl) rfl (ltb rfl) (X_move (v := (.slice (some ⟨b2, 0, none⟩) a0.length a0.length)) (K21 3 rfl)) <| L_op (.plain rfl) rfl (ltb rfl) (X_move (v := (.int .i64 x4_8)) h24) <| L_op (.plain rfl) rfl (ltb rfl) (X_move (v := v_a0) (K21 0 rfl)) <| L_op (.plain rfl) rfl (ltb rfl) (X_move (v := (.int .i64 x4_8)) h24) ?_
        obtain ⟨c29, H⟩ := bif_some H
        refine L_idx2 (.plain rfl) rfl (ltb rfl) rfl Tryz.underlying35 Tryz.sizeOf22 rfl (Rd2.ext f_a0 e22) rfl c29 <| fun p30 v32 h31 h33 => L_op (.plain rfl) rfl (ltb rfl) (X_loadAt Tryz.isAgg22 rfl h31 rfl) ?_
        obtain ⟨c34, H⟩ := bif_some H
        refine L_callO (.plain rfl) rfl (ltb rfl) rfl Tryz.call18 (laws_toRecordS.calls (w := w20) (a0 := gt a0 x4_8) h33 (of_decide_eq_true c34)) rfl <| fun v37 w35 e36 o38 => ?_
        obtain ⟨c39, H⟩ := bif_some H
        refine L_idxO2 (.plain rfl) rfl (ltb rfl) rfl Tryz.underlying39 Tryz.sizeOf28 rfl (Own2.ext h25 e36) rfl c39 <| fun p40 h41 => L_storeO2s (.plain rfl) rfl rfl Tryz.sizeOf28 rfl h41 rfl o38 (e22).size h25 e36 (Nat.le_refl _) <| fun b42 w43 h44 h45 h46 o47 o48 => L_nil <| blk_n <| thn_n <| W_reg <| L_op (.plain rfl) rfl (ltb rfl) (X_move (v := (.int .i64 x4_8)) h24) <| L_op (.plain rfl) rfl (ltb rfl) (X_add rfl rfl) <| L_op (.plain rfl) rfl (ltb rfl) (X_assign (v := (.int .i64 (IntKind.wrap .i64 (x4_8 + 1)))) rfl) <| L_nil <| thn_n ?_
        obtain rfl := Option.some.inj H
        exact ⟨_, Nat.lt_succ_self _, IntKind.wrap .i64 (x4_8 + 1), setI y9 x4_8 (gt a0 x4_8), (Kp.upd (Kp.upd (Kp.upd (Kp.upd (Kp.upd (Kp.upd (Kp.upd (Kp.upd (Kp.upd (Kp.upd (Kp.upd (Kp.upd (Kp.upd (Kp.upd (Kp.upd K21 rfl) rfl) rfl) rfl) rfl) rfl) rfl) rfl) rfl) rfl) rfl) rfl) rfl) rfl) rfl), rfl, o47, (Ext.wr (Ext.trans e22 e36) h46 h45 (Nat.le_refl _)), S27⟩
      · refine W_false (congrArg Value.bool q28) <| W_exit <| thn_x <| thn_x <| blk_x <| thn_n ?_
        obtain rfl := Option.some.inj H
        obtain rfl := Option.some.inj S27
        exact ⟨y9, (Kp.upd (Kp.upd (Kp.upd (Kp.upd K21 rfl) rfl) rfl) rfl), h25, e22, rfl⟩
  · rintro s15 w14 ⟨y13, K16, h49, e17, y50⟩
    rw [y50] at C12
    have H := C12
    replace H : _ = some _ := H
    refine thn_n <| W_seq <| W_reg <| L_op (.plain rfl) rfl (ltb rfl) (X_move (v := (.slice (some ⟨b2, 0, none⟩) a0.length a0.length)) (K16 3 rfl)) <| L_op (.plain rfl) rfl (ltb rfl) (X_assign (v := (.slice (some ⟨b2, 0, none⟩) a0.length a0.length)) rfl) <| L_nil <| thn_n <| W_ret <| fin_r ?_
    obtain rfl := Option.some.inj H
    exact fin1os rfl e17 h49 ((Ext.refl w)).size
theorem laws_toRecordSS.calls {w : World} {a0 : List (List Rec)} {v_a0 : Value} (f_a0 : Rd2 5 encRec w v_a0 a0) (h0 : a0.length ≤ 1048576) (h1 : ∀ l ∈ a0, l.length ≤ 1048576) :
    Calls Tryz.prog 25 #[v_a0] w (Rt (ROS 28 78 5 encRec w a0)) := by
  obtain ⟨k, h⟩ := laws_toRecordSS.eq a0 h0 h1
  exact laws_toRecordSS.walk f_a0 h
/-! spec.l05Stack -/
theorem spec_l05Stack.walk {k : Nat} {w : World} {a0 : List (List Rec)} {v_a0 : Value} (f_a0 : Rd2 5 encRec w v_a0 a0) {r : Bool} (H : spec_l05Stack.sh k a0 = some r) :
    Calls Tryz.prog 77 #[v_a0] w (Rt (RP w (.bool r))) := by
  unfold spec_l05Stack.sh at H
  refine calls_of_W Tryz.func77 rfl (Nat.le_of_ble_eq_true rfl) Tryz.ntmps77 rfl ?_
  refine W_seq <| W_reg <| L_op (.plain rfl) rfl (ltb rfl) (X_assign (v := (.bool false)) rfl) <| L_nil <| thn_n <| W_seq <| W_seq <| W_reg <| L_op (.plain rfl) rfl (ltb rfl) (X_move (v := v_a0) rfl) <| L_op (.plain rfl) rfl (ltb rfl) (X_lenR2 Tryz.underlying39 rfl f_a0) <| L_op (.plain rfl) rfl (ltb rfl) (X_gtr rfl rfl) <| L_nil <| thn_n ?_
  rcases bif_two H with ⟨q1, H⟩ | ⟨q1, H⟩
  · refine W_true (congrArg Value.bool q1) <| W_seq <| W_reg <| L_op (.plain rfl) rfl (ltb rfl) (X_assign (v := (.bool false)) rfl) <| L_nil <| thn_n <| W_ret <| thn_r <| fin_r ?_
    obtain rfl := Option.some.inj H
    exact fin1 rfl (Ext.refl w)
  · refine W_false (congrArg Value.bool q1) <| W_skip <| thn_n <| W_seq <| W_seq <| W_reg <| L_op (.plain rfl) rfl (ltb rfl) (X_assign (v := (.int .i64 0)) rfl) <| L_nil <| thn_n ?_
    obtain ⟨z3, L4, C5⟩ := bind_some H
    clear H
    refine  W_cutQ (fun s0 sQ wQ => Kp [(2, 4), (7, 19)] s0 sQ ∧ Ext w wQ ∧ z3 = .inr ()) ?_ ?_
    · refine W_block <| W_loopI (fun s0 kk sQ wQ => ∃ (x3_2 : Int), Kp [(2, 4), (7, 19)] s0 sQ ∧ sQ 3 = .int .i64 x3_2 ∧ Ext w wQ ∧ loopF (spec_l05Stack.b1 a0) kk x3_2 = some z3) k ⟨0, (Kp.refl _ _), rfl, (Ext.refl w), L4⟩ ?_
      rintro k10 s11 w12 ⟨x3_2, K13, h16, e14, L15⟩
      cases k10 with
      | zero => exact absurd L15 (by simp [loopF])
      | succ k10 =>
        obtain ⟨t17, H, S18⟩ := loopF_succ L15
        clear L15
        unfold spec_l05Stack.b1 at H
        refine W_seq <| W_seq <| W_reg <| L_op (.plain rfl) rfl (ltb rfl) (X_move (v := (.int .i64 x3_2)) h16) <| L_op (.plain rfl) rfl (ltb rfl) (X_move (v := v_a0) (K13 0 rfl)) <| L_op (.plain rfl) rfl (ltb rfl) (X_lenR2 Tryz.underlying39 rfl (Rd2.ext f_a0 e14)) <| L_op (.plain rfl) rfl (ltb rfl) (X_lss rfl rfl) <| L_nil <| thn_n ?_
        rcases bif_two H with ⟨q19, H⟩ | ⟨q19, H⟩
        · refine W_true (congrArg Value.bool q19) <| W_skip <| thn_n <| W_seq <| W_block <| W_seq <| W_reg <| L_op (.plain rfl) rfl (ltb rfl) (X_move (v := v_a0) (K13 0 rfl)) <| L_op (.plain rfl) rfl (ltb rfl) (X_move (v := (.int .i64 x3_2)) h16) ?_
          obtain ⟨c20, H⟩ := bif_some H
          refine L_idx2 (.plain rfl) rfl (ltb rfl) rfl Tryz.underlying39 Tryz.sizeOf28 rfl (Rd2.ext f_a0 e14) rfl c20 <| fun p21 v23 h22 h24 => L_op (.plain rfl) rfl (ltb rfl) (X_loadAt Tryz.isAgg28 rfl h22 rfl) ?_
          obtain ⟨c25, H⟩ := bif_some H
          obtain ⟨c26, H⟩ := bif_some H
          refine L_callP (.plain rfl) rfl (ltb rfl) rfl Tryz.call62 (spec_l03OK.calls (w := w12) (a0 := gt a0 x3_2) h24 (of_decide_eq_true c25) (of_decide_eq_true c26)) rfl <| fun w27 e28 => L_op (.plain rfl) rfl (ltb rfl) (X_not rfl) <| L_nil <| thn_n ?_
          rcases bif_two H with ⟨q29, H⟩ | ⟨q29, H⟩
          · refine W_true (congrArg Value.bool q29) <| W_seq <| W_reg <| L_op (.plain rfl) rfl (ltb rfl) (X_assign (v := (.bool false)) rfl) <| L_nil <| thn_n <| W_ret <| blk_r <| thn_r <| thn_r <| blk_r <| thn_r <| thn_r <| fin_r ?_
            obtain rfl := Option.some.inj H
            obtain rfl := Option.some.inj S18
            have H := C5
            obtain rfl := Option.some.inj H
            exact fin1 rfl (Ext.trans e14 e28)
          · refine W_false (congrArg Value.bool q29) <| W_skip <| blk_n <| thn_n <| W_reg <| L_op (.plain rfl) rfl (ltb rfl) (X_move (v := (.int .i64 x3_2)) h16) <| L_op (.plain rfl) rfl (ltb rfl) (X_add rfl rfl) <| L_op (.plain rfl) rfl (ltb rfl) (X_assign (v := (.int .i64 (IntKind.wrap .i64 (x3_2 + 1)))) rfl) <| L_nil <| thn_n ?_
            obtain rfl := Option.some.inj H
            exact ⟨_, Nat.lt_succ_self _, IntKind.wrap .i64 (x3_2 + 1), (Kp.upd (Kp.upd (Kp.upd (Kp.upd (Kp.upd (Kp.upd (Kp.upd (Kp.upd (Kp.upd (Kp.upd (Kp.upd (Kp.upd (Kp.upd K13 rfl) rfl) rfl) rfl) rfl) rfl) rfl) rfl) rfl) rfl) rfl) rfl) rfl), rfl, (Ext.trans e14 e28), S18⟩
        · refine W_false (congrArg Value.bool q19) <| W_exit <| thn_x <| thn_x <| blk_x <| thn_n ?_
          obtain rfl := Option.some.inj H
          obtain rfl := Option.some.inj S18
          exact ⟨(Kp.upd (Kp.upd (Kp.upd (Kp.upd K13 rfl) rfl) rfl) rfl), e14, rfl⟩
    · rintro s7 w6 ⟨K8, e9, y30⟩
      rw [y30] at C5
      have H := C5
      replace H : _ = some _ := H
      refine thn_n <| W_seq <| W_reg <| L_op (.plain rfl) rfl (ltb rfl) (X_assign (v := (.bool true)) rfl) <| L_nil <| thn_n <| W_ret <| fin_r ?_
      obtain rfl := Option.some.inj H
      exact fin1 rfl e9
theorem spec_l05Stack.calls {w : World} {a0 : List (List Rec)} {v_a0 : Value} (f_a0 : Rd2 5 encRec w v_a0 a0) (h0 : a0.length ≤ 1048576) (h1 : ∀ l ∈ a0, l.length ≤ 1048576) (h2 : ∀ l ∈ a0, ∀ x ∈ l, x.path.length ≤ 1048576) :
    Calls Tryz.prog 77 #[v_a0] w (Rt (RP w (.bool (stackOK a0)))) := by
  obtain ⟨k, h⟩ := spec_l05Stack.eq a0 h0 h1 h2
  exact spec_l05Stack.walk f_a0 h
/-! impl.all(()impl.Record)$1 -/
theorem impl_allSS_1.walk {w : World} {a0 : List Rec} {a1 : List Rec → Option Bool} {v_a0 : Value} (f_a0 : Rd 5 encRec w v_a0 a0) {v_a1 : Value} (f_a1 : ∀ (x0 : List Rec) (r : Bool), a1 x0 = some r → ∀ (u0 : Value) (wR : World), Ext w wR → Rd 5 encRec wR u0 x0 → FnAt Tryz.prog wR v_a1 [u0] (.bool r)) (g_a1 : v_a1.cells = #[v_a1]) {b_a1 : Nat} (k_a1 : Blk w b_a1 #[v_a1] 75) {r : Bool} (H : impl_allSS_1.sh a0 a1 = some r) :
    Calls Tryz.prog 178 #[v_a0, .pointer (some ⟨b_a1, 0, none⟩)] w (Rt (RP w (.bool r))) := by
  unfold impl_allSS_1.sh at H
  refine calls_of_W Tryz.func178 rfl (Nat.le_of_ble_eq_true rfl) Tryz.ntmps178 rfl ?_
  refine W_seq <| W_reg <| L_op (.plain rfl) rfl (ltb rfl) (X_assign (v := (.bool false)) rfl) <| L_nil <| thn_n <| W_seq <| W_reg <| L_op (.plain rfl) rfl (ltb rfl) (X_loadB Tryz.isAgg75 k_a1 rfl rfl) <| L_op (.plain rfl) rfl (ltb rfl) (X_move (v := v_a0) rfl) ?_
  obtain ⟨z1, x2, H⟩ := bind_some H
  refine L_callF (.plain rfl) rfl (ltb rfl) rfl rfl (f_a1 _ _ x2 v_a0 w (Ext.refl w) f_a0) rfl <| fun w3 e4 => L_op (.plain rfl) rfl (ltb rfl) (X_not rfl) <| L_op (.plain rfl) rfl (ltb rfl) (X_assign (v := (.bool (!z1))) rfl) <| L_nil <| thn_n <| W_ret <| fin_r ?_
  obtain rfl := Option.some.inj H
  exact fin1 rfl e4
theorem impl_allSS_1.calls {w : World} {a0 : List Rec} {a1 : List Rec → Option Bool} {r : Bool} {v_a0 : Value} (f_a0 : Rd 5 encRec w v_a0 a0) {v_a1 : Value} (f_a1 : ∀ (x0 : List Rec) (r : Bool), a1 x0 = some r → ∀ (u0 : Value) (wR : World), Ext w wR → Rd 5 encRec wR u0 x0 → FnAt Tryz.prog wR v_a1 [u0] (.bool r)) (g_a1 : v_a1.cells = #[v_a1]) {b_a1 : Nat} (k_a1 : Blk w b_a1 #[v_a1] 75) (H : ((a1 a0).map (!·)) = some r) :
    Calls Tryz.prog 178 #[v_a0, .pointer (some ⟨b_a1, 0, none⟩)] w (Rt (RP w (.bool r))) := impl_allSS_1.walk f_a0 f_a1 g_a1 k_a1 (impl_allSS_1.eq a0 a1 H)
/-! slices.IndexFunc(()()impl.Record,()impl.Record) -/
theorem slices_IndexFuncSS.walk {k : Nat} {w : World} {a0 : List (List Rec)} {a1 : List Rec → Option Bool} {v_a0 : Value} (f_a0 : Rd2 5 encRec w v_a0 a0) {v_a1 : Value} (f_a1 : ∀ (x0 : List Rec) (r : Bool), a1 x0 = some r → ∀ (u0 : Value) (wR : World), Ext w wR → Rd 5 encRec wR u0 x0 → FnAt Tryz.prog wR v_a1 [u0] (.bool r)) (g_a1 : v_a1.cells = #[v_a1]) {r : Int} (H : slices_IndexFuncSS.sh k a0 a1 = some r) :
    Calls Tryz.prog 208 #[v_a0, v_a1] w (Rt (RP w (.int .i64 r))) := by
  unfold slices_IndexFuncSS.sh at H
  refine calls_of_W Tryz.func208 rfl (Nat.le_of_ble_eq_true rfl) Tryz.ntmps208 rfl ?_
  refine W_seq <| W_reg <| L_op (.plain rfl) rfl (ltb rfl) (X_assign (v := (.int .i64 0)) rfl) <| L_nil <| thn_n <| W_seq <| W_seq <| W_reg <| L_op (.plain rfl) rfl (ltb rfl) (X_move (v := v_a0) rfl) <| L_op (.plain rfl) rfl (ltb rfl) (X_lenR2 Tryz.underlying39 rfl f_a0) <| L_op (.plain rfl) rfl (ltb rfl) (X_move (v := (.int .i64 0)) rfl) <| L_nil <| thn_n ?_
  obtain ⟨z2, L3, C4⟩ := bind_some H
  clear H
  refine  W_cutQ (fun s0 sQ wQ => Kp [(4, 6), (8, 19)] s0 sQ ∧ Ext w wQ ∧ z2 = .inr ()) ?_ ?_
  · refine W_block <| W_loopI (fun s0 kk sQ wQ => ∃ (x8_1 : Int), Kp [(4, 6), (8, 19)] s0 sQ ∧ sQ 8 = .int .i64 x8_1 ∧ Ext w wQ ∧ loopF (slices_IndexFuncSS.b1 a0 a1) kk x8_1 = some z2) k ⟨0, (Kp.refl _ _), rfl, (Ext.refl w), L3⟩ ?_
    rintro k9 s10 w11 ⟨x8_1, K12, h15, e13, L14⟩
    cases k9 with
    | zero => exact absurd L14 (by simp [loopF])
    | succ k9 =>
      obtain ⟨t16, H, S17⟩ := loopF_succ L14
      clear L14
      unfold slices_IndexFuncSS.b1 at H
      refine W_seq <| W_reg <| L_op (.plain rfl) rfl (ltb rfl) (X_lss h15 (K12 7 rfl)) <| L_nil <| thn_n <| W_seq ?_
      rcases bif_two H with ⟨q18, H⟩ | ⟨q18, H⟩
      · refine W_true (congrArg Value.bool q18) <| W_skip <| thn_n <| W_seq <| W_block <| W_seq <| W_reg <| L_op (.plain rfl) rfl (ltb rfl) (X_move (v := (.int .i64 x8_1)) h15) <| L_op (.plain rfl) rfl (ltb rfl) (X_assign (v := (.int .i64 x8_1)) rfl) <| L_nil <| thn_n <| W_seq <| W_reg <| L_op (.plain rfl) rfl (ltb rfl) (X_move (v := v_a1) (K12 1 rfl)) <| L_op (.plain rfl) rfl (ltb rfl) (X_move (v := v_a0) (K12 0 rfl)) <| L_op (.plain rfl) rfl (ltb rfl) (X_move (v := (.int .i64 x8_1)) rfl) ?_
        obtain ⟨c19, H⟩ := bif_some H
        refine L_idx2 (.plain rfl) rfl (ltb rfl) rfl Tryz.underlying39 Tryz.sizeOf28 rfl (Rd2.ext f_a0 e13) rfl c19 <| fun p20 v22 h21 h23 => L_op (.plain rfl) rfl (ltb rfl) (X_loadAt Tryz.isAgg28 rfl h21 rfl) ?_
        obtain ⟨z24, x25, H⟩ := bind_some H
        refine L_callF (.plain rfl) rfl (ltb rfl) rfl rfl (f_a1 _ _ x25 v22 w11 e13 h23) rfl <| fun w26 e27 => L_nil <| thn_n ?_
        rcases bif_two H with ⟨q28, H⟩ | ⟨q28, H⟩
        · refine W_true (congrArg Value.bool q28) <| W_seq <| W_reg <| L_op (.plain rfl) rfl (ltb rfl) (X_move (v := (.int .i64 x8_1)) rfl) <| L_op (.plain rfl) rfl (ltb rfl) (X_assign (v := (.int .i64 x8_1)) rfl) <| L_nil <| thn_n <| W_ret <| blk_r <| thn_r <| thn_r <| blk_r <| thn_r <| thn_r <| fin_r ?_
          obtain rfl := Option.some.inj H
          obtain rfl := Option.some.inj S17
          have H := C4
          obtain rfl := Option.some.inj H
          exact fin1 rfl (Ext.trans e13 e27)
        · refine W_false (congrArg Value.bool q28) <| W_skip <| blk_n <| thn_n <| W_reg <| L_op (.plain rfl) rfl (ltb rfl) (X_add h15 rfl) <| L_op (.plain rfl) rfl (ltb rfl) (X_move (v := (.int .i64 (IntKind.wrap .i64 (x8_1 + 1)))) rfl) <| L_nil <| thn_n ?_
          obtain rfl := Option.some.inj H
          exact ⟨_, Nat.lt_succ_self _, IntKind.wrap .i64 (x8_1 + 1), (Kp.upd (Kp.upd (Kp.upd (Kp.upd (Kp.upd (Kp.upd (Kp.upd (Kp.upd (Kp.upd (Kp.upd (Kp.upd K12 rfl) rfl) rfl) rfl) rfl) rfl) rfl) rfl) rfl) rfl) rfl), rfl, (Ext.trans e13 e27), S17⟩
      · refine W_false (congrArg Value.bool q18) <| W_exit <| thn_x <| thn_x <| blk_x <| thn_n ?_
        obtain rfl := Option.some.inj H
        obtain rfl := Option.some.inj S17
        exact ⟨(Kp.upd K12 rfl), e13, rfl⟩
  · rintro s6 w5 ⟨K7, e8, y29⟩
    rw [y29] at C4
    have H := C4
    replace H : _ = some _ := H
    refine thn_n <| W_seq <| W_reg <| L_op (.plain rfl) rfl (ltb rfl) (X_assign (v := (.int .i64 (-1))) rfl) <| L_nil <| thn_n <| W_ret <| fin_r ?_
    obtain rfl := Option.some.inj H
    exact fin1 rfl e8
theorem slices_IndexFuncSS.calls {w : World} {a0 : List (List Rec)} {a1 : List Rec → Option Bool} {r : Int} {v_a0 : Value} (f_a0 : Rd2 5 encRec w v_a0 a0) {v_a1 : Value} (f_a1 : ∀ (x0 : List Rec) (r : Bool), a1 x0 = some r → ∀ (u0 : Value) (wR : World), Ext w wR → Rd 5 encRec wR u0 x0 → FnAt Tryz.prog wR v_a1 [u0] (.bool r)) (g_a1 : v_a1.cells = #[v_a1]) (h0 : a0.length ≤ 4611686018427387904) (H : (idxO a1 a0) = some r) :
    Calls Tryz.prog 208 #[v_a0, v_a1] w (Rt (RP w (.int .i64 r))) := by
  obtain ⟨k, h⟩ := slices_IndexFuncSS.eq a0 a1 h0 H
  exact slices_IndexFuncSS.walk f_a0 f_a1 g_a1 h
/-! slices.ContainsFunc(()()impl.Record,()impl.Record) -/
theorem slices_ContainsFuncSS.walk {w : World} {a0 : List (List Rec)} {a1 : List Rec → Option Bool} {v_a0 : Value} (f_a0 : Rd2 5 encRec w v_a0 a0) {v_a1 : Value} (f_a1 : ∀ (x0 : List Rec) (r : Bool), a1 x0 = some r → ∀ (u0 : Value) (wR : World), Ext w wR → Rd 5 encRec wR u0 x0 → FnAt Tryz.prog wR v_a1 [u0] (.bool r)) (g_a1 : v_a1.cells = #[v_a1]) {r : Bool} (H : slices_ContainsFuncSS.sh a0 a1 = some r) :
    Calls Tryz.prog 177 #[v_a0, v_a1] w (Rt (RP w (.bool r))) := by
  unfold slices_ContainsFuncSS.sh at H
  refine calls_of_W Tryz.func177 rfl (Nat.le_of_ble_eq_true rfl) Tryz.ntmps177 rfl ?_
  refine W_seq <| W_reg <| L_op (.plain rfl) rfl (ltb rfl) (X_assign (v := (.bool false)) rfl) <| L_nil <| thn_n <| W_seq <| W_reg <| L_op (.plain rfl) rfl (ltb rfl) (X_move (v := v_a0) rfl) <| L_op (.plain rfl) rfl (ltb rfl) (X_move (v := v_a1) rfl) ?_
  obtain ⟨c1, H⟩ := bif_some H
  obtain ⟨z2, x3, H⟩ := bind_some H
  refine L_callP (.plain rfl) rfl (ltb rfl) rfl Tryz.call208 (slices_IndexFuncSS.calls (w := w) (a0 := a0) (a1 := a1) f_a0 (fun x0 r h u0 wR kR q0 => f_a1 x0 r h u0 wR (Ext.trans (Ext.refl w) kR) q0) g_a1 (of_decide_eq_true c1) x3) rfl <| fun w4 e5 => L_op (.plain rfl) rfl (ltb rfl) (X_geq rfl rfl) <| L_op (.plain rfl) rfl (ltb rfl) (X_assign (v := (.bool (decide (0 ≤ z2)))) rfl) <| L_nil <| thn_n <| W_ret <| fin_r ?_
  obtain rfl := Option.some.inj H
  exact fin1 rfl e5
theorem slices_ContainsFuncSS.calls {w : World} {a0 : List (List Rec)} {a1 : List Rec → Option Bool} {r : Bool} {v_a0 : Value} (f_a0 : Rd2 5 encRec w v_a0 a0) {v_a1 : Value} (f_a1 : ∀ (x0 : List Rec) (r : Bool), a1 x0 = some r → ∀ (u0 : Value) (wR : World), Ext w wR → Rd 5 encRec wR u0 x0 → FnAt Tryz.prog wR v_a1 [u0] (.bool r)) (g_a1 : v_a1.cells = #[v_a1]) (h0 : a0.length ≤ 4611686018427387904) (H : (anyO a1 a0) = some r) :
    Calls Tryz.prog 177 #[v_a0, v_a1] w (Rt (RP w (.bool r))) := slices_ContainsFuncSS.walk f_a0 f_a1 g_a1 (slices_ContainsFuncSS.eq a0 a1 h0 H)
/-! impl.all(()impl.Record) -/
theorem impl_allSS.walk {w : World} {a0 : List (List Rec)} {a1 : List Rec → Option Bool} {v_a0 : Value} (f_a0 : Rd2 5 encRec w v_a0 a0) {v_a1 : Value} (f_a1 : ∀ (x0 : List Rec) (r : Bool), a1 x0 = some r → ∀ (u0 : Value) (wR : World), Ext w wR → Rd 5 encRec wR u0 x0 → FnAt Tryz.prog wR v_a1 [u0] (.bool r)) (g_a1 : v_a1.cells = #[v_a1]) {r : Bool} (H : impl_allSS.sh a0 a1 = some r) :
    Calls Tryz.prog 126 #[v_a0, v_a1] w (Rt (RP w (.bool r))) := by
  unfold impl_allSS.sh at H
  refine calls_of_W Tryz.func126 rfl (Nat.le_of_ble_eq_true rfl) Tryz.ntmps126 rfl ?_
  refine W_seq <| W_reg <| L_box (.plain rfl) rfl (ltb rfl) rfl rfl <| fun b1 w2 z3 z4 e5 k6 => L_op (.plain rfl) rfl (ltb rfl) (X_assign (v := (.bool false)) rfl) <| L_nil <| thn_n <| W_seq <| W_reg <| L_op (.plain rfl) rfl (ltb rfl) (X_move (v := v_a0) rfl) <| L_op (.plain rfl) rfl (ltb rfl) (X_makeFunc (vs := #[]) (us := #[.pointer (some ⟨b1, 0, none⟩)]) rfl rfl) ?_
  obtain ⟨c11, H⟩ := bif_some H
  obtain ⟨z12, x13, H⟩ := bind_some H
  refine L_callP (.plain rfl) rfl (ltb rfl) rfl Tryz.call177 (slices_ContainsFuncSS.calls (w := w2) (a0 := a0) (a1 := (fun (x0_ : List Rec) => ((a1 x0_).map (!·)))) (Rd2.ext f_a0 e5) (fun x0_ r h ux0_ w7 k8 hx0_ => by exact FnAt.mk Tryz.call178 (by rfl) fun w9 k10 => impl_allSS_1.calls (w := w9) (a0 := x0_) (a1 := a1) (Rd.ext hx0_ k10) (fun x0 r h u0 wR kR q0 => f_a1 x0 r h u0 wR (Ext.trans (Ext.trans (Ext.trans e5 k8) k10) kR) q0) g_a1 (Blk.ext (Blk.cs k6 g_a1) (Ext.trans k8 k10)) h) rfl (of_decide_eq_true c11) x13) rfl <| fun w14 e15 => L_op (.plain rfl) rfl (ltb rfl) (X_not rfl) <| L_op (.plain rfl) rfl (ltb rfl) (X_assign (v := (.bool (!z12))) rfl) <| L_nil <| thn_n <| W_ret <| fin_r ?_
  obtain rfl := Option.some.inj H
  exact fin1 rfl (Ext.trans e5 e15)
theorem impl_allSS.calls {w : World} {a0 : List (List Rec)} {a1 : List Rec → Option Bool} {r : Bool} {v_a0 : Value} (f_a0 : Rd2 5 encRec w v_a0 a0) {v_a1 : Value} (f_a1 : ∀ (x0 : List Rec) (r : Bool), a1 x0 = some r → ∀ (u0 : Value) (wR : World), Ext w wR → Rd 5 encRec wR u0 x0 → FnAt Tryz.prog wR v_a1 [u0] (.bool r)) (g_a1 : v_a1.cells = #[v_a1]) (h0 : a0.length ≤ 4611686018427387904) (H : (allO a1 a0) = some r) :
    Calls Tryz.prog 126 #[v_a0, v_a1] w (Rt (RP w (.bool r))) := impl_allSS.walk f_a0 f_a1 g_a1 (impl_allSS.eq a0 a1 h0 H)
/-! impl.StackOK -/
theorem impl_StackOK.walk {w : World} {a0 : List (List Rec)} (gv : GV 0 w) {v_a0 : Value} (f_a0 : Rd2 5 encRec w v_a0 a0) {r : Bool} (H : impl_StackOK.sh a0 = some r) :
    Calls Tryz.prog 83 #[v_a0] w (Rt (RP w (.bool r))) := by
  unfold impl_StackOK.sh at H
  refine calls_of_W Tryz.func83 rfl (Nat.le_of_ble_eq_true rfl) Tryz.ntmps83 rfl ?_
  refine W_seq <| W_reg <| L_op (.plain rfl) rfl (ltb rfl) (X_assign (v := (.bool false)) rfl) <| L_nil <| thn_n <| W_seq <| W_reg <| L_op (.plain rfl) rfl (ltb rfl) (X_move (v := v_a0) rfl) <| L_op (.plain rfl) rfl (ltb rfl) (X_lenR2 Tryz.underlying39 rfl f_a0) <| L_op (.plain rfl) rfl (ltb rfl) (X_leq rfl rfl) <| L_op (.plain rfl) rfl (ltb rfl) (X_move (v := (.bool (decide ((a0.length : Int) ≤ 5)))) rfl) ?_
  obtain ⟨z2, x3, H⟩ := bind_some H
  refine L_grpE 3 [(7, 10)] 9 (fun q => q = z2) ?_ ?_
  · rcases bif_two x3 with ⟨b0_, H⟩ | ⟨b0_, H⟩
    · refine L_op (.guard 3 true 6 rfl rfl (ltb rfl) (congrArg Value.bool b0_)) rfl (ltb rfl) (X_move (v := v_a0) rfl) ?_
      obtain ⟨c6, H⟩ := bif_some H
      obtain ⟨z7, x8, H⟩ := bind_some H
      refine L_callP (.guard 3 true 6 rfl rfl (ltb rfl) (congrArg Value.bool b0_)) rfl (ltb rfl) rfl Tryz.call126 (impl_allSS.calls (w := w) (a0 := a0) (a1 := (fun (x0_ : List Rec) => bif decide (x0_.length ≤ 1048576) then (bif decide (∀ x ∈ x0_, x.path.length ≤ 1048576) then (some (decide ((layerFaultL x0_).2 = 0))) else none) else none)) f_a0 (fun x0_ r h ux0_ w2 k3 hx0_ => by obtain ⟨q0, h⟩ := bif_some h; obtain ⟨q1, h⟩ := bif_some h; have h := Option.some.inj h; subst h; exact FnAt.mk Tryz.call71 (by rfl) fun w4 k5 => impl_LayerOK.calls (w := w4) (a0 := x0_) (GV.ext gv (Ext.trans k3 k5)) (Rd.ext hx0_ k5) (of_decide_eq_true q0) (of_decide_eq_true q1)) rfl (of_decide_eq_true c6) x8) rfl <| fun w9 e10 => L_op (.plain rfl) rfl (ltb rfl) (X_pick (b := true) (v := (.bool z7)) (congrArg Value.bool b0_) rfl) ?_
      obtain rfl := Option.some.inj H
      exact L_nil <| thn_n ⟨(Kp.upd (Kp.upd (Kp.upd (Kp.refl _ _) rfl) rfl) rfl), ⟨_, rfl, rfl⟩, e10⟩
    · refine L_skip rfl rfl (ltb rfl) (congrArg Value.bool b0_) rfl rfl (ltb rfl) <| L_skip rfl rfl (ltb rfl) (congrArg Value.bool b0_) rfl rfl (ltb rfl) <| L_op (.plain rfl) rfl (ltb rfl) (X_pick (b := false) (v := (.bool false)) (congrArg Value.bool b0_) rfl) ?_
      obtain rfl := Option.some.inj H
      exact L_nil <| thn_n ⟨(Kp.upd (Kp.upd (Kp.upd (Kp.refl _ _) rfl) rfl) rfl), ⟨_, rfl, rfl⟩, (Ext.refl w)⟩
  intro s11 w4 z12 K5 hq h6 e7
  rw [hq] at h6; clear hq
  refine L_op (.plain rfl) rfl (ltb rfl) (X_assign (v := (.bool z2)) h6) <| L_nil <| thn_n <| W_ret <| fin_r ?_
  obtain rfl := Option.some.inj H
  exact fin1 rfl e7
theorem impl_StackOK.calls {w : World} {a0 : List (List Rec)} (gv : GV 0 w) {v_a0 : Value} (f_a0 : Rd2 5 encRec w v_a0 a0) (h0 : a0.length ≤ 1048576) (h1 : ∀ l ∈ a0, l.length ≤ 1048576) (h2 : ∀ l ∈ a0, ∀ x ∈ l, x.path.length ≤ 1048576) :
    Calls Tryz.prog 83 #[v_a0] w (Rt (RP w (.bool (stackOK a0)))) := impl_StackOK.walk gv f_a0 (impl_StackOK.eq a0 h0 h1 h2)
/-! laws.eqRecordSS -/
theorem laws_eqRecordSS.walk {k : Nat} {w : World} {a0 : List (List Rec)} {a1 : List (List Rec)} {v_a0 : Value} (f_a0 : Rd2 5 encRec w v_a0 a0) {v_a1 : Value} (f_a1 : Rd2 5 encRec w v_a1 a1) {r : Bool} (H : laws_eqRecordSS.sh k a0 a1 = some r) :
    Calls Tryz.prog 27 #[v_a0, v_a1] w (Rt (RP w (.bool r))) := by
  unfold laws_eqRecordSS.sh at H
  refine calls_of_W Tryz.func27 rfl (Nat.le_of_ble_eq_true rfl) Tryz.ntmps27 rfl ?_
  refine W_seq <| W_reg <| L_op (.plain rfl) rfl (ltb rfl) (X_assign (v := (.bool false)) rfl) <| L_nil <| thn_n <| W_seq <| W_seq <| W_reg <| L_op (.plain rfl) rfl (ltb rfl) (X_move (v := v_a0) rfl) <| L_op (.plain rfl) rfl (ltb rfl) (X_lenR2 Tryz.underlying39 rfl f_a0) <| L_op (.plain rfl) rfl (ltb rfl) (X_move (v := v_a1) rfl) <| L_op (.plain rfl) rfl (ltb rfl) (X_lenR2 Tryz.underlying39 rfl f_a1) <| L_op (.plain rfl) rfl (ltb rfl) (X_neq rfl rfl) <| L_nil <| thn_n ?_
  rcases bif_two H with ⟨q1, H⟩ | ⟨q1, H⟩
  · refine W_true (congrArg Value.bool q1) <| W_seq <| W_reg <| L_op (.plain rfl) rfl (ltb rfl) (X_assign (v := (.bool false)) rfl) <| L_nil <| thn_n <| W_ret <| thn_r <| fin_r ?_
    obtain rfl := Option.some.inj H
    exact fin1 rfl (Ext.refl w)
  · refine W_false (congrArg Value.bool q1) <| W_skip <| thn_n <| W_seq <| W_seq <| W_reg <| L_op (.plain rfl) rfl (ltb rfl) (X_assign (v := (.int .i64 0)) rfl) <| L_nil <| thn_n ?_
    obtain ⟨z3, L4, C5⟩ := bind_some H
    clear H
    refine  W_cutQ (fun s0 sQ wQ => Kp [(4, 6), (11, 27)] s0 sQ ∧ Ext w wQ ∧ z3 = .inr ()) ?_ ?_
    · refine W_block <| W_loopI (fun s0 kk sQ wQ => ∃ (x5_2 : Int), Kp [(4, 6), (11, 27)] s0 sQ ∧ sQ 5 = .int .i64 x5_2 ∧ Ext w wQ ∧ loopF (laws_eqRecordSS.b1 a0 a1) kk x5_2 = some z3) k ⟨0, (Kp.refl _ _), rfl, (Ext.refl w), L4⟩ ?_
      rintro k10 s11 w12 ⟨x5_2, K13, h16, e14, L15⟩
      cases k10 with
      | zero => exact absurd L15 (by simp [loopF])
      | succ k10 =>
        obtain ⟨t17, H, S18⟩ := loopF_succ L15
        clear L15
        unfold laws_eqRecordSS.b1 at H
        refine W_seq <| W_seq <| W_reg <| L_op (.plain rfl) rfl (ltb rfl) (X_move (v := (.int .i64 x5_2)) h16) <| L_op (.plain rfl) rfl (ltb rfl) (X_move (v := v_a0) (K13 0 rfl)) <| L_op (.plain rfl) rfl (ltb rfl) (X_lenR2 Tryz.underlying39 rfl (Rd2.ext f_a0 e14)) <| L_op (.plain rfl) rfl (ltb rfl) (X_lss rfl rfl) <| L_nil <| thn_n ?_
        rcases bif_two H with ⟨q19, H⟩ | ⟨q19, H⟩
        · refine W_true (congrArg Value.bool q19) <| W_skip <| thn_n <| W_seq <| W_block <| W_seq ?_
          obtain ⟨c20, H⟩ := bif_some H
          obtain ⟨c25, H⟩ := bif_some H
          obtain ⟨c30, H⟩ := bif_some H
          refine W_drawM [LEq v_a0, LEq (.int .i64 x5_2), LAt2 5 encRec (gt a0 x5_2), LRd 5 encRec (gt a0 x5_2), LEq v_a1, LEq (.int .i64 x5_2), LAt2 5 encRec (gt a1 x5_2), LRd 5 encRec (gt a1 x5_2), LEq (.bool (decide ((gt a0 x5_2) = (gt a1 x5_2)))), LEq (.bool (!(decide ((gt a0 x5_2) = (gt a1 x5_2)))))] (by kernel_rfl) (by kernel_rfl) ⟨LEq.mono, LEq.mono, LAt2.mono, LRd.mono, LEq.mono, LEq.mono, LAt2.mono, LRd.mono, LEq.mono, LEq.mono, trivial⟩ ⟨?_, ?_, ?_, ?_, ?_, ?_, ?_, ?_, ?_, ?_, trivial⟩ ?_
          · intro s33 w34 e35 hf36 hd37 hu38
            exact L_op (.plain rfl) rfl (ltb rfl) (X_move (v := v_a0) ((hf36 0 rfl).trans (K13 0 rfl))) <| L_nil <| stepEnd rfl rfl (Ext.refl w34) rfl
          · intro s39 w40 e41 hf42 hd43 hu44
            exact L_op (.plain rfl) rfl (ltb rfl) (X_move (v := (.int .i64 x5_2)) ((hf42 5 rfl).trans h16)) <| L_nil <| stepEnd rfl rfl (Ext.refl w40) rfl
          · intro s45 w46 e47 hf48 hd49 hu50
            have d51 : s45 17 = v_a0 := (hd49 0 rfl)
            have d52 : s45 18 = (.int .i64 x5_2) := (hd49 1 rfl)
            have c53 := c20
            exact L_idx2 (.plain rfl) rfl (ltb rfl) rfl Tryz.underlying39 Tryz.sizeOf28 d51 (Rd2.ext f_a0 (Ext.trans e14 e47)) d52 c53 <| fun p54 v56 h55 h57 => L_nil <| stepEnd rfl rfl (Ext.refl w46) ⟨_, _, rfl, h55, h57⟩
          · intro s58 w59 e60 hf61 hd62 hu63
            obtain ⟨p64, v65, h66, h67, h68⟩ := (hd62 2 rfl)
            exact L_op (.plain rfl) rfl (ltb rfl) (X_loadAt Tryz.isAgg28 h66 h67 rfl) <| L_nil <| stepEnd rfl rfl (Ext.refl w59) h68
          · intro s69 w70 e71 hf72 hd73 hu74
            exact L_op (.plain rfl) rfl (ltb rfl) (X_move (v := v_a1) ((hf72 1 rfl).trans (K13 1 rfl))) <| L_nil <| stepEnd rfl rfl (Ext.refl w70) rfl
          · intro s75 w76 e77 hf78 hd79 hu80
            exact L_op (.plain rfl) rfl (ltb rfl) (X_move (v := (.int .i64 x5_2)) ((hf78 5 rfl).trans h16)) <| L_nil <| stepEnd rfl rfl (Ext.refl w76) rfl
          · intro s81 w82 e83 hf84 hd85 hu86
            have d87 : s81 21 = v_a1 := (hd85 4 rfl)
            have d88 : s81 22 = (.int .i64 x5_2) := (hd85 5 rfl)
            have c89 := c25
            exact L_idx2 (.plain rfl) rfl (ltb rfl) rfl Tryz.underlying39 Tryz.sizeOf28 d87 (Rd2.ext f_a1 (Ext.trans e14 e83)) d88 c89 <| fun p90 v92 h91 h93 => L_nil <| stepEnd rfl rfl (Ext.refl w82) ⟨_, _, rfl, h91, h93⟩
          · intro s94 w95 e96 hf97 hd98 hu99
            obtain ⟨p100, v101, h102, h103, h104⟩ := (hd98 6 rfl)
            exact L_op (.plain rfl) rfl (ltb rfl) (X_loadAt Tryz.isAgg28 h102 h103 rfl) <| L_nil <| stepEnd rfl rfl (Ext.refl w95) h104
          · intro s105 w106 e107 hf108 hd109 hu110
            have d111 : Rd 5 encRec w106 (s105 20) (gt a0 x5_2) := (hd109 3 rfl)
            have d112 : Rd 5 encRec w106 (s105 24) (gt a1 x5_2) := (hd109 7 rfl)
            have c113 := c30
            exact L_callP (.plain rfl) rfl (ltb rfl) rfl Tryz.call21 (laws_eqRecordS.calls (w := w106) (a0 := gt a0 x5_2) (a1 := gt a1 x5_2) d111 d112 (of_decide_eq_true c113)) rfl <| fun w114 e115 => L_nil <| stepEnd rfl rfl e115 rfl
          · intro s116 w117 e118 hf119 hd120 hu121
            have d122 : s116 25 = (.bool (decide ((gt a0 x5_2) = (gt a1 x5_2)))) := (hd120 8 rfl)
            exact L_op (.plain rfl) rfl (ltb rfl) (X_not d122) <| L_nil <| stepEnd rfl rfl (Ext.refl w117) rfl
          intro s123 w124 e125 hf126 ha127
          have K128 := Kp.ofD (kp := [(17, 27)]) rfl hf126
          have d129 : s123 26 = (.bool (!(decide ((gt a0 x5_2) = (gt a1 x5_2))))) := ha127 9 rfl
          clear ha127 hf126
          refine thn_n ?_
          rcases bif_two H with ⟨q130, H⟩ | ⟨q130, H⟩
          · refine W_true (d129.trans (congrArg Value.bool q130)) <| W_seq <| W_reg <| L_op (.plain rfl) rfl (ltb rfl) (X_assign (v := (.bool false)) rfl) <| L_nil <| thn_n <| W_ret <| blk_r <| thn_r <| thn_r <| blk_r <| thn_r <| thn_r <| fin_r ?_
            obtain rfl := Option.some.inj H
            obtain rfl := Option.some.inj S18
            have H := C5
            obtain rfl := Option.some.inj H
            exact fin1 rfl (Ext.trans e14 e125)
          · refine W_false (d129.trans (congrArg Value.bool q130)) <| W_skip <| blk_n <| thn_n <| W_reg <| L_op (.plain rfl) rfl (ltb rfl) (X_move (v := (.int .i64 x5_2)) ((K128 5 rfl).trans h16)) <| L_op (.plain rfl) rfl (ltb rfl) (X_add rfl rfl) <| L_op (.plain rfl) rfl (ltb rfl) (X_assign (v := (.int .i64 (IntKind.wrap .i64 (x5_2 + 1)))) rfl) <| L_nil <| thn_n ?_
            obtain rfl := Option.some.inj H
            exact ⟨_, Nat.lt_succ_self _, IntKind.wrap .i64 (x5_2 + 1), (Kp.upd (Kp.upd (Kp.upd (Kp.cut (Kp.upd (Kp.upd (Kp.upd (Kp.upd K13 rfl) rfl) rfl) rfl) K128 rfl) rfl) rfl) rfl), rfl, (Ext.trans e14 e125), S18⟩
        · refine W_false (congrArg Value.bool q19) <| W_exit <| thn_x <| thn_x <| blk_x <| thn_n ?_
          obtain rfl := Option.some.inj H
          obtain rfl := Option.some.inj S18
          exact ⟨(Kp.upd (Kp.upd (Kp.upd (Kp.upd K13 rfl) rfl) rfl) rfl), e14, rfl⟩
    · rintro s7 w6 ⟨K8, e9, y131⟩
      rw [y131] at C5
      have H := C5
      replace H : _ = some _ := H
      refine thn_n <| W_seq <| W_reg <| L_op (.plain rfl) rfl (ltb rfl) (X_assign (v := (.bool true)) rfl) <| L_nil <| thn_n <| W_ret <| fin_r ?_
      obtain rfl := Option.some.inj H
      exact fin1 rfl e9
theorem laws_eqRecordSS.calls {w : World} {a0 : List (List Rec)} {a1 : List (List Rec)} {v_a0 : Value} (f_a0 : Rd2 5 encRec w v_a0 a0) {v_a1 : Value} (f_a1 : Rd2 5 encRec w v_a1 a1) (h0 : a0.length ≤ 1048576) (h1 : ∀ l ∈ a0, l.length ≤ 1048576) :
    Calls Tryz.prog 27 #[v_a0, v_a1] w (Rt (RP w (.bool (decide (a0 = a1))))) := by
  obtain ⟨k, h⟩ := laws_eqRecordSS.eq a0 a1 h0 h1
  exact laws_eqRecordSS.walk f_a0 f_a1 h
/-! laws.markRecordS -/
abbrev laws_markRecordS.e1 (x1_1 : Int) := (IntKind.wrap .i64 ((IntKind.wrap .i64 (x1_1 + 1)) + 1))
theorem laws_markRecordS.walk {k : Nat} {w : World} {a0 : List Rec} {a1 : Int} {v_a0 : Value} {B_a0 : Nat} {T_a0 : Nat} (o_a0 : Ow 78 5 encRec B_a0 w v_a0 a0) (l_a0 : HB v_a0 T_a0) {r : Int × List Rec} (H : laws_markRecordS.sh k a0 a1 = some r) :
    Calls Tryz.prog 33 #[v_a0, .int .i64 a1] w (Rt (RM 78 5 encRec B_a0 T_a0 w (.int .i64 r.1) v_a0 r.2)) := by
  unfold laws_markRecordS.sh at H
  refine calls_of_W Tryz.func33 rfl (Nat.le_of_ble_eq_true rfl) Tryz.ntmps33 rfl ?_
  refine W_seq <| W_reg <| L_op (.plain rfl) rfl (ltb rfl) (X_assign (v := (.int .i64 0)) rfl) <| L_nil <| thn_n <| W_seq <| W_seq <| W_reg <| L_op (.plain rfl) rfl (ltb rfl) (X_assign (v := (.int .i64 0)) rfl) <| L_nil <| thn_n ?_
  obtain ⟨z4, L5, C6⟩ := bind_some H
  clear H
  refine  W_cutQ (fun s0 sQ wQ => ∃ (x1_7 : Int) (y8 : List Rec), Kp [(1, 2), (5, 51)] s0 sQ ∧ sQ 1 = .int .i64 x1_7 ∧ Ow 78 5 encRec B_a0 wQ v_a0 y8 ∧ Gr B_a0 T_a0 w wQ ∧ z4 = .inr (x1_7, y8)) ?_ ?_
  · refine W_block <| W_loopI (fun s0 kk sQ wQ => ∃ (x1_1 : Int) (x5_2 : Int) (y3 : List Rec), Kp [(1, 2), (5, 51)] s0 sQ ∧ sQ 1 = .int .i64 x1_1 ∧ sQ 5 = .int .i64 x5_2 ∧ Ow 78 5 encRec B_a0 wQ v_a0 y3 ∧ Gr B_a0 T_a0 w wQ ∧ loopF (laws_markRecordS.b1) kk (x1_1, x5_2, y3) = some z4) k ⟨a1, 0, a0, (Kp.refl _ _), rfl, rfl, o_a0, (Gr.refl _ _ _), L5⟩ ?_
    rintro k13 s14 w15 ⟨x1_1, x5_2, y3, K16, h19, h20, h21, e17, L18⟩
    cases k13 with
    | zero => exact absurd L18 (by simp [loopF])
    | succ k13 =>
      obtain ⟨t22, H, S23⟩ := loopF_succ L18
      clear L18
      unfold laws_markRecordS.b1 at H
      refine W_seq <| W_seq <| W_reg <| L_op (.plain rfl) rfl (ltb rfl) (X_move (v := (.int .i64 x5_2)) h20) <| L_op (.plain rfl) rfl (ltb rfl) (X_move (v := v_a0) (K16 0 rfl)) <| L_op (.plain rfl) rfl (ltb rfl) (X_lenR Tryz.underlying28 rfl (Ow.rd h21)) <| L_op (.plain rfl) rfl (ltb rfl) (X_lss rfl rfl) <| L_nil <| thn_n ?_
      rcases bif_two H with ⟨q24, H⟩ | ⟨q24, H⟩
      · refine W_true (congrArg Value.bool q24) <| W_skip <| thn_n <| W_seq <| W_block <| W_seq <| W_reg <| L_op (.plain rfl) rfl (ltb rfl) (X_move (v := v_a0) (K16 0 rfl)) <| L_op (.plain rfl) rfl (ltb rfl) (X_move (v := (.int .i64 x5_2)) h20) <| L_op (.plain rfl) rfl (ltb rfl) (X_move (v := (.int .i64 x1_1)) h19) ?_
        obtain ⟨c27, H⟩ := bif_some H
        refine L_idxO (.plain rfl) rfl (ltb rfl) rfl Tryz.underlying28 Tryz.sizeOf78 rfl h21 rfl c27 <| fun p25 h26 => L_op (.plain rfl) rfl (ltb rfl) (X_fieldAddr Tryz.underlying78 rfl Tryz.sizeOf3 rfl rfl) <| L_storeO (a := (⟨x1_1, (gt y3 x5_2).path, (gt y3 x5_2).body, (gt y3 x5_2).mode, (gt y3 x5_2).opq⟩ : Rec)) (vs := [(.int .i64 x1_1)]) (off := 0) (.plain rfl) rfl rfl Tryz.sizeOf3 rfl h26 rfl rfl rfl rfl rfl rfl <| fun b28 w29 h30 h31 h32 o33 => L_nil <| thn_n <| W_seq <| W_reg <| L_op (.plain rfl) rfl (ltb rfl) (X_move (v := (.int .i64 x1_1)) h19) <| L_op (.plain rfl) rfl (ltb rfl) (X_add rfl rfl) <| L_op (.plain rfl) rfl (ltb rfl) (X_assign (v := (.int .i64 (IntKind.wrap .i64 (x1_1 + 1)))) rfl) <| L_nil <| thn_n <| W_seq <| W_reg <| L_op (.plain rfl) rfl (ltb rfl) (X_move (v := v_a0) (K16 0 rfl)) <| L_op (.plain rfl) rfl (ltb rfl) (X_move (v := (.int .i64 x5_2)) h20) <| L_op (.plain rfl) rfl (ltb rfl) (X_move (v := (.int .i64 (IntKind.wrap .i64 (x1_1 + 1)))) rfl) ?_
        obtain ⟨c34, H⟩ := bif_some H
        refine L_callP (.plain rfl) rfl (ltb rfl) rfl Tryz.call81 (laws_markText.calls (w := w29) (a0 := IntKind.wrap .i64 (x1_1 + 1)) (of_decide_eq_true c34)) rfl <| fun w35 e36 => L_idxO (.plain rfl) rfl (ltb rfl) rfl Tryz.underlying28 Tryz.sizeOf78 rfl (Ow.ext o33 e36) rfl (inR_setI c27) <| fun p37 h38 => L_op (.plain rfl) rfl (ltb rfl) (X_fieldAddr Tryz.underlying78 rfl Tryz.sizeOf9 rfl rfl) <| L_storeO2 (a := (⟨x1_1, (markT (IntKind.wrap .i64 (x1_1 + 1))), (gt y3 x5_2).body, (gt y3 x5_2).mode, (gt y3 x5_2).opq⟩ : Rec)) (vs := [(S (markT (IntKind.wrap .i64 (x1_1 + 1))))]) (off := 1) (.plain rfl) rfl rfl Tryz.sizeOf9 rfl c27 h38 rfl rfl rfl rfl rfl rfl <| fun b39 w40 h41 h42 h43 o44 => L_nil <| thn_n <| W_seq <| W_reg <| L_op (.plain rfl) rfl (ltb rfl) (X_move (v := (.int .i64 (IntKind.wrap .i64 (x1_1 + 1)))) rfl) <| L_op (.plain rfl) rfl (ltb rfl) (X_add rfl rfl) <| L_op (.plain rfl) rfl (ltb rfl) (X_assign (v := (.int .i64 (laws_markRecordS.e1 x1_1))) rfl) <| L_nil <| thn_n <| W_seq <| W_reg <| L_op (.plain rfl) rfl (ltb rfl) (X_move (v := v_a0) (K16 0 rfl)) <| L_op (.plain rfl) rfl (ltb rfl) (X_move (v := (.int .i64 x5_2)) h20) <| L_op (.plain rfl) rfl (ltb rfl) (X_move (v := (.int .i64 (laws_markRecordS.e1 x1_1))) rfl) ?_
        obtain ⟨c45, H⟩ := bif_some H
        refine L_callP (.plain rfl) rfl (ltb rfl) rfl Tryz.call81 (laws_markText.calls (w := w40) (a0 := IntKind.wrap .i64 ((IntKind.wrap .i64 (x1_1 + 1)) + 1)) (of_decide_eq_true c45)) rfl <| fun w46 e47 => L_idxO (.plain rfl) rfl (ltb rfl) rfl Tryz.underlying28 Tryz.sizeOf78 rfl (Ow.ext o44 e47) rfl (inR_setI c27) <| fun p48 h49 => L_op (.plain rfl) rfl (ltb rfl) (X_fieldAddr Tryz.underlying78 rfl Tryz.sizeOf9 rfl rfl) <| L_storeO2 (a := (⟨x1_1, (markT (IntKind.wrap .i64 (x1_1 + 1))), (markT (laws_markRecordS.e1 x1_1)), (gt y3 x5_2).mode, (gt y3 x5_2).opq⟩ : Rec)) (vs := [(S (markT (laws_markRecordS.e1 x1_1)))]) (off := 2) (.plain rfl) rfl rfl Tryz.sizeOf9 rfl c27 h49 rfl rfl rfl rfl rfl rfl <| fun b50 w51 h52 h53 h54 o55 => L_nil <| thn_n <| W_seq <| W_reg <| L_op (.plain rfl) rfl (ltb rfl) (X_move (v := (.int .i64 (laws_markRecordS.e1 x1_1))) rfl) <| L_op (.plain rfl) rfl (ltb rfl) (X_add rfl rfl) <| L_op (.plain rfl) rfl (ltb rfl) (X_assign rfl) <| L_nil <| thn_n <| W_seq <| W_reg <| L_op (.plain rfl) rfl (ltb rfl) (X_move (v := v_a0) (K16 0 rfl)) <| L_op (.plain rfl) rfl (ltb rfl) (X_move (v := (.int .i64 x5_2)) h20) <| L_op (.plain rfl) rfl (ltb rfl) (X_move rfl) <| L_idxO (.plain rfl) rfl (ltb rfl) rfl Tryz.underlying28 Tryz.sizeOf78 rfl o55 rfl (inR_setI c27) <| fun p56 h57 => L_op (.plain rfl) rfl (ltb rfl) (X_fieldAddr Tryz.underlying78 rfl Tryz.sizeOf3 rfl rfl) <| L_storeO2 (a := (⟨x1_1, (markT (IntKind.wrap .i64 (x1_1 + 1))), (markT (laws_markRecordS.e1 x1_1)), IntKind.wrap .i64 ((laws_markRecordS.e1 x1_1) + 1), (gt y3 x5_2).opq⟩ : Rec)) (vs := [(.int .i64 (IntKind.wrap .i64 ((laws_markRecordS.e1 x1_1) + 1)))]) (off := 3) (.plain rfl) rfl rfl Tryz.sizeOf3 rfl c27 h57 rfl rfl rfl rfl rfl rfl <| fun b58 w59 h60 h61 h62 o63 => L_nil <| thn_n <| W_seq <| W_reg <| L_op (.plain rfl) rfl (ltb rfl) (X_move rfl) <| L_op (.plain rfl) rfl (ltb rfl) (X_add rfl rfl) <| L_op (.plain rfl) rfl (ltb rfl) (X_assign rfl) <| L_nil <| thn_n <| W_seq <| W_reg <| L_op (.plain rfl) rfl (ltb rfl) (X_move (v := v_a0) (K16 0 rfl)) <| L_op (.plain rfl) rfl (ltb rfl) (X_move (v := (.int .i64 x5_2)) h20) <| L_op (.plain rfl) rfl (ltb rfl) (X_move rfl) <| L_op (.plain rfl) rfl (ltb rfl) (X_rem rfl rfl (by decide)) <| L_op (.plain rfl) rfl (ltb rfl) (X_eql rfl rfl) <| L_idxO (.plain rfl) rfl (ltb rfl) rfl Tryz.underlying28 Tryz.sizeOf78 rfl o63 rfl (inR_setI c27) <| fun p64 h65 => L_op (.plain rfl) rfl (ltb rfl) (X_fieldAddr Tryz.underlying78 rfl Tryz.sizeOf4 rfl rfl) <| L_storeO2 (a := (⟨x1_1, (markT (IntKind.wrap .i64 (x1_1 + 1))), (markT (laws_markRecordS.e1 x1_1)), IntKind.wrap .i64 ((laws_markRecordS.e1 x1_1) + 1), (decide (((IntKind.wrap .i64 ((IntKind.wrap .i64 ((laws_markRecordS.e1 x1_1) + 1)) + 1)).tmod 3) = 0))⟩ : Rec)) (vs := [(.bool (decide (((IntKind.wrap .i64 ((IntKind.wrap .i64 ((laws_markRecordS.e1 x1_1) + 1)) + 1)).tmod 3) = 0)))]) (off := 4) (.plain rfl) rfl rfl Tryz.sizeOf4 rfl c27 h65 rfl rfl rfl rfl rfl rfl <| fun b66 w67 h68 h69 h70 o71 => L_nil <| thn_n <| W_reg <| L_op (.plain rfl) rfl (ltb rfl) (X_move rfl) <| L_op (.plain rfl) rfl (ltb rfl) (X_add rfl rfl) <| L_op (.plain rfl) rfl (ltb rfl) (X_assign rfl) <| L_nil <| blk_n <| thn_n <| W_reg <| L_op (.plain rfl) rfl (ltb rfl) (X_move (v := (.int .i64 x5_2)) h20) <| L_op (.plain rfl) rfl (ltb rfl) (X_add rfl rfl) <| L_op (.plain rfl) rfl (ltb rfl) (X_assign (v := (.int .i64 (IntKind.wrap .i64 (x5_2 + 1)))) rfl) <| L_nil <| thn_n ?_
        obtain rfl := Option.some.inj H
        exact ⟨_, Nat.lt_succ_self _, IntKind.wrap .i64 ((IntKind.wrap .i64 ((IntKind.wrap .i64 ((laws_markRecordS.e1 x1_1) + 1)) + 1)) + 1), IntKind.wrap .i64 (x5_2 + 1), setI y3 x5_2 (⟨x1_1, (markT (IntKind.wrap .i64 (x1_1 + 1))), (markT (laws_markRecordS.e1 x1_1)), IntKind.wrap .i64 ((laws_markRecordS.e1 x1_1) + 1), (decide (((IntKind.wrap .i64 ((IntKind.wrap .i64 ((laws_markRecordS.e1 x1_1) + 1)) + 1)).tmod 3) = 0))⟩ : Rec), (Kp.upd (Kp.upd (Kp.upd (Kp.upd (Kp.upd (Kp.upd (Kp.upd (Kp.upd (Kp.upd (Kp.upd (Kp.upd (Kp.upd (Kp.upd (Kp.upd (Kp.upd (Kp.upd (Kp.upd (Kp.upd (Kp.upd (Kp.upd (Kp.upd (Kp.upd (Kp.upd (Kp.upd (Kp.upd (Kp.upd (Kp.upd (Kp.upd (Kp.upd (Kp.upd (Kp.upd (Kp.upd (Kp.upd (Kp.upd (Kp.upd (Kp.upd (Kp.upd (Kp.upd (Kp.upd (Kp.upd (Kp.upd (Kp.upd (Kp.upd (Kp.upd (Kp.upd (Kp.upd (Kp.upd (Kp.upd (Kp.upd (Kp.upd (Kp.upd K16 rfl) rfl) rfl) rfl) rfl) rfl) rfl) rfl) rfl) rfl) rfl) rfl) rfl) rfl) rfl) rfl) rfl) rfl) rfl) rfl) rfl) rfl) rfl) rfl) rfl) rfl) rfl) rfl) rfl) rfl) rfl) rfl) rfl) rfl) rfl) rfl) rfl) rfl) rfl) rfl) rfl) rfl) rfl) rfl) rfl) rfl) rfl) rfl) rfl) rfl) rfl), rfl, rfl, o71, (Gr.trans (Gr.trans (Gr.trans (Gr.trans (Gr.trans (Gr.trans (Gr.trans e17 (Gr.wr h32 h31 (HB.own l_a0 h30 (OP.own0 h26) (inR_pos c27)))) (Gr.ext e36)) (Gr.wr h43 h42 (HB.own l_a0 h41 (OP.own0 h38) (inR_pos (inR_setI c27))))) (Gr.ext e47)) (Gr.wr h54 h53 (HB.own l_a0 h52 (OP.own0 h49) (inR_pos (inR_setI c27))))) (Gr.wr h62 h61 (HB.own l_a0 h60 (OP.own0 h57) (inR_pos (inR_setI c27))))) (Gr.wr h70 h69 (HB.own l_a0 h68 (OP.own0 h65) (inR_pos (inR_setI c27))))), S23⟩
      · refine W_false (congrArg Value.bool q24) <| W_exit <| thn_x <| thn_x <| blk_x <| thn_n ?_
        obtain rfl := Option.some.inj H
        obtain rfl := Option.some.inj S23
        exact ⟨x1_1, y3, (Kp.upd (Kp.upd (Kp.upd (Kp.upd K16 rfl) rfl) rfl) rfl), h19, h21, e17, rfl⟩
  · rintro s10 w9 ⟨x1_7, y8, K11, h72, h73, e12, y74⟩
    rw [y74] at C6
    have H := C6
    replace H : _ = some _ := H
    refine thn_n <| W_seq <| W_reg <| L_op (.plain rfl) rfl (ltb rfl) (X_move (v := (.int .i64 x1_7)) h72) <| L_op (.plain rfl) rfl (ltb rfl) (X_assign (v := (.int .i64 x1_7)) rfl) <| L_nil <| thn_n <| W_ret <| fin_r ?_
    obtain rfl := Option.some.inj H
    exact fin1m rfl e12 h73
theorem laws_markRecordS.calls {w : World} {a0 : List Rec} {a1 : Int} {v_a0 : Value} {B_a0 : Nat} {T_a0 : Nat} (o_a0 : Ow 78 5 encRec B_a0 w v_a0 a0) (l_a0 : HB v_a0 T_a0) (h0 : a0.length ≤ 576460752303423488) (h1 : (0 : Int) ≤ a1) (h2 : (a1 : Int) ≤ 4611686018427387904 - 5 * (a0.length : Int)) :
    Calls Tryz.prog 33 #[v_a0, .int .i64 a1] w (Rt (RM 78 5 encRec B_a0 T_a0 w (.int .i64 (a1 + 5 * (a0.length : Int))) v_a0 (marksR a0.length a1))) := by
  obtain ⟨k, h⟩ := laws_markRecordS.eq a0 a1 h0 h1 h2
  exact laws_markRecordS.walk o_a0 l_a0 h
/-! impl.isLongList(()impl.Record) -/
theorem impl_isLongListSS.walk {w : World} {a0 : List (List Rec)} {v_a0 : Value} (f_a0 : Rd2 5 encRec w v_a0 a0) {r : Bool} (H : impl_isLongListSS.sh a0 = some r) :
    Calls Tryz.prog 82 #[v_a0] w (Rt (RP w (.bool r))) := by
  unfold impl_isLongListSS.sh at H
  refine calls_of_W Tryz.func82 rfl (Nat.le_of_ble_eq_true rfl) Tryz.ntmps82 rfl ?_
  refine W_seq <| W_reg <| L_op (.plain rfl) rfl (ltb rfl) (X_assign (v := (.bool false)) rfl) <| L_nil <| thn_n <| W_seq <| W_reg <| L_op (.plain rfl) rfl (ltb rfl) (X_move (v := v_a0) rfl) <| L_op (.plain rfl) rfl (ltb rfl) (X_lenR2 Tryz.underlying39 rfl f_a0) <| L_op (.plain rfl) rfl (ltb rfl) (X_gtr rfl rfl) <| L_op (.plain rfl) rfl (ltb rfl) (X_assign (v := (.bool (decide (4096 < (a0.length : Int))))) rfl) <| L_nil <| thn_n <| W_ret <| fin_r ?_
  obtain rfl := Option.some.inj H
  exact fin1 rfl (Ext.refl w)
theorem impl_isLongListSS.calls {w : World} {a0 : List (List Rec)} {v_a0 : Value} (f_a0 : Rd2 5 encRec w v_a0 a0) :
    Calls Tryz.prog 82 #[v_a0] w (Rt (RP w (.bool (decide (4096 < a0.length))))) := impl_isLongListSS.walk f_a0 (impl_isLongListSS.eq a0)
/-! impl.stackCode -/
theorem impl_stackCode.walk {w : World} {a0 : List (List Rec)} (gv : GV 0 w) {v_a0 : Value} (f_a0 : Rd2 5 encRec w v_a0 a0) {r : Int} (H : impl_stackCode.sh a0 = some r) :
    Calls Tryz.prog 79 #[v_a0] w (Rt (RP w (.int .i64 r))) := by
  unfold impl_stackCode.sh at H
  refine calls_of_W Tryz.func79 rfl (Nat.le_of_ble_eq_true rfl) Tryz.ntmps79 rfl ?_
  refine W_seq <| W_reg <| L_op (.plain rfl) rfl (ltb rfl) (X_assign (v := (.int .i64 0)) rfl) <| L_nil <| thn_n <| W_seq <| W_reg <| L_op (.plain rfl) rfl (ltb rfl) (X_move (v := v_a0) rfl) <| L_callP (.plain rfl) rfl (ltb rfl) rfl Tryz.call82 (impl_isLongListSS.calls (w := w) (a0 := a0) f_a0) rfl <| fun w1 e2 => L_op (.plain rfl) rfl (ltb rfl) (X_mkiface Tryz.underlying4 rfl rfl) <| L_op (.plain rfl) rfl (ltb rfl) (X_mkiface Tryz.underlying3 rfl rfl) <| L_op (.plain rfl) rfl (ltb rfl) (X_move (v := v_a0) rfl) ?_
  obtain ⟨c3, H⟩ := bif_some H
  obtain ⟨c4, H⟩ := bif_some H
  obtain ⟨c5, H⟩ := bif_some H
  refine L_callP (.plain rfl) rfl (ltb rfl) rfl Tryz.call83 (impl_StackOK.calls (w := w1) (a0 := a0) (GV.ext gv e2) (Rd2.ext f_a0 e2) (of_decide_eq_true c3) (of_decide_eq_true c4) (of_decide_eq_true c5)) rfl <| fun w6 e7 => L_op (.plain rfl) rfl (ltb rfl) (X_not rfl) <| L_op (.plain rfl) rfl (ltb rfl) (X_mkiface Tryz.underlying4 rfl rfl) <| L_op (.plain rfl) rfl (ltb rfl) (X_mkiface Tryz.underlying3 rfl rfl) <| L_lit (.plain rfl) rfl (ltb rfl) rfl Tryz.underlying119 Tryz.sizeOf20 Tryz.zeroValue20 rfl rfl rfl (vs := [(.iface 4 (.bool (decide (4096 < a0.length)))), (.iface 3 (.int .i64 2)), (.iface 4 (.bool (!(stackOK a0)))), (.iface 3 (.int .i64 1))]) rfl (lit_all rfl) <| fun b8 w9 z10 z11 e12 k13 => ?_
  obtain ⟨c14, H⟩ := bif_some H
  obtain ⟨z17, x18, H⟩ := bind_some H
  replace x18 := Option.some.inj x18
  refine L_callP (.plain rfl) rfl (ltb rfl) rfl Tryz.call68 (impl_first.calls (w := w9) (a0 := ([.inl (decide (4096 < a0.length)), .inr 2, .inl (!(stackOK a0)), .inr 1] : List (Bool ⊕ Int))) (Ow.rd (Ow.new (xs := [.inl (decide (4096 < a0.length)), .inr 2, .inl (!(stackOK a0)), .inr 1]) (sz := 1) (enc := (encAny 4 3)) (base := w6.heap.size) k13 (Nat.le_of_eq z10) rfl (fun _ _ => by first | rfl | exact encAny_len _ _ _) (Nat.le_of_ble_eq_true rfl))) (of_decide_eq_true c14)) rfl <| fun w15 e16 => L_op (.plain rfl) rfl (ltb rfl) (X_assign (v := (.int .i64 z17)) (congrArg (Value.int .i64) x18)) <| L_nil <| thn_n <| W_ret <| fin_r ?_
  obtain rfl := Option.some.inj H
  exact fin1 rfl (Ext.trans (Ext.trans (Ext.trans e2 e7) e12) e16)
theorem impl_stackCode.calls {w : World} {a0 : List (List Rec)} (gv : GV 0 w) {v_a0 : Value} (f_a0 : Rd2 5 encRec w v_a0 a0) (h0 : a0.length ≤ 1048576) (h1 : ∀ l ∈ a0, l.length ≤ 1048576) (h2 : ∀ l ∈ a0, ∀ x ∈ l, x.path.length ≤ 1048576) :
    Calls Tryz.prog 79 #[v_a0] w (Rt (RP w (.int .i64 (stackCode a0)))) := impl_stackCode.walk gv f_a0 (impl_stackCode.eq a0 h0 h1 h2)
/-! impl.paths -/
theorem impl_paths.walk {k : Nat} {w : World} {a0 : List (List Rec)} (gv : GV 0 w) {v_a0 : Value} (f_a0 : Rd2 5 encRec w v_a0 a0) {r : List (List UInt8)} (H : impl_paths.sh k a0 = some r) :
    Calls Tryz.prog 85 #[v_a0] w (Rt (RO 9 1 encS w r)) := by
  unfold impl_paths.sh at H
  refine calls_of_W Tryz.func85 rfl (Nat.le_of_ble_eq_true rfl) Tryz.ntmps85 rfl ?_
  refine W_seq <| W_reg <| L_op (.plain rfl) rfl (ltb rfl) (X_assign (v := (.slice none 0 0)) rfl) <| L_nil <| thn_n <| W_seq <| W_reg <| L_lit (.plain rfl) rfl (ltb rfl) rfl Tryz.underlying49 Tryz.sizeOf9 Tryz.zeroValue9 rfl rfl rfl (vs := []) rfl (lit_all rfl) <| fun b1 w2 z3 z4 e5 k6 => L_op (.plain rfl) rfl (ltb rfl) (X_assign (v := (.slice (some ⟨b1, 0, none⟩) 0 0)) rfl) <| L_nil <| thn_n <| W_seq <| W_seq <| W_reg <| L_op (.plain rfl) rfl (ltb rfl) (X_move (v := v_a0) rfl) <| L_op (.plain rfl) rfl (ltb rfl) (X_lenR2 Tryz.underlying39 rfl (Rd2.ext f_a0 e5)) <| L_op (.plain rfl) rfl (ltb rfl) (X_move (v := (.int .i64 0)) rfl) <| L_nil <| thn_n ?_
  obtain ⟨z10, L11, C12⟩ := bind_some H
  clear H
  refine  W_cutQ (fun s0 sQ wQ => ∃ (x3_13 : List (List UInt8)) (v14 : Value), Kp [(3, 4), (5, 6), (7, 8), (11, 28)] s0 sQ ∧ sQ 3 = v14 ∧ Ow 9 1 encS w2.heap.size wQ v14 x3_13 ∧ Ext w2 wQ ∧ z10 = .inr x3_13) ?_ ?_
  · refine W_block <| W_loopI (fun s0 kk sQ wQ => ∃ (x3_7 : List (List UInt8)) (v8 : Value) (x11_9 : Int), Kp [(3, 4), (5, 6), (7, 8), (11, 28)] s0 sQ ∧ sQ 3 = v8 ∧ Ow 9 1 encS w2.heap.size wQ v8 x3_7 ∧ sQ 11 = .int .i64 x11_9 ∧ Ext w2 wQ ∧ loopF (impl_paths.b1 k a0) kk (x3_7, x11_9) = some z10) k ⟨([] : List (List UInt8)), (.slice (some ⟨b1, 0, none⟩) 0 0), 0, (Kp.refl _ _), rfl, (Ow.zero), rfl, (Ext.refl w2), L11⟩ ?_
    rintro k19 s20 w21 ⟨x3_7, v8, x11_9, K22, h25, h26, h27, e23, L24⟩
    cases k19 with
    | zero => exact absurd L24 (by simp [loopF])
    | succ k19 =>
      obtain ⟨t28, H, S29⟩ := loopF_succ L24
      clear L24
      unfold impl_paths.b1 at H
      refine W_seq <| W_reg <| L_op (.plain rfl) rfl (ltb rfl) (X_lss h27 (K22 10 rfl)) <| L_nil <| thn_n <| W_seq ?_
      rcases bif_two H with ⟨q30, H⟩ | ⟨q30, H⟩
      · refine W_true (congrArg Value.bool q30) <| W_skip <| thn_n <| W_seq <| W_block <| W_seq <| W_reg ?_
        obtain ⟨c31, H⟩ := bif_some H
        refine L_idx2o (.plain rfl) rfl (ltb rfl) rfl Tryz.underlying39 Tryz.sizeOf28 (K22 9 rfl) f_a0 (Ext.trans e5 e23) h27 c31 <| fun p32 v34 h33 h35 => L_op (.plain rfl) rfl (ltb rfl) (X_loadAt Tryz.isAgg28 rfl h33 rfl) <| L_op (.plain rfl) rfl (ltb rfl) (X_assign (v := v34) rfl) <| L_nil <| thn_n <| W_seq <| W_reg <| L_op (.plain rfl) rfl (ltb rfl) (X_move (v := v34) rfl) <| L_op (.plain rfl) rfl (ltb rfl) (X_lenR Tryz.underlying28 rfl (Rd.ext h35 (Ext.trans e5 e23))) <| L_op (.plain rfl) rfl (ltb rfl) (X_move (v := (.int .i64 0)) rfl) <| L_nil <| thn_n ?_
        obtain ⟨z39, L40, C41⟩ := bind_some H
        clear H
        refine  W_cutQ (fun s0 sQ wQ => ∃ (x3_42 : List (List UInt8)) (v43 : Value), Kp [(3, 4), (7, 8), (17, 27)] s0 sQ ∧ sQ 3 = v43 ∧ Ow 9 1 encS w2.heap.size wQ v43 x3_42 ∧ Ext w2 wQ ∧ z39 = .inr x3_42) ?_ ?_
        · refine W_block <| W_loopI (fun s0 kk sQ wQ => ∃ (x3_36 : List (List UInt8)) (v37 : Value) (x17_38 : Int), Kp [(3, 4), (7, 8), (17, 27)] s0 sQ ∧ sQ 3 = v37 ∧ Ow 9 1 encS w2.heap.size wQ v37 x3_36 ∧ sQ 17 = .int .i64 x17_38 ∧ Ext w2 wQ ∧ loopF (impl_paths.b2 a0 x11_9) kk (x3_36, x17_38) = some z39) k ⟨x3_7, v8, 0, (Kp.refl _ _), h25, h26, rfl, e23, L40⟩ ?_
          rintro k48 s49 w50 ⟨x3_36, v37, x17_38, K51, h54, h55, h56, e52, L53⟩
          cases k48 with
          | zero => exact absurd L53 (by simp [loopF])
          | succ k48 =>
            obtain ⟨t57, H, S58⟩ := loopF_succ L53
            clear L53
            unfold impl_paths.b2 at H
            refine W_seq <| W_reg <| L_op (.plain rfl) rfl (ltb rfl) (X_lss h56 (K51 16 rfl)) <| L_nil <| thn_n <| W_seq ?_
            rcases bif_two H with ⟨q59, H⟩ | ⟨q59, H⟩
            · refine W_true (congrArg Value.bool q59) <| W_skip <| thn_n <| W_seq <| W_block <| W_seq <| W_reg ?_
              obtain ⟨c60, H⟩ := bif_some H
              refine L_idx (.plain rfl) rfl (ltb rfl) rfl Tryz.underlying28 Tryz.sizeOf78 (K51 15 rfl) (Rd.ext h35 (Ext.trans e5 e52)) h56 c60 <| fun p61 h62 => L_op (.plain rfl) rfl (ltb rfl) (X_loadS Tryz.isAgg78 Tryz.sizeOf78 rfl rfl h62) <| L_alloc (.plain rfl) rfl (ltb rfl) rfl Tryz.zeroValue78 <| fun b63 w64 z65 z66 e67 k68 => L_storeA (.plain rfl) rfl rfl Tryz.sizeOf78 rfl rfl rfl rfl rfl k68 <| fun w69 h70 k71 => L_nil <| thn_n <| W_reg <| L_op (.plain rfl) rfl (ltb rfl) (X_move (v := v37) h54) <| L_op (.plain rfl) rfl (ltb rfl) (X_fieldAddr Tryz.underlying78 rfl Tryz.sizeOf9 rfl rfl) <| L_op (.plain rfl) rfl (ltb rfl) (X_loadB Tryz.isAgg9 k71 rfl rfl) <| L_lit (.plain rfl) rfl (ltb rfl) rfl Tryz.underlying49 Tryz.sizeOf9 Tryz.zeroValue9 rfl rfl rfl (vs := [(S ((gt (gt a0 x11_9) x17_38).path))]) rfl (lit_all rfl) <| fun b72 w73 z74 z75 e76 k77 => ?_
              obtain ⟨c78, H⟩ := bif_some H
              refine L_append (enc := encS) (.plain rfl) rfl (ltb rfl) rfl El.t49 rfl rfl (Ow.ext h55 (Ext.trans (Below.trans e67 (Wr.below h70 (Nat.le_of_eq z65))) e76)) (Ow.rd (Ow.new (xs := [(gt (gt a0 x11_9) x17_38).path]) (sz := 1) (enc := encS) (base := w69.heap.size) k77 (Nat.le_of_eq z74) rfl (fun _ _ => by rfl) (Nat.le_of_ble_eq_true rfl))) (ones_S _) (of_decide_eq_true c78) ((Ext.trans (Ext.trans e52 (Below.trans e67 (Wr.below h70 (Nat.le_of_eq z65)))) e76)).size <| fun v79 w80 o81 z82 g83 => L_op (.plain rfl) rfl (ltb rfl) (X_assign (v := v79) rfl) <| L_nil <| blk_n <| thn_n <| W_reg <| L_op (.plain rfl) rfl (ltb rfl) (X_add h56 rfl) <| L_op (.plain rfl) rfl (ltb rfl) (X_move (v := (.int .i64 (IntKind.wrap .i64 (x17_38 + 1)))) rfl) <| L_nil <| thn_n ?_
              obtain rfl := Option.some.inj H
              exact ⟨_, Nat.lt_succ_self _, x3_36 ++ ([(gt (gt a0 x11_9) x17_38).path] : List (List UInt8)), v79, IntKind.wrap .i64 (x17_38 + 1), (Kp.upd (Kp.upd (Kp.upd (Kp.upd (Kp.upd (Kp.upd (Kp.upd (Kp.upd (Kp.upd (Kp.upd (Kp.upd (Kp.upd K51 rfl) rfl) rfl) rfl) rfl) rfl) rfl) rfl) rfl) rfl) rfl) rfl), rfl, o81, rfl, (g83 _ (Ext.trans (Ext.trans e52 (Below.trans e67 (Wr.below h70 (Nat.le_of_eq z65)))) e76)), S58⟩
            · refine W_false (congrArg Value.bool q59) <| W_exit <| thn_x <| thn_x <| blk_x <| thn_n ?_
              obtain rfl := Option.some.inj H
              obtain rfl := Option.some.inj S58
              exact ⟨x3_36, v37, (Kp.upd K51 rfl), h54, h55, e52, rfl⟩
        · rintro s45 w44 ⟨x3_42, v43, K46, h84, h85, e47, y86⟩
          rw [y86] at C41
          have H := C41
          replace H : _ = some _ := H
          refine blk_n <| thn_n <| W_reg <| L_op (.plain rfl) rfl (ltb rfl) (X_add ((K46 11 rfl).trans h27) rfl) <| L_op (.plain rfl) rfl (ltb rfl) (X_move (v := (.int .i64 (IntKind.wrap .i64 (x11_9 + 1)))) rfl) <| L_nil <| thn_n ?_
          obtain rfl := Option.some.inj H
          exact ⟨_, Nat.lt_succ_self _, x3_42, v43, IntKind.wrap .i64 (x11_9 + 1), (Kp.upd (Kp.upd (Kp.cut (Kp.upd (Kp.upd (Kp.upd (Kp.upd (Kp.upd (Kp.upd (Kp.upd K22 rfl) rfl) rfl) rfl) rfl) rfl) rfl) K46 rfl) rfl) rfl), h84, h85, rfl, e47, S29⟩
      · refine W_false (congrArg Value.bool q30) <| W_exit <| thn_x <| thn_x <| blk_x <| thn_n ?_
        obtain rfl := Option.some.inj H
        obtain rfl := Option.some.inj S29
        exact ⟨x3_7, v8, (Kp.upd K22 rfl), h25, h26, e23, rfl⟩
  · rintro s16 w15 ⟨x3_13, v14, K17, h87, h88, e18, y89⟩
    rw [y89] at C12
    have H := C12
    replace H : _ = some _ := H
    refine thn_n <| W_seq <| W_reg <| L_op (.plain rfl) rfl (ltb rfl) (X_move (v := v14) h87) ?_
    obtain ⟨c90, H⟩ := bif_some H
    obtain ⟨c91, H⟩ := bif_some H
    refine L_callA (.plain rfl) rfl (ltb rfl) rfl Tryz.call127 (slices_SortFuncS.calls (w := w15) h88 (GV.ext gv (Ext.trans e5 e18)) (GV.pos (GV.ext gv e5)) (of_decide_eq_true c90) (of_decide_eq_true c91)) rfl <| fun _ w92 A93 => ?_
    obtain ⟨rfl, B94, ys95, p96, q97, o98⟩ := A93
    refine L_nil <| thn_n <| W_seq <| W_reg <| L_op (.plain rfl) rfl (ltb rfl) (X_move (v := v14) h87) <| L_callA (.plain rfl) rfl (ltb rfl) rfl Tryz.call129 (slices_CompactS.calls (w := w92) o98 p96 q97) rfl <| fun v103 w99 A100 => ?_
    obtain ⟨B101, o102⟩ := A100
    refine L_op (.plain rfl) rfl (ltb rfl) (X_assign (v := v103) rfl) <| L_nil <| thn_n <| W_ret <| fin_r ?_
    obtain rfl := Option.some.inj H
    exact fin1o rfl (Ext.trans e5 (B101 _ (B94 _ e18))) o102 (e5).size
theorem impl_paths.calls {w : World} {a0 : List (List Rec)} (gv : GV 0 w) {v_a0 : Value} (f_a0 : Rd2 5 encRec w v_a0 a0) (h0 : a0.length ≤ 5) (h1 : ∀ l ∈ a0, l.length ≤ 1048576) (h2 : ∀ l ∈ a0, ∀ x ∈ l, x.path.length ≤ 1048576) :
    Calls Tryz.prog 85 #[v_a0] w (Rt (RO 9 1 encS w (pathsL a0))) := by
  obtain ⟨k, h⟩ := impl_paths.eq a0 h0 h1 h2
  exact impl_paths.walk gv f_a0 h
/-! laws.markRecordSS, by text -/
theorem laws_markRecordSS.calls {w : World} {a0 : List (List Rec)} {a1 : Int} {v_a0 : Value} {B T : Nat} (o_a0 : Own2 28 78 5 encRec B w v_a0 a0) (l_a0 : HB2 w v_a0 T) (h0 : a0.length ≤ 1048576) (h1 : ∀ l ∈ a0, l.length ≤ 1048576) (h2 : (0 : Int) ≤ a1) (h3 : (a1 : Int) ≤ 4611686018427387904 - 5 * (totL a0 : Int)) :
    Calls Tryz.prog 28 #[v_a0, .int .i64 a1] w (Rt (RM2 28 78 5 encRec B T w (.int .i64 (a1 + 5 * (totL a0 : Int))) v_a0 (marksSS a0 a1))) := by
  refine calls_of_W Tryz.func28 rfl (Nat.le_of_ble_eq_true rfl) Tryz.ntmps28 rfl ?_
  refine W_seq <| W_reg <| L_op (.plain rfl) rfl (ltb rfl) (X_assign (v := (.int .i64 0)) rfl) <| L_nil <| thn_n <| W_seq <| W_seq <| W_reg <| L_op (.plain rfl) rfl (ltb rfl) (X_assign (v := (.int .i64 0)) rfl) <| L_nil <| thn_n ?_
  refine W_cutQ (fun s0 σ W => σ 1 = .int .i64 (a1 + 5 * (totL a0 : Int)) ∧ Gr B T w W ∧ Own2 28 78 5 encRec B W v_a0 (marksSS a0 a1)) ?_ ?_
  · refine W_block <| W_loopI (fun s0 m σ W => ∃ (D R : List (List Rec)) (k : Int), m = R.length ∧ σ 0 = v_a0 ∧ σ 5 = .int .i64 (D.length : Int) ∧ σ 1 = .int .i64 k ∧ D.length + R.length = a0.length ∧ Gr B T w W ∧ Own2 28 78 5 encRec B W v_a0 (D ++ R) ∧ HB2 W v_a0 T ∧ (∀ l ∈ R, l.length ≤ 1048576) ∧ 0 ≤ k ∧ k + 5 * (totL R : Int) = a1 + 5 * (totL a0 : Int) ∧ D ++ marksSS R k = marksSS a0 a1) a0.length
      ⟨[], a0, a1, rfl, rfl, rfl, rfl, by simp, Gr.refl _ _ _, o_a0, l_a0, h1, h2, rfl, rfl⟩ ?_
    rintro m s1 W1 ⟨D, R, k, rfl, q0, q5, q1, hl, hg, hO, hH, hR, hk0, hk, hf⟩
    refine W_seq <| W_seq <| W_reg <| L_op (.plain rfl) rfl (ltb rfl) (X_move q5) <| L_op (.plain rfl) rfl (ltb rfl) (X_move q0) <| L_op (.plain rfl) rfl (ltb rfl) (X_lenR2 Tryz.underlying39 rfl hO.rd) <| L_op (.plain rfl) rfl (ltb rfl) (X_lss rfl rfl) <| L_nil <| thn_n ?_
    cases R with
    | nil =>
      refine W_false (congrArg Value.bool (decide_eq_false (by simp))) <| W_exit <| thn_x <| thn_x <| blk_x <| thn_n ?_
      have hkk : k = a1 + 5 * (totL a0 : Int) := by simpa [totL] using hk
      refine ⟨by rw [← hkk]; exact q1, hg, ?_⟩
      rw [← hf]
      exact hO
    | cons l R =>
      obtain ⟨vs, u, lo, hi, hv, hvl, hu, ho, hh, hsub, hback⟩ := hO.inner hH
      have hlt : D.length < vs.length := by rw [hvl]; simp
      haveI : Inhabited Value := ⟨undef⟩
      have hgu : gt vs (D.length : Int) = u := by
        rw [getD_gt, getD_el hlt]
        rw [List.getElem?_eq_getElem hlt] at hu
        exact Option.some.inj hu
      have htot : totL (l :: R) = l.length + totL R := by simp [totL]
      rw [htot] at hk
      have hll := hR l (by simp)
      refine W_true (congrArg Value.bool (decide_eq_true (by simp; omega))) <| W_skip <| thn_n <| W_seq <| W_block <| W_reg <| L_op (.plain rfl) rfl (ltb rfl) (X_move q0) <| L_op (.plain rfl) rfl (ltb rfl) (X_move q5) <|
        L_idx (xs := vs) (.plain rfl) rfl (ltb rfl) rfl Tryz.underlying39 Tryz.sizeOf28 rfl hv rfl (inR_nat hlt) <| fun p hA => ?_
      rw [hgu] at hA
      refine L_op (.plain rfl) rfl (ltb rfl) (X_loadAt (v := u) Tryz.isAgg28 rfl hA rfl) <| L_op (.plain rfl) rfl (ltb rfl) (X_move q1) <|
        L_callM (.plain rfl) rfl (ltb rfl) rfl Tryz.call33 (laws_markRecordS.calls (w := W1) (a0 := l) (a1 := k) ho hh (by omega) hk0 (by omega)) rfl <| fun W2 g2 o2 => L_op (.plain rfl) rfl (ltb rfl) (X_assign (v := .int .i64 (k + 5 * (l.length : Int))) rfl) <| L_nil <| blk_n <| thn_n ?_
      obtain ⟨hO2, hH2⟩ := hback W2 (marksR l.length k) g2 o2
      have hw : IntKind.wrap .i64 ((D.length : Int) + 1) = (((D ++ [marksR l.length k]).length : Nat) : Int) := by simp only [List.length_append, List.length_cons, List.length_nil]; rw [Int.natCast_add]; exact Go.UL.wrap_small (by omega) (by simp at hl; omega)
      refine W_reg <| L_op (.plain rfl) rfl (ltb rfl) (X_move q5) <| L_op (.plain rfl) rfl (ltb rfl) (X_add rfl rfl) <| L_op (.plain rfl) rfl (ltb rfl) (X_assign (v := .int .i64 (((D ++ [marksR l.length k]).length : Nat) : Int)) (congrArg (Value.int .i64) hw)) <| L_nil <| thn_n ?_
      exact ⟨R.length, by simp, D ++ [marksR l.length k], R, k + 5 * (l.length : Int), rfl, q0, rfl, rfl, by simp at hl ⊢; omega, hg.trans (hsub W2 g2), by rw [List.append_assoc]; exact hO2, hH2, fun y hy => hR y (by simp [hy]), by omega, by omega, by rw [List.append_assoc]; exact hf⟩
  · rintro s2 W2 ⟨q1, hg, hO⟩
    refine thn_n <| W_seq <| W_reg <| L_op (.plain rfl) rfl (ltb rfl) (X_move q1) <| L_op (.plain rfl) rfl (ltb rfl) (X_assign (v := .int .i64 (a1 + 5 * (totL a0 : Int))) rfl) <| L_nil <| thn_n <| W_ret <| fin_r ?_
    exact ⟨_, rfl, rfl, hg, hO⟩

/-! spec.l07Paths -/
abbrev spec_l07Paths.e1 (a0 : List (List Rec)) (x3_31 : List (List UInt8)) (x4_9 : Int) (x5_33 : Int) (x7_72 : Int) := ((([] : List (List UInt8)) ++ (sub x3_31 0 x7_72)) ++ ([(gt (gt a0 x4_9) x5_33).path] : List (List UInt8)))
theorem spec_l07Paths.walk {k : Nat} {w : World} {a0 : List (List Rec)} {v_a0 : Value} (f_a0 : Rd2 5 encRec w v_a0 a0) {r : List (List UInt8)} (H : spec_l07Paths.sh k a0 = some r) :
    Calls Tryz.prog 84 #[v_a0] w (Rt (RO 9 1 encS w r)) := by
  unfold spec_l07Paths.sh at H
  refine calls_of_W Tryz.func84 rfl (Nat.le_of_ble_eq_true rfl) Tryz.ntmps84 rfl ?_
  refine W_seq <| W_reg <| L_op (.plain rfl) rfl (ltb rfl) (X_assign (v := (.slice none 0 0)) rfl) <| L_nil <| thn_n <| W_seq <| W_reg <| L_lit (.plain rfl) rfl (ltb rfl) rfl Tryz.underlying49 Tryz.sizeOf9 Tryz.zeroValue9 rfl rfl rfl (vs := []) rfl (lit_all rfl) <| fun b1 w2 z3 z4 e5 k6 => L_op (.plain rfl) rfl (ltb rfl) (X_assign (v := (.slice (some ⟨b1, 0, none⟩) 0 0)) rfl) <| L_nil <| thn_n <| W_seq <| W_seq <| W_reg <| L_op (.plain rfl) rfl (ltb rfl) (X_assign (v := (.int .i64 0)) rfl) <| L_nil <| thn_n ?_
  obtain ⟨z10, L11, C12⟩ := bind_some H
  clear H
  refine  W_cutQ (fun s0 sQ wQ => ∃ (x3_13 : List (List UInt8)) (v14 : Value), Kp [(3, 8), (9, 70)] s0 sQ ∧ sQ 3 = v14 ∧ Ow 9 1 encS w2.heap.size wQ v14 x3_13 ∧ Ext w2 wQ ∧ z10 = .inr x3_13) ?_ ?_
  · refine W_block <| W_loopI (fun s0 kk sQ wQ => ∃ (x3_7 : List (List UInt8)) (v8 : Value) (x4_9 : Int), Kp [(3, 8), (9, 70)] s0 sQ ∧ sQ 3 = v8 ∧ Ow 9 1 encS w2.heap.size wQ v8 x3_7 ∧ sQ 4 = .int .i64 x4_9 ∧ Ext w2 wQ ∧ loopF (spec_l07Paths.b1 k a0) kk (x3_7, x4_9) = some z10) k ⟨([] : List (List UInt8)), (.slice (some ⟨b1, 0, none⟩) 0 0), 0, (Kp.refl _ _), rfl, (Ow.zero), rfl, (Ext.refl w2), L11⟩ ?_
    rintro k19 s20 w21 ⟨x3_7, v8, x4_9, K22, h25, h26, h27, e23, L24⟩
    cases k19 with
    | zero => exact absurd L24 (by simp [loopF])
    | succ k19 =>
      obtain ⟨t28, H, S29⟩ := loopF_succ L24
      clear L24
      unfold spec_l07Paths.b1 at H
      refine W_seq <| W_seq <| W_reg <| L_op (.plain rfl) rfl (ltb rfl) (X_move (v := (.int .i64 x4_9)) h27) <| L_op (.plain rfl) rfl (ltb rfl) (X_move (v := v_a0) (K22 0 rfl)) <| L_op (.plain rfl) rfl (ltb rfl) (X_lenR2 Tryz.underlying39 rfl (Rd2.ext f_a0 (Ext.trans e5 e23))) <| L_op (.plain rfl) rfl (ltb rfl) (X_lss rfl rfl) <| L_nil <| thn_n ?_
      rcases bif_two H with ⟨q30, H⟩ | ⟨q30, H⟩
      · refine W_true (congrArg Value.bool q30) <| W_skip <| thn_n <| W_seq <| W_block <| W_seq <| W_reg <| L_op (.plain rfl) rfl (ltb rfl) (X_assign (v := (.int .i64 0)) rfl) <| L_nil <| thn_n ?_
        obtain ⟨z34, L35, C36⟩ := bind_some H
        clear H
        refine  W_cutQ (fun s0 sQ wQ => ∃ (x3_37 : List (List UInt8)) (v38 : Value), Kp [(3, 4), (5, 8), (15, 70)] s0 sQ ∧ sQ 3 = v38 ∧ Ow 9 1 encS w2.heap.size wQ v38 x3_37 ∧ Ext w21 wQ ∧ z34 = .inr x3_37) ?_ ?_
        · refine W_block <| W_loopI (fun s0 kk sQ wQ => ∃ (x3_31 : List (List UInt8)) (v32 : Value) (x5_33 : Int), Kp [(3, 4), (5, 8), (15, 70)] s0 sQ ∧ sQ 3 = v32 ∧ Ow 9 1 encS w2.heap.size wQ v32 x3_31 ∧ sQ 5 = .int .i64 x5_33 ∧ Ext w21 wQ ∧ loopF (spec_l07Paths.b2 k a0 x4_9) kk (x3_31, x5_33) = some z34) k ⟨x3_7, v8, 0, (Kp.refl _ _), h25, h26, rfl, (Ext.refl w21), L35⟩ ?_
          rintro k43 s44 w45 ⟨x3_31, v32, x5_33, K46, h49, h50, h51, e47, L48⟩
          cases k43 with
          | zero => exact absurd L48 (by simp [loopF])
          | succ k43 =>
            obtain ⟨t52, H, S53⟩ := loopF_succ L48
            clear L48
            unfold spec_l07Paths.b2 at H
            refine W_seq <| W_seq <| W_reg <| L_op (.plain rfl) rfl (ltb rfl) (X_move (v := (.int .i64 x5_33)) h51) <| L_op (.plain rfl) rfl (ltb rfl) (X_move (v := v_a0) ((K46 0 rfl).trans (K22 0 rfl))) <| L_op (.plain rfl) rfl (ltb rfl) (X_move (v := (.int .i64 x4_9)) ((K46 4 rfl).trans h27)) ?_
            obtain ⟨c54, H⟩ := bif_some H
            refine L_idx2 (.plain rfl) rfl (ltb rfl) rfl Tryz.underlying39 Tryz.sizeOf28 rfl (Rd2.ext f_a0 (Ext.trans (Ext.trans e5 e23) e47)) rfl c54 <| fun p55 v57 h56 h58 => L_op (.plain rfl) rfl (ltb rfl) (X_loadAt Tryz.isAgg28 rfl h56 rfl) <| L_op (.plain rfl) rfl (ltb rfl) (X_lenR Tryz.underlying28 rfl h58) <| L_op (.plain rfl) rfl (ltb rfl) (X_lss rfl rfl) <| L_nil <| thn_n ?_
            rcases bif_two H with ⟨q59, H⟩ | ⟨q59, H⟩
            · refine W_true (congrArg Value.bool q59) <| W_skip <| thn_n <| W_seq <| W_block <| W_seq <| W_reg <| L_op (.plain rfl) rfl (ltb rfl) (X_move (v := v_a0) ((K46 0 rfl).trans (K22 0 rfl))) <| L_op (.plain rfl) rfl (ltb rfl) (X_move (v := (.int .i64 x4_9)) ((K46 4 rfl).trans h27)) ?_
              obtain ⟨c60, H⟩ := bif_some H
              refine L_idx2 (.plain rfl) rfl (ltb rfl) rfl Tryz.underlying39 Tryz.sizeOf28 rfl (Rd2.ext f_a0 (Ext.trans (Ext.trans e5 e23) e47)) rfl c60 <| fun p61 v63 h62 h64 => L_op (.plain rfl) rfl (ltb rfl) (X_loadAt Tryz.isAgg28 rfl h62 rfl) <| L_op (.plain rfl) rfl (ltb rfl) (X_move (v := (.int .i64 x5_33)) h51) ?_
              obtain ⟨c65, H⟩ := bif_some H
              refine L_idx (.plain rfl) rfl (ltb rfl) rfl Tryz.underlying28 Tryz.sizeOf78 rfl h64 rfl c65 <| fun p66 h67 => L_op (.plain rfl) rfl (ltb rfl) (X_fieldAddr Tryz.underlying78 rfl Tryz.sizeOf9 rfl rfl) <| L_op (.plain rfl) rfl (ltb rfl) (X_loadF Tryz.isAgg9 (j := 1) h67 rfl rfl) <| L_op (.plain rfl) rfl (ltb rfl) (X_assign (v := (S ((gt (gt a0 x4_9) x5_33).path))) rfl) <| L_nil <| thn_n <| W_seq <| W_reg <| L_op (.plain rfl) rfl (ltb rfl) (X_move (v := v32) h49) <| L_op (.plain rfl) rfl (ltb rfl) (X_lenR Tryz.underlying49 rfl (Ow.rd h50)) <| L_op (.plain rfl) rfl (ltb rfl) (X_assign (v := (.int .i64 (x3_31.length : Int))) rfl) <| L_nil <| thn_n <| W_seq ?_
              obtain ⟨z69, L70, C71⟩ := bind_some H
              clear H
              refine  W_cutQ (fun s0 sQ wQ => ∃ (x7_72 : Int), Kp [(7, 8), (34, 47)] s0 sQ ∧ sQ 7 = .int .i64 x7_72 ∧ Ext w45 wQ ∧ z69 = .inr x7_72) ?_ ?_
              · refine W_block <| W_loopI (fun s0 kk sQ wQ => ∃ (x7_68 : Int), Kp [(7, 8), (34, 47)] s0 sQ ∧ sQ 7 = .int .i64 x7_68 ∧ Ext w45 wQ ∧ loopF (spec_l07Paths.b3 a0 x4_9 x3_31 x5_33) kk x7_68 = some z69) k ⟨(x3_31.length : Int), (Kp.refl _ _), rfl, (Ext.refl w45), L70⟩ ?_
                rintro k77 s78 w79 ⟨x7_68, K80, h83, e81, L82⟩
                cases k77 with
                | zero => exact absurd L82 (by simp [loopF])
                | succ k77 =>
                  obtain ⟨t84, H, S85⟩ := loopF_succ L82
                  clear L82
                  unfold spec_l07Paths.b3 at H
                  refine W_seq <| W_seq <| W_reg <| L_op (.plain rfl) rfl (ltb rfl) (X_move (v := (.int .i64 x7_68)) h83) <| L_op (.plain rfl) rfl (ltb rfl) (X_gtr rfl rfl) <| L_op (.plain rfl) rfl (ltb rfl) (X_move (v := (.bool (decide (0 < x7_68)))) rfl) ?_
                  obtain ⟨z87, x88, H⟩ := bind_some H
                  refine L_grpE 8 [(37, 45)] 44 (fun q => q = z87) ?_ ?_
                  · rcases bif_two x88 with ⟨b85_, H⟩ | ⟨b85_, H⟩
                    · refine L_op (.guard 2 true 36 rfl rfl (ltb rfl) (congrArg Value.bool b85_)) rfl (ltb rfl) (X_move (v := (S ((gt (gt a0 x4_9) x5_33).path))) (K80 6 rfl)) <| L_op (.guard 2 true 36 rfl rfl (ltb rfl) (congrArg Value.bool b85_)) rfl (ltb rfl) (X_move (v := v32) ((K80 3 rfl).trans h49)) <| L_op (.guard 2 true 36 rfl rfl (ltb rfl) (congrArg Value.bool b85_)) rfl (ltb rfl) (X_move (v := (.int .i64 x7_68)) h83) <| L_op (.guard 2 true 36 rfl rfl (ltb rfl) (congrArg Value.bool b85_)) rfl (ltb rfl) (X_sub rfl rfl) ?_
                      obtain ⟨c87, H⟩ := bif_some H
                      refine L_idx (.guard 2 true 36 rfl rfl (ltb rfl) (congrArg Value.bool b85_)) rfl (ltb rfl) rfl Tryz.underlying49 Tryz.sizeOf9 rfl (Ow.rd (Ow.ext h50 e81)) rfl c87 <| fun p88 h89 => L_op (.guard 2 true 36 rfl rfl (ltb rfl) (congrArg Value.bool b85_)) rfl (ltb rfl) (X_loadAt Tryz.isAgg9 rfl h89 rfl) ?_
                      obtain ⟨c90, H⟩ := bif_some H
                      obtain ⟨c91, H⟩ := bif_some H
                      refine L_callP (.guard 2 true 36 rfl rfl (ltb rfl) (congrArg Value.bool b85_)) rfl (ltb rfl) rfl Tryz.call112 (spec_l01Less.calls (w := w79) (a0 := (gt (gt a0 x4_9) x5_33).path) (a1 := gt x3_31 (IntKind.wrap .i64 (x7_68 - 1))) (of_decide_eq_true c90) (of_decide_eq_true c91)) rfl <| fun w92 e93 => L_op (.plain rfl) rfl (ltb rfl) (X_pick (b := true) (v := (.bool (lessL (cut 47 ((gt (gt a0 x4_9) x5_33).path)) (cut 47 (gt x3_31 (IntKind.wrap .i64 (x7_68 - 1))))))) (congrArg Value.bool b85_) rfl) ?_
                      obtain rfl := Option.some.inj H
                      exact L_nil <| thn_n ⟨(Kp.upd (Kp.upd (Kp.upd (Kp.upd (Kp.upd (Kp.upd (Kp.upd (Kp.upd (Kp.refl _ _) rfl) rfl) rfl) rfl) rfl) rfl) rfl) rfl), ⟨_, rfl, rfl⟩, e93⟩
                    · refine L_skip rfl rfl (ltb rfl) (congrArg Value.bool b85_) rfl rfl (ltb rfl) <| L_skip rfl rfl (ltb rfl) (congrArg Value.bool b85_) rfl rfl (ltb rfl) <| L_skip rfl rfl (ltb rfl) (congrArg Value.bool b85_) rfl rfl (ltb rfl) <| L_skip rfl rfl (ltb rfl) (congrArg Value.bool b85_) rfl rfl (ltb rfl) <| L_skip rfl rfl (ltb rfl) (congrArg Value.bool b85_) rfl rfl (ltb rfl) <| L_skip rfl rfl (ltb rfl) (congrArg Value.bool b85_) rfl rfl (ltb rfl) <| L_skip rfl rfl (ltb rfl) (congrArg Value.bool b85_) rfl rfl (ltb rfl) <| L_op (.plain rfl) rfl (ltb rfl) (X_pick (b := false) (v := (.bool false)) (congrArg Value.bool b85_) rfl) ?_
                      obtain rfl := Option.some.inj H
                      exact L_nil <| thn_n ⟨(Kp.upd (Kp.upd (Kp.upd (Kp.upd (Kp.upd (Kp.upd (Kp.upd (Kp.upd (Kp.refl _ _) rfl) rfl) rfl) rfl) rfl) rfl) rfl) rfl), ⟨_, rfl, rfl⟩, (Ext.refl w79)⟩
                  intro s94 w89 z95 K90 hq h91 e92
                  rw [hq] at h91; clear hq
                  refine L_nil <| thn_n ?_
                  rcases bif_two H with ⟨q96, H⟩ | ⟨q96, H⟩
                  · refine W_true (h91.trans (congrArg Value.bool q96)) <| W_skip <| thn_n <| W_block <| W_reg <| L_op (.plain rfl) rfl (ltb rfl) (X_move (v := (.int .i64 x7_68)) ((K90 7 rfl).trans h83)) <| L_op (.plain rfl) rfl (ltb rfl) (X_sub rfl rfl) <| L_op (.plain rfl) rfl (ltb rfl) (X_assign (v := (.int .i64 (IntKind.wrap .i64 (x7_68 - 1)))) rfl) <| L_nil <| blk_n <| thn_n ?_
                    obtain rfl := Option.some.inj H
                    exact ⟨_, Nat.lt_succ_self _, IntKind.wrap .i64 (x7_68 - 1), (Kp.upd (Kp.upd (Kp.upd (Kp.cut (Kp.upd (Kp.upd (Kp.upd K80 rfl) rfl) rfl) K90 rfl) rfl) rfl) rfl), rfl, (Ext.trans e81 e92), S85⟩
                  · refine W_false (h91.trans (congrArg Value.bool q96)) <| W_exit <| thn_x <| thn_x <| blk_x <| thn_n ?_
                    obtain rfl := Option.some.inj H
                    obtain rfl := Option.some.inj S85
                    exact ⟨x7_68, (Kp.cut (Kp.upd (Kp.upd (Kp.upd K80 rfl) rfl) rfl) K90 rfl), ((K90 7 rfl).trans h83), (Ext.trans e81 e92), rfl⟩
              · rintro s74 w73 ⟨x7_72, K75, h97, e76, y98⟩
                rw [y98] at C71
                have H := C71
                replace H : _ = some _ := H
                refine thn_n <| W_seq <| W_reg <| L_op (.plain rfl) rfl (ltb rfl) (X_move (v := (.int .i64 x7_72)) h97) <| L_op (.plain rfl) rfl (ltb rfl) (X_eql rfl rfl) <| L_op (.plain rfl) rfl (ltb rfl) (X_move (v := (.bool (decide (x7_72 = 0)))) rfl) ?_
                obtain ⟨z100, x101, H⟩ := bind_some H
                refine L_grpE 8 [(50, 58)] 57 (fun q => q = z100) ?_ ?_
                · rcases bif_two x101 with ⟨b98_, H⟩ | ⟨b98_, H⟩
                  · refine L_skip rfl rfl (ltb rfl) (congrArg Value.bool b98_) rfl rfl (ltb rfl) <| L_skip rfl rfl (ltb rfl) (congrArg Value.bool b98_) rfl rfl (ltb rfl) <| L_skip rfl rfl (ltb rfl) (congrArg Value.bool b98_) rfl rfl (ltb rfl) <| L_skip rfl rfl (ltb rfl) (congrArg Value.bool b98_) rfl rfl (ltb rfl) <| L_skip rfl rfl (ltb rfl) (congrArg Value.bool b98_) rfl rfl (ltb rfl) <| L_skip rfl rfl (ltb rfl) (congrArg Value.bool b98_) rfl rfl (ltb rfl) <| L_skip rfl rfl (ltb rfl) (congrArg Value.bool b98_) rfl rfl (ltb rfl) <| L_op (.plain rfl) rfl (ltb rfl) (X_pick (b := true) (v := (.bool true)) (congrArg Value.bool b98_) rfl) ?_
                    obtain rfl := Option.some.inj H
                    exact L_nil <| thn_n ⟨(Kp.upd (Kp.upd (Kp.upd (Kp.upd (Kp.upd (Kp.upd (Kp.upd (Kp.upd (Kp.refl _ _) rfl) rfl) rfl) rfl) rfl) rfl) rfl) rfl), ⟨_, rfl, rfl⟩, (Ext.refl w73)⟩
                  · refine L_op (.guard 2 false 49 rfl rfl (ltb rfl) (congrArg Value.bool b98_)) rfl (ltb rfl) (X_move (v := v32) ((K75 3 rfl).trans h49)) <| L_op (.guard 2 false 49 rfl rfl (ltb rfl) (congrArg Value.bool b98_)) rfl (ltb rfl) (X_move (v := (.int .i64 x7_72)) h97) <| L_op (.guard 2 false 49 rfl rfl (ltb rfl) (congrArg Value.bool b98_)) rfl (ltb rfl) (X_sub rfl rfl) ?_
                    obtain ⟨c100, H⟩ := bif_some H
                    refine L_idx (.guard 2 false 49 rfl rfl (ltb rfl) (congrArg Value.bool b98_)) rfl (ltb rfl) rfl Tryz.underlying49 Tryz.sizeOf9 rfl (Ow.rd (Ow.ext h50 e76)) rfl c100 <| fun p101 h102 => L_op (.guard 2 false 49 rfl rfl (ltb rfl) (congrArg Value.bool b98_)) rfl (ltb rfl) (X_loadAt Tryz.isAgg9 rfl h102 rfl) <| L_op (.guard 2 false 49 rfl rfl (ltb rfl) (congrArg Value.bool b98_)) rfl (ltb rfl) (X_move (v := (S ((gt (gt a0 x4_9) x5_33).path))) (K75 6 rfl)) <| L_op (.guard 2 false 49 rfl rfl (ltb rfl) (congrArg Value.bool b98_)) rfl (ltb rfl) (X_sne rfl rfl) <| L_op (.plain rfl) rfl (ltb rfl) (X_pick (b := false) (v := (.bool (!decide ((gt x3_31 (IntKind.wrap .i64 (x7_72 - 1))) = ((gt (gt a0 x4_9) x5_33).path))))) (congrArg Value.bool b98_) rfl) ?_
                    obtain rfl := Option.some.inj H
                    exact L_nil <| thn_n ⟨(Kp.upd (Kp.upd (Kp.upd (Kp.upd (Kp.upd (Kp.upd (Kp.upd (Kp.upd (Kp.refl _ _) rfl) rfl) rfl) rfl) rfl) rfl) rfl) rfl), ⟨_, rfl, rfl⟩, (Ext.refl w73)⟩
                intro s106 w102 z107 K103 hq h104 e105
                rw [hq] at h104; clear hq
                refine L_nil <| thn_n ?_
                rcases bif_two H with ⟨q108, H⟩ | ⟨q108, H⟩
                · refine W_true (h104.trans (congrArg Value.bool q108)) ?_
                  obtain ⟨c115, H⟩ := bif_some H
                  obtain ⟨c118, H⟩ := bif_some H
                  obtain ⟨c130, H⟩ := bif_some H
                  obtain ⟨c136, H⟩ := bif_some H
                  obtain ⟨c139, H⟩ := bif_some H
                  refine W_drawR (B := w102.heap.size) [LEmp, LEq v32, LEq (.int .i64 x7_72), LRdW w102 1 encS (sub x3_31 0 x7_72), LOw 9 1 encS w102.heap.size (([] : List (List UInt8)) ++ (sub x3_31 0 x7_72)), LEq (S ((gt (gt a0 x4_9) x5_33).path)), LRd 1 encS ([(gt (gt a0 x4_9) x5_33).path] : List (List UInt8)), LOw 9 1 encS w102.heap.size (spec_l07Paths.e1 a0 x3_31 x4_9 x5_33 x7_72), LEq v32, LEq (.int .i64 x7_72), LRdW w102 1 encS (sub x3_31 x7_72 (x3_31.length : Int)), LOw 9 1 encS w102.heap.size ((spec_l07Paths.e1 a0 x3_31 x4_9 x5_33 x7_72) ++ (sub x3_31 x7_72 (x3_31.length : Int))), LOw 9 1 encS w102.heap.size ((spec_l07Paths.e1 a0 x3_31 x4_9 x5_33 x7_72) ++ (sub x3_31 x7_72 (x3_31.length : Int)))] [⟨true, true, true, false, []⟩, ⟨true, true, true, false, []⟩, ⟨true, true, true, false, []⟩, ⟨true, true, true, false, [1, 2]⟩, ⟨true, false, true, false, [0, 3]⟩, ⟨true, true, true, false, []⟩, ⟨true, false, true, false, [5]⟩, ⟨false, false, true, false, [4, 6]⟩, ⟨true, true, false, false, []⟩, ⟨true, true, false, false, []⟩, ⟨true, true, false, false, [8, 9]⟩, ⟨false, false, false, false, [7, 10]⟩, ⟨true, false, false, true, [11]⟩] [(7, 0, [4]), (11, 0, [7, 4]), (7, 1, [4, 3]), (11, 1, [7, 4, 3]), (7, 2, [4, 3]), (11, 2, [7, 4, 3]), (7, 3, [4]), (11, 3, [7, 4]), (7, 4, []), (11, 4, [7]), (7, 5, [6]), (11, 5, [7, 6]), (7, 6, []), (11, 6, [7]), (11, 7, []), (12, 7, []), (12, 11, [])] (by kernel_rfl) (by kernel_rfl) (Nat.le_refl _) ⟨⟨LEmp.rig.mono, fun _ => LEmp.rig⟩, ⟨LEq.rig.mono, fun _ => LEq.rig⟩, ⟨LEq.rig.mono, fun _ => LEq.rig⟩, ⟨LRdW.rig.mono, fun _ => LRdW.rig⟩, ⟨LOw.mono, noR⟩, ⟨LEq.rig.mono, fun _ => LEq.rig⟩, ⟨LRd.mono, noR⟩, ⟨LOw.mono, noR⟩, ⟨LEq.rig.mono, fun _ => LEq.rig⟩, ⟨LEq.rig.mono, fun _ => LEq.rig⟩, ⟨LRdW.rig.mono, fun _ => LRdW.rig⟩, ⟨LOw.mono, noR⟩, ⟨LOw.mono, noR⟩, trivial⟩ ⟨?_, ?_, ?_, ?_, ?_, ?_, ?_, ?_, ?_, ?_, ?_, ?_, ?_, trivial⟩ ?_
                  · intro s145 w146 hb147 hx148 hf149 hd150 hu151
                    have e152 : Ext w102 w146 := hx148 rfl
                    exact L_lit (.plain rfl) rfl (ltb rfl) rfl Tryz.underlying49 Tryz.sizeOf9 Tryz.zeroValue9 rfl rfl rfl (vs := []) rfl (lit_all rfl) <| fun b153 w154 z155 z156 e157 k158 => L_nil <| stepS rfl rfl rfl e157 ⟨_, rfl⟩
                  · intro s159 w160 hb161 hx162 hf163 hd164 hu165
                    have e166 : Ext w102 w160 := hx162 rfl
                    exact L_op (.plain rfl) rfl (ltb rfl) (X_move (v := v32) ((hu165 12 rfl).trans ((K103 3 rfl).trans ((K75 3 rfl).trans h49)))) <| L_nil <| stepS rfl rfl rfl (Ext.refl w160) rfl
                  · intro s167 w168 hb169 hx170 hf171 hd172 hu173
                    have e174 : Ext w102 w168 := hx170 rfl
                    exact L_op (.plain rfl) rfl (ltb rfl) (X_move (v := (.int .i64 x7_72)) ((hf171 7 rfl).trans ((K103 7 rfl).trans h97))) <| L_nil <| stepS rfl rfl rfl (Ext.refl w168) rfl
                  · intro s175 w176 hb177 hx178 hf179 hd180 hu181
                    have e182 : Ext w102 w176 := hx178 rfl
                    have d183 : s175 59 = v32 := (hd180 1 rfl)
                    have d184 : s175 60 = (.int .i64 x7_72) := (hd180 2 rfl)
                    have c185 := c115
                    exact L_sub (.plain rfl) rfl (ltb rfl) rfl Tryz.underlying49 Tryz.sizeOf9 d183 (Ow.rd (Ow.ext h50 (Ext.trans e76 e105))) (l := 0) (h := x7_72) rfl ⟨_, d184⟩ c185 <| fun v186 h187 => L_nil <| stepS rfl rfl rfl (Ext.refl w176) h187
                  · intro s188 w189 hb190 hx191 hf192 hd193 hu194
                    have e195 : Ext w102 w189 := hx191 rfl
                    obtain ⟨b196, h197⟩ := (hd193 0 rfl)
                    have d198 : Rd 1 encS w102 (s188 61) (sub x3_31 0 x7_72) := (hd193 3 rfl)
                    have c199 := c118
                    exact L_append (enc := encS) (.plain rfl) rfl (ltb rfl) rfl El.t49 h197 rfl (Ow.zero (base := w189.heap.size) (w := w189)) (Rd.ext d198 e195) (ones_S _) (of_decide_eq_true c199) (Nat.le_refl _) <| fun v200 w201 o202 z203 g204 => L_nil <| stepS rfl rfl rfl (g204 _ (Ext.refl w189)) (Ow.base o202 e195.size)
                  · intro s205 w206 hb207 hx208 hf209 hd210 hu211
                    have e212 : Ext w102 w206 := hx208 rfl
                    exact L_op (.plain rfl) rfl (ltb rfl) (X_move (v := (S ((gt (gt a0 x4_9) x5_33).path))) ((hf209 6 rfl).trans ((K103 6 rfl).trans (K75 6 rfl)))) <| L_nil <| stepS rfl rfl rfl (Ext.refl w206) rfl
                  · intro s213 w214 hb215 hx216 hf217 hd218 hu219
                    have e220 : Ext w102 w214 := hx216 rfl
                    have d221 : s213 63 = (S ((gt (gt a0 x4_9) x5_33).path)) := (hd218 5 rfl)
                    exact L_lit (.plain rfl) rfl (ltb rfl) rfl Tryz.underlying49 Tryz.sizeOf9 Tryz.zeroValue9 rfl rfl rfl (vs := [(S ((gt (gt a0 x4_9) x5_33).path))]) (cons2 d221 rfl) (lit_all rfl) <| fun b222 w223 z224 z225 e226 k227 => L_nil <| stepS rfl rfl rfl e226 (Ow.rd (Ow.new (xs := [(gt (gt a0 x4_9) x5_33).path]) (sz := 1) (enc := encS) (base := w214.heap.size) k227 (Nat.le_of_eq z224) rfl (fun _ _ => by rfl) (Nat.le_of_ble_eq_true rfl)))
                  · intro s228 w229 hb230 hx231 hf232 hd233 hu234
                    have e235 : Ext w102 w229 := hx231 rfl
                    have d236 : Ow 9 1 encS w102.heap.size w229 (s228 62) (([] : List (List UInt8)) ++ (sub x3_31 0 x7_72)) := (hd233 4 rfl)
                    have d237 : Rd 1 encS w229 (s228 64) ([(gt (gt a0 x4_9) x5_33).path] : List (List UInt8)) := (hd233 6 rfl)
                    have c238 := c130
                    exact L_append (enc := encS) (.plain rfl) rfl (ltb rfl) rfl El.t49 rfl rfl d236 d237 (ones_S _) (of_decide_eq_true c238) (e235).size <| fun v239 w240 o241 z242 g243 => L_nil <| stepH rfl rfl rfl (g243 _ (Below.refl _ _)) o241
                  · intro s244 w245 hb246 hx247 hf248 hd249 hu250
                    have e251 : Ext w102 w245 := Below.trans (Ext.refl w102) hb246
                    exact L_op (.plain rfl) rfl (ltb rfl) (X_move (v := v32) ((hu250 12 rfl).trans ((K103 3 rfl).trans ((K75 3 rfl).trans h49)))) <| L_nil <| stepS rfl rfl rfl (Ext.refl w245) rfl
                  · intro s252 w253 hb254 hx255 hf256 hd257 hu258
                    have e259 : Ext w102 w253 := Below.trans (Ext.refl w102) hb254
                    exact L_op (.plain rfl) rfl (ltb rfl) (X_move (v := (.int .i64 x7_72)) ((hf256 7 rfl).trans ((K103 7 rfl).trans h97))) <| L_nil <| stepS rfl rfl rfl (Ext.refl w253) rfl
                  · intro s260 w261 hb262 hx263 hf264 hd265 hu266
                    have e267 : Ext w102 w261 := Below.trans (Ext.refl w102) hb262
                    have d268 : s260 66 = v32 := (hd265 8 rfl)
                    have d269 : s260 67 = (.int .i64 x7_72) := (hd265 9 rfl)
                    have c270 := c136
                    exact L_sub (.plain rfl) rfl (ltb rfl) rfl Tryz.underlying49 Tryz.sizeOf9 d268 (Ow.rd (Ow.ext h50 (Ext.trans e76 e105))) (l := x7_72) (h := (x3_31.length : Int)) ⟨_, d269⟩ rfl c270 <| fun v271 h272 => L_nil <| stepS rfl rfl rfl (Ext.refl w261) h272
                  · intro s273 w274 hb275 hx276 hf277 hd278 hu279
                    have e280 : Ext w102 w274 := Below.trans (Ext.refl w102) hb275
                    have d281 : Ow 9 1 encS w102.heap.size w274 (s273 65) (spec_l07Paths.e1 a0 x3_31 x4_9 x5_33 x7_72) := (hd278 7 rfl)
                    have d282 : Rd 1 encS w102 (s273 68) (sub x3_31 x7_72 (x3_31.length : Int)) := (hd278 10 rfl)
                    have c283 := c139
                    exact L_append (enc := encS) (.plain rfl) rfl (ltb rfl) rfl El.t49 rfl rfl d281 (Rd.ext d282 e280) (ones_S _) (of_decide_eq_true c283) (e280).size <| fun v284 w285 o286 z287 g288 => L_nil <| stepH rfl rfl rfl (g288 _ (Below.refl _ _)) o286
                  · intro s289 w290 hb291 hx292 hf293 hd294 hu295
                    have e296 : Ext w102 w290 := Below.trans (Ext.refl w102) hb291
                    have d297 : Ow 9 1 encS w102.heap.size w290 (s289 69) ((spec_l07Paths.e1 a0 x3_31 x4_9 x5_33 x7_72) ++ (sub x3_31 x7_72 (x3_31.length : Int))) := (hd294 11 rfl)
                    exact L_op (.plain rfl) rfl (ltb rfl) (X_assign (v := (s289 69)) rfl) <| L_nil <| stepS rfl rfl rfl (Ext.refl w290) d297
                  intro s298 w299 hb300 hf302 ha303
                  have K304 := Kp.ofD (kp := [(3, 4), (58, 70)]) rfl hf302
                  have e301 : Ext w102 w299 := hb300
                  have d305 : Ow 9 1 encS w102.heap.size w299 (s298 3) ((spec_l07Paths.e1 a0 x3_31 x4_9 x5_33 x7_72) ++ (sub x3_31 x7_72 (x3_31.length : Int))) := ha303 12 rfl rfl
                  clear ha303 hf302
                  refine blk_n <| thn_n <| W_reg <| L_op (.plain rfl) rfl (ltb rfl) (X_move (v := (.int .i64 x5_33)) ((K304 5 rfl).trans ((K103 5 rfl).trans ((K75 5 rfl).trans h51)))) <| L_op (.plain rfl) rfl (ltb rfl) (X_add rfl rfl) <| L_op (.plain rfl) rfl (ltb rfl) (X_assign (v := (.int .i64 (IntKind.wrap .i64 (x5_33 + 1)))) rfl) <| L_nil <| thn_n ?_
                  obtain rfl := Option.some.inj H
                  exact ⟨_, Nat.lt_succ_self _, (spec_l07Paths.e1 a0 x3_31 x4_9 x5_33 x7_72) ++ (sub x3_31 x7_72 (x3_31.length : Int)), (s298 3), IntKind.wrap .i64 (x5_33 + 1), (Kp.upd (Kp.upd (Kp.upd (Kp.cut (Kp.cut (Kp.upd (Kp.upd (Kp.upd (Kp.cut (Kp.upd (Kp.upd (Kp.upd (Kp.upd (Kp.upd (Kp.upd (Kp.upd (Kp.upd (Kp.upd (Kp.upd (Kp.upd (Kp.upd (Kp.upd (Kp.upd (Kp.upd (Kp.upd (Kp.upd (Kp.upd (Kp.upd K46 rfl) rfl) rfl) rfl) rfl) rfl) rfl) rfl) rfl) rfl) rfl) rfl) rfl) rfl) rfl) rfl) rfl) rfl) rfl) K75 rfl) rfl) rfl) rfl) K103 rfl) K304 rfl) rfl) rfl) rfl), rfl, (Ow.base d305 (Ext.trans (Ext.trans (Ext.trans e23 e47) e76) e105).size), rfl, (Ext.trans (Ext.trans (Ext.trans e47 e76) e105) e301), S53⟩
                · refine W_false (h104.trans (congrArg Value.bool q108)) <| W_skip <| blk_n <| thn_n <| W_reg <| L_op (.plain rfl) rfl (ltb rfl) (X_move (v := (.int .i64 x5_33)) ((K103 5 rfl).trans ((K75 5 rfl).trans h51))) <| L_op (.plain rfl) rfl (ltb rfl) (X_add rfl rfl) <| L_op (.plain rfl) rfl (ltb rfl) (X_assign (v := (.int .i64 (IntKind.wrap .i64 (x5_33 + 1)))) rfl) <| L_nil <| thn_n ?_
                  obtain rfl := Option.some.inj H
                  exact ⟨_, Nat.lt_succ_self _, x3_31, v32, IntKind.wrap .i64 (x5_33 + 1), (Kp.upd (Kp.upd (Kp.upd (Kp.cut (Kp.upd (Kp.upd (Kp.upd (Kp.cut (Kp.upd (Kp.upd (Kp.upd (Kp.upd (Kp.upd (Kp.upd (Kp.upd (Kp.upd (Kp.upd (Kp.upd (Kp.upd (Kp.upd (Kp.upd (Kp.upd (Kp.upd (Kp.upd (Kp.upd (Kp.upd (Kp.upd K46 rfl) rfl) rfl) rfl) rfl) rfl) rfl) rfl) rfl) rfl) rfl) rfl) rfl) rfl) rfl) rfl) rfl) rfl) rfl) K75 rfl) rfl) rfl) rfl) K103 rfl) rfl) rfl) rfl), ((K103 3 rfl).trans ((K75 3 rfl).trans h49)), (Ow.ext h50 (Ext.trans e76 e105)), rfl, (Ext.trans (Ext.trans e47 e76) e105), S53⟩
            · refine W_false (congrArg Value.bool q59) <| W_exit <| thn_x <| thn_x <| blk_x <| thn_n ?_
              obtain rfl := Option.some.inj H
              obtain rfl := Option.some.inj S53
              exact ⟨x3_31, v32, (Kp.upd (Kp.upd (Kp.upd (Kp.upd (Kp.upd (Kp.upd (Kp.upd K46 rfl) rfl) rfl) rfl) rfl) rfl) rfl), h49, h50, e47, rfl⟩
        · rintro s40 w39 ⟨x3_37, v38, K41, h306, h307, e42, y308⟩
          rw [y308] at C36
          have H := C36
          replace H : _ = some _ := H
          refine blk_n <| thn_n <| W_reg <| L_op (.plain rfl) rfl (ltb rfl) (X_move (v := (.int .i64 x4_9)) ((K41 4 rfl).trans h27)) <| L_op (.plain rfl) rfl (ltb rfl) (X_add rfl rfl) <| L_op (.plain rfl) rfl (ltb rfl) (X_assign (v := (.int .i64 (IntKind.wrap .i64 (x4_9 + 1)))) rfl) <| L_nil <| thn_n ?_
          obtain rfl := Option.some.inj H
          exact ⟨_, Nat.lt_succ_self _, x3_37, v38, IntKind.wrap .i64 (x4_9 + 1), (Kp.upd (Kp.upd (Kp.upd (Kp.cut (Kp.upd (Kp.upd (Kp.upd (Kp.upd (Kp.upd K22 rfl) rfl) rfl) rfl) rfl) K41 rfl) rfl) rfl) rfl), h306, h307, rfl, (Ext.trans e23 e42), S29⟩
      · refine W_false (congrArg Value.bool q30) <| W_exit <| thn_x <| thn_x <| blk_x <| thn_n ?_
        obtain rfl := Option.some.inj H
        obtain rfl := Option.some.inj S29
        exact ⟨x3_7, v8, (Kp.upd (Kp.upd (Kp.upd (Kp.upd K22 rfl) rfl) rfl) rfl), h25, h26, e23, rfl⟩
  · rintro s16 w15 ⟨x3_13, v14, K17, h309, h310, e18, y311⟩
    rw [y311] at C12
    have H := C12
    replace H : _ = some _ := H
    refine thn_n <| W_seq <| W_reg <| L_op (.plain rfl) rfl (ltb rfl) (X_move (v := v14) h309) <| L_op (.plain rfl) rfl (ltb rfl) (X_assign (v := v14) rfl) <| L_nil <| thn_n <| W_ret <| fin_r ?_
    obtain rfl := Option.some.inj H
    exact fin1o rfl (Ext.trans e5 e18) h310 (e5).size
theorem spec_l07Paths.calls {w : World} {a0 : List (List Rec)} {v_a0 : Value} (f_a0 : Rd2 5 encRec w v_a0 a0) (h0 : stackOK a0 = true) :
    Calls Tryz.prog 84 #[v_a0] w (Rt (RO 9 1 encS w (pathsL a0))) := by
  obtain ⟨k, h⟩ := spec_l07Paths.eq a0 h0
  exact spec_l07Paths.walk f_a0 h
/-! spec.PathsOf -/
theorem spec_PathsOf.walk {w : World} {a0 : List (List Rec)} {v_a0 : Value} (f_a0 : Rd2 5 encRec w v_a0 a0) {r : List (List UInt8) × Int} (H : spec_PathsOf.sh a0 = some r) :
    Calls Tryz.prog 36 #[v_a0] w (Rt (RT 9 1 encS w r.1 (.int .i64 r.2))) := by
  unfold spec_PathsOf.sh at H
  refine calls_of_W Tryz.func36 rfl (Nat.le_of_ble_eq_true rfl) Tryz.ntmps36 rfl ?_
  refine W_seq <| W_reg <| L_op (.plain rfl) rfl (ltb rfl) (X_assign (v := (.slice none 0 0)) rfl) <| L_op (.plain rfl) rfl (ltb rfl) (X_assign (v := (.int .i64 0)) rfl) <| L_nil <| thn_n <| W_seq <| W_seq <| W_reg <| L_op (.plain rfl) rfl (ltb rfl) (X_move (v := v_a0) rfl) <| L_op (.plain rfl) rfl (ltb rfl) (X_lenR2 Tryz.underlying39 rfl f_a0) <| L_op (.plain rfl) rfl (ltb rfl) (X_gtr rfl rfl) <| L_nil <| thn_n ?_
  rcases bif_two H with ⟨q1, H⟩ | ⟨q1, H⟩
  · refine W_true (congrArg Value.bool q1) <| W_seq <| W_reg <| L_lit (.plain rfl) rfl (ltb rfl) rfl Tryz.underlying49 Tryz.sizeOf9 Tryz.zeroValue9 rfl rfl rfl (vs := []) rfl (lit_all rfl) <| fun b2 w3 z4 z5 e6 k7 => L_op (.plain rfl) rfl (ltb rfl) (X_assign (v := (.slice (some ⟨b2, 0, none⟩) 0 0)) rfl) <| L_op (.plain rfl) rfl (ltb rfl) (X_assign (v := (.int .i64 2)) rfl) <| L_nil <| thn_n <| W_ret <| thn_r <| fin_r ?_
    obtain rfl := Option.some.inj H
    exact fin2o rfl rfl e6 (Ow.zero (base := w.heap.size)) (Nat.le_refl _)
  · refine W_false (congrArg Value.bool q1) <| W_skip <| thn_n <| W_seq <| W_seq <| W_reg <| L_op (.plain rfl) rfl (ltb rfl) (X_move (v := v_a0) rfl) ?_
    obtain ⟨c8, H⟩ := bif_some H
    obtain ⟨c9, H⟩ := bif_some H
    obtain ⟨c10, H⟩ := bif_some H
    refine L_callP (.plain rfl) rfl (ltb rfl) rfl Tryz.call77 (spec_l05Stack.calls (w := w) (a0 := a0) f_a0 (of_decide_eq_true c8) (of_decide_eq_true c9) (of_decide_eq_true c10)) rfl <| fun w11 e12 => L_op (.plain rfl) rfl (ltb rfl) (X_not rfl) <| L_nil <| thn_n ?_
    rcases bif_two H with ⟨q13, H⟩ | ⟨q13, H⟩
    · refine W_true (congrArg Value.bool q13) <| W_seq <| W_reg <| L_lit (.plain rfl) rfl (ltb rfl) rfl Tryz.underlying49 Tryz.sizeOf9 Tryz.zeroValue9 rfl rfl rfl (vs := []) rfl (lit_all rfl) <| fun b14 w15 z16 z17 e18 k19 => L_op (.plain rfl) rfl (ltb rfl) (X_assign (v := (.slice (some ⟨b14, 0, none⟩) 0 0)) rfl) <| L_op (.plain rfl) rfl (ltb rfl) (X_assign (v := (.int .i64 1)) rfl) <| L_nil <| thn_n <| W_ret <| thn_r <| fin_r ?_
      obtain rfl := Option.some.inj H
      exact fin2o rfl rfl (Ext.trans e12 e18) (Ow.zero (base := w.heap.size)) (Nat.le_refl _)
    · refine W_false (congrArg Value.bool q13) <| W_skip <| thn_n <| W_seq <| W_reg <| L_op (.plain rfl) rfl (ltb rfl) (X_move (v := v_a0) rfl) ?_
      obtain ⟨c20, H⟩ := bif_some H
      refine L_callO (.plain rfl) rfl (ltb rfl) rfl Tryz.call84 (spec_l07Paths.calls (w := w11) (a0 := a0) (Rd2.ext f_a0 e12) (of_decide_eq_true c20)) rfl <| fun v23 w21 e22 o24 => L_op (.plain rfl) rfl (ltb rfl) (X_assign (v := v23) rfl) <| L_op (.plain rfl) rfl (ltb rfl) (X_assign (v := (.int .i64 0)) rfl) <| L_nil <| thn_n <| W_ret <| fin_r ?_
      obtain rfl := Option.some.inj H
      exact fin2o rfl rfl (Ext.trans e12 e22) o24 (e12).size
theorem spec_PathsOf.calls {w : World} {a0 : List (List Rec)} {v_a0 : Value} (f_a0 : Rd2 5 encRec w v_a0 a0) (h0 : a0.length ≤ 1048576) (h1 : ∀ l ∈ a0, l.length ≤ 1048576) (h2 : ∀ l ∈ a0, ∀ x ∈ l, x.path.length ≤ 1048576) :
    Calls Tryz.prog 36 #[v_a0] w (Rt (RT 9 1 encS w ((pathsOf a0).1) (.int .i64 ((pathsOf a0).2)))) := spec_PathsOf.walk f_a0 (spec_PathsOf.eq a0 h0 h1 h2)
/-! impl.PathsOf -/
theorem impl_PathsOf.walk {w : World} {a0 : List (List Rec)} (gv : GV 0 w) {v_a0 : Value} (f_a0 : Rd2 5 encRec w v_a0 a0) {r : List (List UInt8) × Int} (H : impl_PathsOf.sh a0 = some r) :
    Calls Tryz.prog 37 #[v_a0] w (Rt (RT 9 1 encS w r.1 (.int .i64 r.2))) := by
  unfold impl_PathsOf.sh at H
  refine calls_of_W Tryz.func37 rfl (Nat.le_of_ble_eq_true rfl) Tryz.ntmps37 rfl ?_
  refine W_seq <| W_reg <| L_op (.plain rfl) rfl (ltb rfl) (X_assign (v := (.slice none 0 0)) rfl) <| L_op (.plain rfl) rfl (ltb rfl) (X_assign (v := (.int .i64 0)) rfl) <| L_nil <| thn_n <| W_seq <| W_seq <| W_reg <| L_op (.plain rfl) rfl (ltb rfl) (X_move (v := v_a0) rfl) ?_
  obtain ⟨c1, H⟩ := bif_some H
  obtain ⟨c2, H⟩ := bif_some H
  obtain ⟨c3, H⟩ := bif_some H
  refine L_callP (.plain rfl) rfl (ltb rfl) rfl Tryz.call79 (impl_stackCode.calls (w := w) (a0 := a0) gv f_a0 (of_decide_eq_true c1) (of_decide_eq_true c2) (of_decide_eq_true c3)) rfl <| fun w4 e5 => L_op (.plain rfl) rfl (ltb rfl) (X_assign (v := (.int .i64 (stackCode a0))) rfl) <| L_nil <| thn_n <| W_seq <| W_reg <| L_op (.plain rfl) rfl (ltb rfl) (X_move (v := (.int .i64 (stackCode a0))) rfl) <| L_op (.plain rfl) rfl (ltb rfl) (X_neq rfl rfl) <| L_nil <| thn_n ?_
  rcases bif_two H with ⟨q6, H⟩ | ⟨q6, H⟩
  · refine W_true (congrArg Value.bool q6) <| W_seq <| W_reg <| L_op (.plain rfl) rfl (ltb rfl) (X_move (v := (.int .i64 (stackCode a0))) rfl) <| L_op (.plain rfl) rfl (ltb rfl) (X_assign (v := (.slice none 0 0)) rfl) <| L_op (.plain rfl) rfl (ltb rfl) (X_assign (v := (.int .i64 (stackCode a0))) rfl) <| L_nil <| thn_n <| W_ret <| thn_r <| fin_r ?_
    obtain rfl := Option.some.inj H
    exact fin2o rfl rfl e5 (Ow.zero (base := w.heap.size)) (Nat.le_refl _)
  · refine W_false (congrArg Value.bool q6) <| W_skip <| thn_n <| W_seq <| W_reg <| L_op (.plain rfl) rfl (ltb rfl) (X_move (v := v_a0) rfl) ?_
    obtain ⟨c7, H⟩ := bif_some H
    obtain ⟨c8, H⟩ := bif_some H
    obtain ⟨c9, H⟩ := bif_some H
    refine L_callO (.plain rfl) rfl (ltb rfl) rfl Tryz.call85 (impl_paths.calls (w := w4) (a0 := a0) (GV.ext gv e5) (Rd2.ext f_a0 e5) (of_decide_eq_true c7) (of_decide_eq_true c8) (of_decide_eq_true c9)) rfl <| fun v12 w10 e11 o13 => L_op (.plain rfl) rfl (ltb rfl) (X_assign (v := v12) rfl) <| L_op (.plain rfl) rfl (ltb rfl) (X_assign (v := (.int .i64 0)) rfl) <| L_nil <| thn_n <| W_ret <| fin_r ?_
    obtain rfl := Option.some.inj H
    exact fin2o rfl rfl (Ext.trans e5 e11) o13 (e5).size
theorem impl_PathsOf.calls {w : World} {a0 : List (List Rec)} (gv : GV 0 w) {v_a0 : Value} (f_a0 : Rd2 5 encRec w v_a0 a0) (h0 : a0.length ≤ 1048576) (h1 : ∀ l ∈ a0, l.length ≤ 1048576) (h2 : ∀ l ∈ a0, ∀ x ∈ l, x.path.length ≤ 1048576) :
    Calls Tryz.prog 37 #[v_a0] w (Rt (RT 9 1 encS w ((pathsOf a0).1) (.int .i64 ((pathsOf a0).2)))) := impl_PathsOf.walk gv f_a0 (impl_PathsOf.eq a0 h0 h1 h2)
/-! laws.FnExactPathsOf -/
theorem law_PathsOf.walk {w : World} {a0 : List (List Rec)} (gv : GV 0 w) {v_a0 : Value} (f_a0 : Rd2 5 encRec w v_a0 a0) {r : Bool} (H : law_PathsOf.sh a0 = some r) :
    Calls Tryz.prog 7 #[v_a0] w (Rt (RP w (.bool r))) := by
  unfold law_PathsOf.sh at H
  refine calls_of_W Tryz.func7 rfl (Nat.le_of_ble_eq_true rfl) Tryz.ntmps7 rfl ?_
  refine W_seq <| W_reg <| L_op (.plain rfl) rfl (ltb rfl) (X_assign (v := (.bool false)) rfl) <| L_nil <| thn_n <| W_seq <| W_reg <| L_op (.plain rfl) rfl (ltb rfl) (X_assign (v := (.int .i64 1048576)) rfl) <| L_nil <| thn_n <| W_seq <| W_reg <| L_op (.plain rfl) rfl (ltb rfl) (X_move (v := v_a0) rfl) <| L_op (.plain rfl) rfl (ltb rfl) (X_move (v := (.int .i64 1048576)) rfl) ?_
  obtain ⟨c1, H⟩ := bif_some H
  obtain ⟨c2, H⟩ := bif_some H
  obtain ⟨c3, H⟩ := bif_some H
  obtain ⟨c4, H⟩ := bif_some H
  obtain ⟨c5, H⟩ := bif_some H
  refine L_callP (.plain rfl) rfl (ltb rfl) rfl Tryz.call23 (laws_szRecordSS.calls (w := w) (a0 := a0) (a1 := 1048576) f_a0 (of_decide_eq_true c1) (of_decide_eq_true c2) (of_decide_eq_true c3) (of_decide_eq_true c4) (of_decide_eq_true c5)) rfl <| fun w6 e7 => L_op (.plain rfl) rfl (ltb rfl) (X_assign (v := (.int .i64 (szRecSS a0 1048576))) rfl) <| L_nil <| thn_n <| W_seq <| W_seq <| W_reg <| L_op (.plain rfl) rfl (ltb rfl) (X_move (v := (.int .i64 (szRecSS a0 1048576))) rfl) <| L_op (.plain rfl) rfl (ltb rfl) (X_lss rfl rfl) <| L_nil <| thn_n ?_
  rcases bif_two H with ⟨q8, H⟩ | ⟨q8, H⟩
  · refine W_true (congrArg Value.bool q8) <| W_seq <| W_reg <| L_op (.plain rfl) rfl (ltb rfl) (X_assign (v := (.bool true)) rfl) <| L_nil <| thn_n <| W_ret <| thn_r <| fin_r ?_
    obtain rfl := Option.some.inj H
    exact fin1 rfl e7
  · refine W_false (congrArg Value.bool q8) <| W_skip <| thn_n <| W_seq <| W_reg <| L_op (.plain rfl) rfl (ltb rfl) (X_move (v := v_a0) rfl) ?_
    obtain ⟨c9, H⟩ := bif_some H
    obtain ⟨c10, H⟩ := bif_some H
    refine L_callOS (.plain rfl) rfl (ltb rfl) rfl Tryz.call25 (laws_toRecordSS.calls (w := w6) (a0 := a0) (Rd2.ext f_a0 e7) (of_decide_eq_true c9) (of_decide_eq_true c10)) rfl <| fun v13 w11 e12 o14 => ?_
    obtain ⟨c15, H⟩ := bif_some H
    obtain ⟨c16, H⟩ := bif_some H
    obtain ⟨c17, H⟩ := bif_some H
    refine L_callT (.plain rfl) rfl (ltb rfl) rfl Tryz.call36 (spec_PathsOf.calls (w := w11) (a0 := a0) (Own2.rd o14) (of_decide_eq_true c15) (of_decide_eq_true c16) (of_decide_eq_true c17)) rfl <| fun v20 w18 e19 o21 => L_op (.plain rfl) rfl (ltb rfl) (X_move (v := (.tuple #[v20, (.int .i64 ((pathsOf a0).2))])) rfl) <| L_op (.plain rfl) rfl (ltb rfl) (X_extract (v := v20) rfl rfl) <| L_op (.plain rfl) rfl (ltb rfl) (X_extract (v := (.int .i64 ((pathsOf a0).2))) rfl rfl) <| L_op (.plain rfl) rfl (ltb rfl) (X_assign (v := v20) rfl) <| L_op (.plain rfl) rfl (ltb rfl) (X_assign (v := (.int .i64 ((pathsOf a0).2))) rfl) <| L_nil <| thn_n <| W_seq <| W_reg <| L_op (.plain rfl) rfl (ltb rfl) (X_move (v := v_a0) rfl) ?_
    obtain ⟨c22, H⟩ := bif_some H
    obtain ⟨c23, H⟩ := bif_some H
    refine L_callOS (.plain rfl) rfl (ltb rfl) rfl Tryz.call25 (laws_toRecordSS.calls (w := w18) (a0 := a0) (Rd2.ext f_a0 (Ext.trans (Ext.trans e7 e12) e19)) (of_decide_eq_true c22) (of_decide_eq_true c23)) rfl <| fun v26 w24 e25 o27 => L_op (.plain rfl) rfl (ltb rfl) (X_assign (v := v26) rfl) <| L_nil <| thn_n <| W_seq <| W_reg <| L_op (.plain rfl) rfl (ltb rfl) (X_move (v := v26) rfl) ?_
    obtain ⟨c28, H⟩ := bif_some H
    obtain ⟨c29, H⟩ := bif_some H
    obtain ⟨c30, H⟩ := bif_some H
    refine L_callT (.plain rfl) rfl (ltb rfl) rfl Tryz.call37 (impl_PathsOf.calls (w := w24) (a0 := a0) (GV.ext gv (Ext.trans (Ext.trans (Ext.trans e7 e12) e19) e25)) (Own2.rd o27) (of_decide_eq_true c28) (of_decide_eq_true c29) (of_decide_eq_true c30)) rfl <| fun v33 w31 e32 o34 => L_op (.plain rfl) rfl (ltb rfl) (X_move (v := (.tuple #[v33, (.int .i64 ((pathsOf a0).2))])) rfl) <| L_op (.plain rfl) rfl (ltb rfl) (X_extract (v := v33) rfl rfl) <| L_op (.plain rfl) rfl (ltb rfl) (X_extract (v := (.int .i64 ((pathsOf a0).2))) rfl rfl) <| L_op (.plain rfl) rfl (ltb rfl) (X_assign (v := v33) rfl) <| L_op (.plain rfl) rfl (ltb rfl) (X_assign (v := (.int .i64 ((pathsOf a0).2))) rfl) <| L_nil <| thn_n <| W_seq <| W_seq <| W_reg <| L_op (.plain rfl) rfl (ltb rfl) (X_move (v := v33) rfl) <| L_op (.plain rfl) rfl (ltb rfl) (X_move (v := v20) rfl) ?_
    obtain ⟨c35, H⟩ := bif_some H
    refine L_callP (.plain rfl) rfl (ltb rfl) rfl Tryz.call38 (laws_eqStringS.calls (w := w31) (a0 := (pathsOf a0).1) (a1 := (pathsOf a0).1) (Ow.rd o34) (Ow.rd (Ow.ext o21 (Ext.trans e25 e32))) (of_decide_eq_true c35)) rfl <| fun w36 e37 => L_op (.plain rfl) rfl (ltb rfl) (X_not rfl) <| L_op (.plain rfl) rfl (ltb rfl) (X_move (v := (.bool (!(decide (((pathsOf a0).1) = ((pathsOf a0).1)))))) rfl) <| L_grp 4 [(37, 41)] 40 (.bool ((!(decide (((pathsOf a0).1) = ((pathsOf a0).1)))) || (!decide (((pathsOf a0).2) = ((pathsOf a0).2))))) ?_ ?_
    · rcases bool_two (!(decide (((pathsOf a0).1) = ((pathsOf a0).1)))) with b37_ | b37_
      · exact L_skip rfl rfl (ltb rfl) (congrArg Value.bool b37_) rfl rfl (ltb rfl) <| L_skip rfl rfl (ltb rfl) (congrArg Value.bool b37_) rfl rfl (ltb rfl) <| L_skip rfl rfl (ltb rfl) (congrArg Value.bool b37_) rfl rfl (ltb rfl) <| L_op (.plain rfl) rfl (ltb rfl) (X_pick (b := true) (v := (.bool true)) (congrArg Value.bool b37_) rfl) <| L_nil <| thn_n ⟨(Kp.upd (Kp.upd (Kp.upd (Kp.upd (Kp.refl _ _) rfl) rfl) rfl) rfl), (or_t b37_), (Ext.refl w36)⟩
      · exact L_op (.guard 4 false 36 rfl rfl (ltb rfl) (congrArg Value.bool b37_)) rfl (ltb rfl) (X_move (v := (.int .i64 ((pathsOf a0).2))) rfl) <| L_op (.guard 4 false 36 rfl rfl (ltb rfl) (congrArg Value.bool b37_)) rfl (ltb rfl) (X_move (v := (.int .i64 ((pathsOf a0).2))) rfl) <| L_op (.guard 4 false 36 rfl rfl (ltb rfl) (congrArg Value.bool b37_)) rfl (ltb rfl) (X_neq rfl rfl) <| L_op (.plain rfl) rfl (ltb rfl) (X_pick (b := false) (v := (.bool (!decide (((pathsOf a0).2) = ((pathsOf a0).2))))) (congrArg Value.bool b37_) rfl) <| L_nil <| thn_n ⟨(Kp.upd (Kp.upd (Kp.upd (Kp.upd (Kp.refl _ _) rfl) rfl) rfl) rfl), (or_f b37_), (Ext.refl w36)⟩
    intro s43 w39 K40 h41 e42
    refine L_nil <| thn_n ?_
    rcases bif_two H with ⟨q44, H⟩ | ⟨q44, H⟩
    · refine W_true (h41.trans (congrArg Value.bool q44)) <| W_seq <| W_reg <| L_op (.plain rfl) rfl (ltb rfl) (X_assign (v := (.bool false)) rfl) <| L_nil <| thn_n <| W_ret <| thn_r <| fin_r ?_
      obtain rfl := Option.some.inj H
      exact fin1 rfl (Ext.trans (Ext.trans (Ext.trans (Ext.trans (Ext.trans (Ext.trans e7 e12) e19) e25) e32) e37) e42)
    · refine W_false (h41.trans (congrArg Value.bool q44)) <| W_skip <| thn_n <| W_seq <| W_seq <| W_reg <| L_op (.plain rfl) rfl (ltb rfl) (X_move (v := v26) (K40 6 rfl)) <| L_op (.plain rfl) rfl (ltb rfl) (X_move (v := v_a0) (K40 0 rfl)) ?_
      obtain ⟨c45, H⟩ := bif_some H
      obtain ⟨c46, H⟩ := bif_some H
      refine L_callOS (.plain rfl) rfl (ltb rfl) rfl Tryz.call25 (laws_toRecordSS.calls (w := w39) (a0 := a0) (Rd2.ext f_a0 (Ext.trans (Ext.trans (Ext.trans (Ext.trans (Ext.trans (Ext.trans e7 e12) e19) e25) e32) e37) e42)) (of_decide_eq_true c45) (of_decide_eq_true c46)) rfl <| fun v49 w47 e48 o50 => ?_
      obtain ⟨c51, H⟩ := bif_some H
      obtain ⟨c52, H⟩ := bif_some H
      refine L_callP (.plain rfl) rfl (ltb rfl) rfl Tryz.call27 (laws_eqRecordSS.calls (w := w47) (a0 := a0) (a1 := a0) (Own2.rd (Own2.ext o27 (Ext.trans (Ext.trans (Ext.trans e32 e37) e42) e48))) (Own2.rd o50) (of_decide_eq_true c51) (of_decide_eq_true c52)) rfl <| fun w53 e54 => L_op (.plain rfl) rfl (ltb rfl) (X_not rfl) <| L_nil <| thn_n ?_
      rcases bif_two H with ⟨q55, H⟩ | ⟨q55, H⟩
      · refine W_true (congrArg Value.bool q55) <| W_seq <| W_reg <| L_op (.plain rfl) rfl (ltb rfl) (X_assign (v := (.bool false)) rfl) <| L_nil <| thn_n <| W_ret <| thn_r <| fin_r ?_
        obtain rfl := Option.some.inj H
        exact fin1 rfl (Ext.trans (Ext.trans (Ext.trans (Ext.trans (Ext.trans (Ext.trans (Ext.trans (Ext.trans e7 e12) e19) e25) e32) e37) e42) e48) e54)
      · refine W_false (congrArg Value.bool q55) <| W_skip <| thn_n <| W_seq <| W_reg <| L_op (.plain rfl) rfl (ltb rfl) (X_assign (v := (.int .i64 1)) rfl) <| L_nil <| thn_n <| W_seq <| W_reg <| L_op (.plain rfl) rfl (ltb rfl) (X_move (v := v26) (K40 6 rfl)) <| L_op (.plain rfl) rfl (ltb rfl) (X_move (v := (.int .i64 1)) rfl) ?_
        obtain ⟨c56, H⟩ := bif_some H
        obtain ⟨c57, H⟩ := bif_some H
        obtain ⟨c58, H⟩ := bif_some H
        obtain ⟨c59, H⟩ := bif_some H
        refine L_callM2 (.plain rfl) rfl (ltb rfl) rfl Tryz.call28 (laws_markRecordSS.calls (w := w53) (a0 := a0) (a1 := 1) (Own2.ext o27 (Ext.trans (Ext.trans (Ext.trans (Ext.trans e32 e37) e42) e48) e54)) (Own2.hbx o27 (Ext.trans (Ext.trans (Ext.trans (Ext.trans e32 e37) e42) e48) e54)) (of_decide_eq_true c56) (of_decide_eq_true c57) (of_decide_eq_true c58) (of_decide_eq_true c59)) rfl <| fun w60 e61 o62 => L_op (.plain rfl) rfl (ltb rfl) (X_assign (v := (.int .i64 (1 + 5 * (totL a0 : Int)))) rfl) <| L_nil <| thn_n <| W_seq <| W_seq <| W_reg <| L_op (.plain rfl) rfl (ltb rfl) (X_move (v := (.int .i64 (1 + 5 * (totL a0 : Int)))) rfl) <| L_op (.plain rfl) rfl (ltb rfl) (X_lss rfl rfl) <| L_op (.plain rfl) rfl (ltb rfl) (X_move (v := (.bool (decide ((1 + 5 * (totL a0 : Int)) < 0)))) rfl) ?_
        obtain ⟨z64, x65, H⟩ := bind_some H
        refine L_grpE 5 [(52, 57)] 56 (fun q => q = z64) ?_ ?_
        · rcases bif_two x65 with ⟨b62_, H⟩ | ⟨b62_, H⟩
          · refine L_skip rfl rfl (ltb rfl) (congrArg Value.bool b62_) rfl rfl (ltb rfl) <| L_skip rfl rfl (ltb rfl) (congrArg Value.bool b62_) rfl rfl (ltb rfl) <| L_skip rfl rfl (ltb rfl) (congrArg Value.bool b62_) rfl rfl (ltb rfl) <| L_skip rfl rfl (ltb rfl) (congrArg Value.bool b62_) rfl rfl (ltb rfl) <| L_op (.plain rfl) rfl (ltb rfl) (X_pick (b := true) (v := (.bool true)) (congrArg Value.bool b62_) rfl) ?_
            obtain rfl := Option.some.inj H
            exact L_nil <| thn_n ⟨(Kp.upd (Kp.upd (Kp.upd (Kp.upd (Kp.upd (Kp.refl _ _) rfl) rfl) rfl) rfl) rfl), ⟨_, rfl, rfl⟩, (Ext.refl w60)⟩
          · refine L_op (.guard 2 false 51 rfl rfl (ltb rfl) (congrArg Value.bool b62_)) rfl (ltb rfl) (X_move (v := v33) (K40 7 rfl)) <| L_op (.guard 2 false 51 rfl rfl (ltb rfl) (congrArg Value.bool b62_)) rfl (ltb rfl) (X_move (v := v20) (K40 4 rfl)) ?_
            obtain ⟨c64, H⟩ := bif_some H
            refine L_callP (.guard 2 false 51 rfl rfl (ltb rfl) (congrArg Value.bool b62_)) rfl (ltb rfl) rfl Tryz.call38 (laws_eqStringS.calls (w := w60) (a0 := (pathsOf a0).1) (a1 := (pathsOf a0).1) (Ow.rd (Ow.later (Ow.ext o34 (Ext.trans (Ext.trans (Ext.trans e37 e42) e48) e54)) e61 (Ext.refl w24).size)) (Ow.rd (Ow.ext o21 (Ext.gr (Ext.trans (Ext.trans (Ext.trans (Ext.trans (Ext.trans e25 e32) e37) e42) e48) e54) e61 (Ext.refl w18).size))) (of_decide_eq_true c64)) rfl <| fun w65 e66 => L_op (.guard 2 false 51 rfl rfl (ltb rfl) (congrArg Value.bool b62_)) rfl (ltb rfl) (X_not rfl) <| L_op (.plain rfl) rfl (ltb rfl) (X_pick (b := false) (v := (.bool (!(decide (((pathsOf a0).1) = ((pathsOf a0).1)))))) (congrArg Value.bool b62_) rfl) ?_
            obtain rfl := Option.some.inj H
            exact L_nil <| thn_n ⟨(Kp.upd (Kp.upd (Kp.upd (Kp.upd (Kp.upd (Kp.refl _ _) rfl) rfl) rfl) rfl) rfl), ⟨_, rfl, rfl⟩, e66⟩
        intro s70 w66 z71 K67 hq h68 e69
        rw [hq] at h68; clear hq
        refine L_op (.plain rfl) rfl (ltb rfl) (X_move (v := (.bool z64)) h68) <| L_grp 4 [(58, 62)] 61 (.bool (z64 || (!decide (((pathsOf a0).2) = ((pathsOf a0).2))))) ?_ ?_
        · rcases bool_two z64 with b71_ | b71_
          · exact L_skip rfl rfl (ltb rfl) (congrArg Value.bool b71_) rfl rfl (ltb rfl) <| L_skip rfl rfl (ltb rfl) (congrArg Value.bool b71_) rfl rfl (ltb rfl) <| L_skip rfl rfl (ltb rfl) (congrArg Value.bool b71_) rfl rfl (ltb rfl) <| L_op (.plain rfl) rfl (ltb rfl) (X_pick (b := true) (v := (.bool true)) (congrArg Value.bool b71_) rfl) <| L_nil <| thn_n ⟨(Kp.upd (Kp.upd (Kp.upd (Kp.upd (Kp.refl _ _) rfl) rfl) rfl) rfl), (or_t b71_), (Ext.refl w66)⟩
          · exact L_op (.guard 8 false 57 rfl rfl (ltb rfl) (congrArg Value.bool b71_)) rfl (ltb rfl) (X_move (v := (.int .i64 ((pathsOf a0).2))) ((K67 8 rfl).trans (K40 8 rfl))) <| L_op (.guard 8 false 57 rfl rfl (ltb rfl) (congrArg Value.bool b71_)) rfl (ltb rfl) (X_move (v := (.int .i64 ((pathsOf a0).2))) ((K67 5 rfl).trans (K40 5 rfl))) <| L_op (.guard 8 false 57 rfl rfl (ltb rfl) (congrArg Value.bool b71_)) rfl (ltb rfl) (X_neq rfl rfl) <| L_op (.plain rfl) rfl (ltb rfl) (X_pick (b := false) (v := (.bool (!decide (((pathsOf a0).2) = ((pathsOf a0).2))))) (congrArg Value.bool b71_) rfl) <| L_nil <| thn_n ⟨(Kp.upd (Kp.upd (Kp.upd (Kp.upd (Kp.refl _ _) rfl) rfl) rfl) rfl), (or_f b71_), (Ext.refl w66)⟩
        intro s77 w73 K74 h75 e76
        refine L_nil <| thn_n ?_
        rcases bif_two H with ⟨q78, H⟩ | ⟨q78, H⟩
        · refine W_true (h75.trans (congrArg Value.bool q78)) <| W_seq <| W_reg <| L_op (.plain rfl) rfl (ltb rfl) (X_assign (v := (.bool false)) rfl) <| L_nil <| thn_n <| W_ret <| thn_r <| fin_r ?_
          obtain rfl := Option.some.inj H
          exact fin1 rfl (Ext.trans (Ext.trans (Ext.trans (Ext.trans (Ext.trans e7 e12) e19) (Ext.gr (Ext.trans (Ext.trans (Ext.trans (Ext.trans (Ext.trans e25 e32) e37) e42) e48) e54) e61 (Ext.refl w18).size)) e69) e76)
        · refine W_false (h75.trans (congrArg Value.bool q78)) <| W_skip <| thn_n <| W_seq <| W_reg <| L_op (.plain rfl) rfl (ltb rfl) (X_assign (v := (.int .i64 1)) rfl) <| L_nil <| thn_n <| W_seq <| W_reg <| L_op (.plain rfl) rfl (ltb rfl) (X_move (v := v33) ((K74 7 rfl).trans ((K67 7 rfl).trans (K40 7 rfl)))) <| L_op (.plain rfl) rfl (ltb rfl) (X_move (v := (.int .i64 1)) rfl) ?_
          obtain ⟨c79, H⟩ := bif_some H
          obtain ⟨c80, H⟩ := bif_some H
          obtain ⟨c81, H⟩ := bif_some H
          refine L_callM (.plain rfl) rfl (ltb rfl) rfl Tryz.call39 (laws_markStringS.calls (w := w73) (a0 := (pathsOf a0).1) (a1 := 1) (Ow.ext (Ow.later (Ow.ext o34 (Ext.trans (Ext.trans (Ext.trans e37 e42) e48) e54)) e61 (Ext.refl w24).size) (Ext.trans e69 e76)) (Ow.hb o34) (of_decide_eq_true c79) (of_decide_eq_true c80) (of_decide_eq_true c81)) rfl <| fun w82 e83 o84 => L_op (.plain rfl) rfl (ltb rfl) (X_assign (v := (.int .i64 (1 + (((pathsOf a0).1).length : Int)))) rfl) <| L_nil <| thn_n <| W_seq <| W_reg <| L_op (.plain rfl) rfl (ltb rfl) (X_assign (v := (.int .i64 1)) rfl) <| L_nil <| thn_n <| W_seq <| W_reg <| L_op (.plain rfl) rfl (ltb rfl) (X_move (v := v33) ((K74 7 rfl).trans ((K67 7 rfl).trans (K40 7 rfl)))) <| L_op (.plain rfl) rfl (ltb rfl) (X_move (v := (.int .i64 1)) rfl) ?_
          obtain ⟨c85, H⟩ := bif_some H
          obtain ⟨c86, H⟩ := bif_some H
          obtain ⟨c87, H⟩ := bif_some H
          refine L_callP (.plain rfl) rfl (ltb rfl) rfl Tryz.call40 (laws_heldStringS.calls (w := w82) (a0 := (marksS ((pathsOf a0).1).length 1)) (a1 := 1) (Ow.rd o84) (of_decide_eq_true c85) (of_decide_eq_true c86) (of_decide_eq_true c87)) rfl <| fun w88 e89 => L_op (.plain rfl) rfl (ltb rfl) (X_assign (v := (.int .i64 (heldS (marksS ((pathsOf a0).1).length 1) 1))) rfl) <| L_nil <| thn_n <| W_seq <| W_seq <| W_reg <| L_op (.plain rfl) rfl (ltb rfl) (X_move (v := (.int .i64 (heldS (marksS ((pathsOf a0).1).length 1) 1))) rfl) <| L_op (.plain rfl) rfl (ltb rfl) (X_lss rfl rfl) <| L_nil <| thn_n ?_
          rcases bif_two H with ⟨q90, H⟩ | ⟨q90, H⟩
          · refine W_true (congrArg Value.bool q90) <| W_seq <| W_reg <| L_op (.plain rfl) rfl (ltb rfl) (X_assign (v := (.bool false)) rfl) <| L_nil <| thn_n <| W_ret <| thn_r <| fin_r ?_
            obtain rfl := Option.some.inj H
            exact fin1 rfl (Ext.trans (Ext.trans (Ext.trans (Ext.trans e7 e12) e19) (Ext.gr (Ext.trans (Ext.trans (Ext.gr (Ext.trans (Ext.trans (Ext.trans (Ext.trans (Ext.trans e25 e32) e37) e42) e48) e54) e61 (Ext.refl w18).size) e69) e76) e83 e25.size)) e89)
          · refine W_false (congrArg Value.bool q90) <| W_skip <| thn_n <| W_seq <| W_seq <| W_reg <| L_op (.plain rfl) rfl (ltb rfl) (X_move (v := (.int .i64 (heldS (marksS ((pathsOf a0).1).length 1) 1))) rfl) <| L_op (.plain rfl) rfl (ltb rfl) (X_move (v := (.int .i64 (1 + (((pathsOf a0).1).length : Int)))) rfl) <| L_op (.plain rfl) rfl (ltb rfl) (X_neq rfl rfl) <| L_nil <| thn_n ?_
            rcases bif_two H with ⟨q91, H⟩ | ⟨q91, H⟩
            · refine W_true (congrArg Value.bool q91) <| W_seq <| W_reg <| L_op (.plain rfl) rfl (ltb rfl) (X_assign (v := (.bool false)) rfl) <| L_nil <| thn_n <| W_ret <| thn_r <| fin_r ?_
              obtain rfl := Option.some.inj H
              exact fin1 rfl (Ext.trans (Ext.trans (Ext.trans (Ext.trans e7 e12) e19) (Ext.gr (Ext.trans (Ext.trans (Ext.gr (Ext.trans (Ext.trans (Ext.trans (Ext.trans (Ext.trans e25 e32) e37) e42) e48) e54) e61 (Ext.refl w18).size) e69) e76) e83 e25.size)) e89)
            · refine W_false (congrArg Value.bool q91) <| W_skip <| thn_n <| W_seq <| W_reg <| L_op (.plain rfl) rfl (ltb rfl) (X_move (v := v_a0) ((K74 0 rfl).trans ((K67 0 rfl).trans (K40 0 rfl)))) ?_
              obtain ⟨c92, H⟩ := bif_some H
              obtain ⟨c93, H⟩ := bif_some H
              refine L_callOS (.plain rfl) rfl (ltb rfl) rfl Tryz.call25 (laws_toRecordSS.calls (w := w88) (a0 := a0) (Rd2.ext f_a0 (Ext.trans (Ext.trans (Ext.trans (Ext.trans e7 e12) e19) (Ext.gr (Ext.trans (Ext.trans (Ext.gr (Ext.trans (Ext.trans (Ext.trans (Ext.trans (Ext.trans e25 e32) e37) e42) e48) e54) e61 (Ext.refl w18).size) e69) e76) e83 e25.size)) e89)) (of_decide_eq_true c92) (of_decide_eq_true c93)) rfl <| fun v96 w94 e95 o97 => ?_
              obtain ⟨c98, H⟩ := bif_some H
              obtain ⟨c99, H⟩ := bif_some H
              obtain ⟨c100, H⟩ := bif_some H
              refine L_callT (.plain rfl) rfl (ltb rfl) rfl Tryz.call37 (impl_PathsOf.calls (w := w94) (a0 := a0) (GV.ext gv (Ext.trans (Ext.trans (Ext.trans (Ext.trans (Ext.trans e7 e12) e19) (Ext.gr (Ext.trans (Ext.trans (Ext.gr (Ext.trans (Ext.trans (Ext.trans (Ext.trans (Ext.trans e25 e32) e37) e42) e48) e54) e61 (Ext.refl w18).size) e69) e76) e83 e25.size)) e89) e95)) (Own2.rd o97) (of_decide_eq_true c98) (of_decide_eq_true c99) (of_decide_eq_true c100)) rfl <| fun v103 w101 e102 o104 => L_op (.plain rfl) rfl (ltb rfl) (X_move (v := (.tuple #[v103, (.int .i64 ((pathsOf a0).2))])) rfl) <| L_op (.plain rfl) rfl (ltb rfl) (X_extract (v := v103) rfl rfl) <| L_op (.plain rfl) rfl (ltb rfl) (X_extract (v := (.int .i64 ((pathsOf a0).2))) rfl rfl) <| L_op (.plain rfl) rfl (ltb rfl) (X_assign (v := v103) rfl) <| L_op (.plain rfl) rfl (ltb rfl) (X_assign (v := (.int .i64 ((pathsOf a0).2))) rfl) <| L_nil <| thn_n <| W_seq <| W_seq <| W_reg <| L_op (.plain rfl) rfl (ltb rfl) (X_move (v := v103) rfl) <| L_op (.plain rfl) rfl (ltb rfl) (X_move (v := v20) ((K74 4 rfl).trans ((K67 4 rfl).trans (K40 4 rfl)))) ?_
              obtain ⟨c105, H⟩ := bif_some H
              refine L_callP (.plain rfl) rfl (ltb rfl) rfl Tryz.call38 (laws_eqStringS.calls (w := w101) (a0 := (pathsOf a0).1) (a1 := (pathsOf a0).1) (Ow.rd o104) (Ow.rd (Ow.ext o21 (Ext.trans (Ext.trans (Ext.trans (Ext.gr (Ext.trans (Ext.trans (Ext.gr (Ext.trans (Ext.trans (Ext.trans (Ext.trans (Ext.trans e25 e32) e37) e42) e48) e54) e61 (Ext.refl w18).size) e69) e76) e83 e25.size) e89) e95) e102))) (of_decide_eq_true c105)) rfl <| fun w106 e107 => L_op (.plain rfl) rfl (ltb rfl) (X_not rfl) <| L_op (.plain rfl) rfl (ltb rfl) (X_move (v := (.bool (!(decide (((pathsOf a0).1) = ((pathsOf a0).1)))))) rfl) <| L_grp 4 [(84, 88)] 87 (.bool ((!(decide (((pathsOf a0).1) = ((pathsOf a0).1)))) || (!decide (((pathsOf a0).2) = ((pathsOf a0).2))))) ?_ ?_
              · rcases bool_two (!(decide (((pathsOf a0).1) = ((pathsOf a0).1)))) with b107_ | b107_
                · exact L_skip rfl rfl (ltb rfl) (congrArg Value.bool b107_) rfl rfl (ltb rfl) <| L_skip rfl rfl (ltb rfl) (congrArg Value.bool b107_) rfl rfl (ltb rfl) <| L_skip rfl rfl (ltb rfl) (congrArg Value.bool b107_) rfl rfl (ltb rfl) <| L_op (.plain rfl) rfl (ltb rfl) (X_pick (b := true) (v := (.bool true)) (congrArg Value.bool b107_) rfl) <| L_nil <| thn_n ⟨(Kp.upd (Kp.upd (Kp.upd (Kp.upd (Kp.refl _ _) rfl) rfl) rfl) rfl), (or_t b107_), (Ext.refl w106)⟩
                · exact L_op (.guard 4 false 83 rfl rfl (ltb rfl) (congrArg Value.bool b107_)) rfl (ltb rfl) (X_move (v := (.int .i64 ((pathsOf a0).2))) rfl) <| L_op (.guard 4 false 83 rfl rfl (ltb rfl) (congrArg Value.bool b107_)) rfl (ltb rfl) (X_move (v := (.int .i64 ((pathsOf a0).2))) ((K74 5 rfl).trans ((K67 5 rfl).trans (K40 5 rfl)))) <| L_op (.guard 4 false 83 rfl rfl (ltb rfl) (congrArg Value.bool b107_)) rfl (ltb rfl) (X_neq rfl rfl) <| L_op (.plain rfl) rfl (ltb rfl) (X_pick (b := false) (v := (.bool (!decide (((pathsOf a0).2) = ((pathsOf a0).2))))) (congrArg Value.bool b107_) rfl) <| L_nil <| thn_n ⟨(Kp.upd (Kp.upd (Kp.upd (Kp.upd (Kp.refl _ _) rfl) rfl) rfl) rfl), (or_f b107_), (Ext.refl w106)⟩
              intro s113 w109 K110 h111 e112
              refine L_nil <| thn_n ?_
              rcases bif_two H with ⟨q114, H⟩ | ⟨q114, H⟩
              · refine W_true (h111.trans (congrArg Value.bool q114)) <| W_seq <| W_reg <| L_op (.plain rfl) rfl (ltb rfl) (X_assign (v := (.bool false)) rfl) <| L_nil <| thn_n <| W_ret <| thn_r <| fin_r ?_
                obtain rfl := Option.some.inj H
                exact fin1 rfl (Ext.trans (Ext.trans (Ext.trans (Ext.trans (Ext.trans (Ext.trans (Ext.trans (Ext.trans e7 e12) e19) (Ext.gr (Ext.trans (Ext.trans (Ext.gr (Ext.trans (Ext.trans (Ext.trans (Ext.trans (Ext.trans e25 e32) e37) e42) e48) e54) e61 (Ext.refl w18).size) e69) e76) e83 e25.size)) e89) e95) e102) e107) e112)
              · refine W_false (h111.trans (congrArg Value.bool q114)) <| W_skip <| thn_n <| W_seq <| W_reg <| L_op (.plain rfl) rfl (ltb rfl) (X_assign (v := (.int .i64 1)) rfl) <| L_nil <| thn_n <| W_seq <| W_reg <| L_op (.plain rfl) rfl (ltb rfl) (X_move (v := v33) ((K110 7 rfl).trans ((K74 7 rfl).trans ((K67 7 rfl).trans (K40 7 rfl))))) <| L_op (.plain rfl) rfl (ltb rfl) (X_move (v := (.int .i64 1)) rfl) ?_
                obtain ⟨c115, H⟩ := bif_some H
                obtain ⟨c116, H⟩ := bif_some H
                obtain ⟨c117, H⟩ := bif_some H
                refine L_callP (.plain rfl) rfl (ltb rfl) rfl Tryz.call40 (laws_heldStringS.calls (w := w109) (a0 := (marksS ((pathsOf a0).1).length 1)) (a1 := 1) (Ow.rd (Ow.ext o84 (Ext.trans (Ext.trans (Ext.trans (Ext.trans e89 e95) e102) e107) e112))) (of_decide_eq_true c115) (of_decide_eq_true c116) (of_decide_eq_true c117)) rfl <| fun w118 e119 => L_op (.plain rfl) rfl (ltb rfl) (X_assign (v := (.int .i64 (heldS (marksS ((pathsOf a0).1).length 1) 1))) rfl) <| L_nil <| thn_n <| W_seq <| W_seq <| W_reg <| L_op (.plain rfl) rfl (ltb rfl) (X_move (v := (.int .i64 (heldS (marksS ((pathsOf a0).1).length 1) 1))) rfl) <| L_op (.plain rfl) rfl (ltb rfl) (X_lss rfl rfl) <| L_nil <| thn_n ?_
                rcases bif_two H with ⟨q120, H⟩ | ⟨q120, H⟩
                · refine W_true (congrArg Value.bool q120) <| W_seq <| W_reg <| L_op (.plain rfl) rfl (ltb rfl) (X_assign (v := (.bool false)) rfl) <| L_nil <| thn_n <| W_ret <| thn_r <| fin_r ?_
                  obtain rfl := Option.some.inj H
                  exact fin1 rfl (Ext.trans (Ext.trans (Ext.trans (Ext.trans (Ext.trans (Ext.trans (Ext.trans (Ext.trans (Ext.trans e7 e12) e19) (Ext.gr (Ext.trans (Ext.trans (Ext.gr (Ext.trans (Ext.trans (Ext.trans (Ext.trans (Ext.trans e25 e32) e37) e42) e48) e54) e61 (Ext.refl w18).size) e69) e76) e83 e25.size)) e89) e95) e102) e107) e112) e119)
                · refine W_false (congrArg Value.bool q120) <| W_skip <| thn_n <| W_seq <| W_seq <| W_reg <| L_op (.plain rfl) rfl (ltb rfl) (X_move (v := (.int .i64 (heldS (marksS ((pathsOf a0).1).length 1) 1))) rfl) <| L_op (.plain rfl) rfl (ltb rfl) (X_move (v := (.int .i64 (1 + (((pathsOf a0).1).length : Int)))) (K110 10 rfl)) <| L_op (.plain rfl) rfl (ltb rfl) (X_neq rfl rfl) <| L_nil <| thn_n ?_
                  rcases bif_two H with ⟨q121, H⟩ | ⟨q121, H⟩
                  · refine W_true (congrArg Value.bool q121) <| W_seq <| W_reg <| L_op (.plain rfl) rfl (ltb rfl) (X_assign (v := (.bool false)) rfl) <| L_nil <| thn_n <| W_ret <| thn_r <| fin_r ?_
                    obtain rfl := Option.some.inj H
                    exact fin1 rfl (Ext.trans (Ext.trans (Ext.trans (Ext.trans (Ext.trans (Ext.trans (Ext.trans (Ext.trans (Ext.trans e7 e12) e19) (Ext.gr (Ext.trans (Ext.trans (Ext.gr (Ext.trans (Ext.trans (Ext.trans (Ext.trans (Ext.trans e25 e32) e37) e42) e48) e54) e61 (Ext.refl w18).size) e69) e76) e83 e25.size)) e89) e95) e102) e107) e112) e119)
                  · refine W_false (congrArg Value.bool q121) <| W_skip <| thn_n <| W_seq <| W_reg <| L_op (.plain rfl) rfl (ltb rfl) (X_assign (v := (.bool true)) rfl) <| L_nil <| thn_n <| W_ret <| fin_r ?_
                    obtain rfl := Option.some.inj H
                    exact fin1 rfl (Ext.trans (Ext.trans (Ext.trans (Ext.trans (Ext.trans (Ext.trans (Ext.trans (Ext.trans (Ext.trans e7 e12) e19) (Ext.gr (Ext.trans (Ext.trans (Ext.gr (Ext.trans (Ext.trans (Ext.trans (Ext.trans (Ext.trans e25 e32) e37) e42) e48) e54) e61 (Ext.refl w18).size) e69) e76) e83 e25.size)) e89) e95) e102) e107) e112) e119)
theorem law_PathsOf.calls {w : World} {a0 : List (List Rec)} (gv : GV 0 w) {v_a0 : Value} (f_a0 : Rd2 5 encRec w v_a0 a0) (h0 : ∀ l ∈ a0, ∀ x ∈ l, okRec x) (h1 : a0.length ≤ 9223372036854775807) (h2 : ∀ l ∈ a0, l.length ≤ 9223372036854775807) :
    Calls Tryz.prog 7 #[v_a0] w (Rt (RP w (.bool true))) := law_PathsOf.walk gv f_a0 (law_PathsOf.eq a0 h0 h1 h2)
end Go.Proofs.YthpjkenkbfkdhaaGreatDoor
