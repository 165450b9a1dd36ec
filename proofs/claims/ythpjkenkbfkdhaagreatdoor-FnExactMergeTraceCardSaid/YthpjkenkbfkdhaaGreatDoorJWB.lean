/- The walks, by program (wip/tools). -/
import Derived.Test.YthpjkenkbfkdhaaGreatDoorProg
import Derived.Test.YthpjkenkbfkdhaaGreatDoorKI
import Derived.Test.YthpjkenkbfkdhaaGreatDoorJWA
set_option linter.unusedVariables false
set_option maxRecDepth 10000
namespace Go.Proofs.YthpjkenkbfkdhaaGreatDoor
open Go.UL Go.RowKit
/-! spec.l03Fault -/
abbrev spec_l03Fault.e1 (a0 : List Rec) (x4_1 : Int) := (lessL (cut 47 ((gt a0 (IntKind.wrap .i64 (x4_1 - 1))).path)) (cut 47 ((gt a0 x4_1).path)))
theorem spec_l03Fault.walk {k : Nat} {w : World} {a0 : List Rec} {v_a0 : Value} (f_a0 : Rd 5 encRec w v_a0 a0) {r : Int × Int} (H : spec_l03Fault.sh k a0 = some r) :
    Calls Tryz.prog 109 #[v_a0] w (Rt (RP w (.tuple #[.int .i64 r.1, .int .i64 r.2]))) := by
  unfold spec_l03Fault.sh at H
  refine calls_of_W Tryz.func109 rfl (Nat.le_of_ble_eq_true rfl) Tryz.ntmps109 rfl ?_
  refine W_seq <| W_reg <| L_op (.plain rfl) rfl (ltb rfl) (X_assign (v := (.int .i64 0)) rfl) <| L_op (.plain rfl) rfl (ltb rfl) (X_assign (v := (.int .i64 0)) rfl) <| L_nil <| thn_n <| W_seq <| W_seq <| W_reg <| L_op (.plain rfl) rfl (ltb rfl) (X_assign (v := (.int .i64 0)) rfl) <| L_nil <| thn_n ?_
  obtain ⟨z2, L3, C4⟩ := bind_some H
  clear H
  refine  W_cutQ (fun s0 sQ wQ => Kp [(2, 84)] s0 sQ ∧ Ext w wQ ∧ z2 = .inr ()) ?_ ?_
  · refine W_block <| W_loopI (fun s0 kk sQ wQ => ∃ (x4_1 : Int), Kp [(2, 84)] s0 sQ ∧ sQ 4 = .int .i64 x4_1 ∧ Ext w wQ ∧ loopF (spec_l03Fault.b1 a0) kk x4_1 = some z2) k ⟨0, (Kp.refl _ _), rfl, (Ext.refl w), L3⟩ ?_
    rintro k9 s10 w11 ⟨x4_1, K12, h15, e13, L14⟩
    cases k9 with
    | zero => exact absurd L14 (by simp [loopF])
    | succ k9 =>
      obtain ⟨t16, H, S17⟩ := loopF_succ L14
      clear L14
      unfold spec_l03Fault.b1 at H
      refine W_seq <| W_seq <| W_reg <| L_op (.plain rfl) rfl (ltb rfl) (X_move (v := (.int .i64 x4_1)) h15) <| L_op (.plain rfl) rfl (ltb rfl) (X_move (v := v_a0) (K12 0 rfl)) <| L_op (.plain rfl) rfl (ltb rfl) (X_lenR Tryz.underlying28 rfl (Rd.ext f_a0 e13)) <| L_op (.plain rfl) rfl (ltb rfl) (X_lss rfl rfl) <| L_nil <| thn_n ?_
      rcases bif_two H with ⟨q18, H⟩ | ⟨q18, H⟩
      · refine W_true (congrArg Value.bool q18) <| W_skip <| thn_n <| W_seq <| W_block <| W_seq <| W_seq <| W_reg <| L_op (.plain rfl) rfl (ltb rfl) (X_move (v := (.int .i64 x4_1)) h15) <| L_op (.plain rfl) rfl (ltb rfl) (X_eql rfl rfl) <| L_nil <| thn_n ?_
        rcases bif_two H with ⟨q19, H⟩ | ⟨q19, H⟩
        · refine W_true (congrArg Value.bool q19) <| W_seq <| W_reg <| L_op (.plain rfl) rfl (ltb rfl) (X_move (v := (.int .i64 x4_1)) h15) <| L_op (.plain rfl) rfl (ltb rfl) (X_assign (v := (.int .i64 x4_1)) rfl) <| L_op (.plain rfl) rfl (ltb rfl) (X_assign (v := (.int .i64 6)) rfl) <| L_nil <| thn_n <| W_ret <| thn_r <| blk_r <| thn_r <| thn_r <| blk_r <| thn_r <| thn_r <| fin_r ?_
          obtain rfl := Option.some.inj H
          obtain rfl := Option.some.inj S17
          have H := C4
          obtain rfl := Option.some.inj H
          exact fin2 rfl rfl e13
        · refine W_false (congrArg Value.bool q19) <| W_skip <| thn_n <| W_seq <| W_seq <| W_reg <| L_op (.plain rfl) rfl (ltb rfl) (X_move (v := v_a0) (K12 0 rfl)) <| L_op (.plain rfl) rfl (ltb rfl) (X_move (v := (.int .i64 x4_1)) h15) ?_
          obtain ⟨c20, H⟩ := bif_some H
          refine L_idx (.plain rfl) rfl (ltb rfl) rfl Tryz.underlying28 Tryz.sizeOf78 rfl (Rd.ext f_a0 e13) rfl c20 <| fun p21 h22 => L_op (.plain rfl) rfl (ltb rfl) (X_loadS Tryz.isAgg78 Tryz.sizeOf78 rfl rfl h22) <| L_callP (.plain rfl) rfl (ltb rfl) rfl Tryz.call160 (spec_l02Fault.calls (w := w11) (a0 := gt a0 x4_1)) rfl <| fun w23 e24 => L_op (.plain rfl) rfl (ltb rfl) (X_assign (v := (.int .i64 (recFault (gt a0 x4_1)))) rfl) <| L_nil <| thn_n <| W_seq <| W_reg <| L_op (.plain rfl) rfl (ltb rfl) (X_move (v := (.int .i64 (recFault (gt a0 x4_1)))) rfl) <| L_op (.plain rfl) rfl (ltb rfl) (X_neq rfl rfl) <| L_nil <| thn_n ?_
          rcases bif_two H with ⟨q25, H⟩ | ⟨q25, H⟩
          · refine W_true (congrArg Value.bool q25) <| W_seq <| W_reg <| L_op (.plain rfl) rfl (ltb rfl) (X_move (v := (.int .i64 x4_1)) h15) <| L_op (.plain rfl) rfl (ltb rfl) (X_move (v := (.int .i64 (recFault (gt a0 x4_1)))) rfl) <| L_op (.plain rfl) rfl (ltb rfl) (X_assign (v := (.int .i64 x4_1)) rfl) <| L_op (.plain rfl) rfl (ltb rfl) (X_assign (v := (.int .i64 (recFault (gt a0 x4_1)))) rfl) <| L_nil <| thn_n <| W_ret <| thn_r <| blk_r <| thn_r <| thn_r <| blk_r <| thn_r <| thn_r <| fin_r ?_
            obtain rfl := Option.some.inj H
            obtain rfl := Option.some.inj S17
            have H := C4
            obtain rfl := Option.some.inj H
            exact fin2 rfl rfl (Ext.trans e13 e24)
          · refine W_false (congrArg Value.bool q25) <| W_skip <| thn_n <| W_seq <| W_seq ?_
            obtain ⟨c26, H⟩ := bif_some H
            obtain ⟨c29, H⟩ := bif_some H
            refine W_drawM [LEq (.int .i64 x4_1), LEq (.bool (decide (0 < x4_1))), LEq (.bool (decide (0 < x4_1))), LIf (decide (0 < x4_1)) (LEq v_a0), LIf (decide (0 < x4_1)) (LEq (.int .i64 x4_1)), LIf (decide (0 < x4_1)) (LAt0 (encRec (gt a0 x4_1))), LIf (decide (0 < x4_1)) (LAt 1 (encRec (gt a0 x4_1))), LIf (decide (0 < x4_1)) (LEq (S ((gt a0 x4_1).path))), LIf (decide (0 < x4_1)) (LEq v_a0), LIf (decide (0 < x4_1)) (LEq (.int .i64 x4_1)), LIf (decide (0 < x4_1)) (LEq (.int .i64 (IntKind.wrap .i64 (x4_1 - 1)))), LIf (decide (0 < x4_1)) (LAt0 (encRec (gt a0 (IntKind.wrap .i64 (x4_1 - 1))))), LIf (decide (0 < x4_1)) (LAt 1 (encRec (gt a0 (IntKind.wrap .i64 (x4_1 - 1))))), LIf (decide (0 < x4_1)) (LEq (S ((gt a0 (IntKind.wrap .i64 (x4_1 - 1))).path))), LIf (decide (0 < x4_1)) (LEq (.bool (decide (((gt a0 x4_1).path) = ((gt a0 (IntKind.wrap .i64 (x4_1 - 1))).path))))), LEq (.bool ((decide (0 < x4_1)) && (decide (((gt a0 x4_1).path) = ((gt a0 (IntKind.wrap .i64 (x4_1 - 1))).path)))))] (by kernel_rfl) (by kernel_rfl) ⟨LEq.mono, LEq.mono, LEq.mono, (LIf.mono LEq.mono), (LIf.mono LEq.mono), (LIf.mono LAt0.mono), (LIf.mono LAt.mono), (LIf.mono LEq.mono), (LIf.mono LEq.mono), (LIf.mono LEq.mono), (LIf.mono LEq.mono), (LIf.mono LAt0.mono), (LIf.mono LAt.mono), (LIf.mono LEq.mono), (LIf.mono LEq.mono), LEq.mono, trivial⟩ ⟨?_, ?_, ?_, ?_, ?_, ?_, ?_, ?_, ?_, ?_, ?_, ?_, ?_, ?_, ?_, ?_, trivial⟩ ?_
            · intro s32 w33 e34 hf35 hd36 hu37
              exact L_op (.plain rfl) rfl (ltb rfl) (X_move (v := (.int .i64 x4_1)) ((hf35 4 rfl).trans h15)) <| L_nil <| stepEnd rfl rfl (Ext.refl w33) rfl
            · intro s38 w39 e40 hf41 hd42 hu43
              have d44 : s38 26 = (.int .i64 x4_1) := (hd42 0 rfl)
              exact L_op (.plain rfl) rfl (ltb rfl) (X_gtr d44 rfl) <| L_nil <| stepEnd rfl rfl (Ext.refl w39) rfl
            · intro s45 w46 e47 hf48 hd49 hu50
              have d51 : s45 27 = (.bool (decide (0 < x4_1))) := (hd49 1 rfl)
              exact L_op (.plain rfl) rfl (ltb rfl) (X_move (v := (.bool (decide (0 < x4_1)))) d51) <| L_nil <| stepEnd rfl rfl (Ext.refl w46) rfl
            · intro s52 w53 e54 hf55 hd56 hu57
              rcases bool_two (decide (0 < x4_1)) with b58 | b58
              · have g59 : (decide (0 < x4_1)) = true := b58
                have d60 : s52 28 = (.bool (decide (0 < x4_1))) := (hd56 2 rfl)
                have d61 : s52 28 = (.bool (decide (0 < x4_1))) := (hd56 2 rfl)
                exact L_op (.guard 2 true 28 rfl rfl (ltb rfl) (d60.trans (congrArg Value.bool g59))) rfl (ltb rfl) (X_move (v := v_a0) ((hf55 0 rfl).trans (K12 0 rfl))) <| L_nil <| stepEnd rfl rfl (Ext.refl w53) ⟨fun _ => rfl, fun h => absurd (b58.symm.trans h) (by decide)⟩
              · have d62 : s52 28 = (.bool (decide (0 < x4_1))) := (hd56 2 rfl)
                have g63 : (decide (0 < x4_1)) = false := b58
                exact L_skip rfl rfl (ltb rfl) (d62.trans (congrArg Value.bool g63)) rfl rfl (ltb rfl) <| L_nil <| stepEnd rfl rfl (Ext.refl w53) ⟨fun h => absurd (b58.symm.trans h) (by decide), fun _ => rfl⟩
            · intro s64 w65 e66 hf67 hd68 hu69
              rcases bool_two (decide (0 < x4_1)) with b70 | b70
              · have g71 : (decide (0 < x4_1)) = true := b70
                have d72 : s64 28 = (.bool (decide (0 < x4_1))) := (hd68 2 rfl)
                have d73 : s64 28 = (.bool (decide (0 < x4_1))) := (hd68 2 rfl)
                exact L_op (.guard 2 true 28 rfl rfl (ltb rfl) (d72.trans (congrArg Value.bool g71))) rfl (ltb rfl) (X_move (v := (.int .i64 x4_1)) ((hf67 4 rfl).trans h15)) <| L_nil <| stepEnd rfl rfl (Ext.refl w65) ⟨fun _ => rfl, fun h => absurd (b70.symm.trans h) (by decide)⟩
              · have d74 : s64 28 = (.bool (decide (0 < x4_1))) := (hd68 2 rfl)
                have g75 : (decide (0 < x4_1)) = false := b70
                exact L_skip rfl rfl (ltb rfl) (d74.trans (congrArg Value.bool g75)) rfl rfl (ltb rfl) <| L_nil <| stepEnd rfl rfl (Ext.refl w65) ⟨fun h => absurd (b70.symm.trans h) (by decide), fun _ => rfl⟩
            · intro s76 w77 e78 hf79 hd80 hu81
              rcases bool_two (decide (0 < x4_1)) with b82 | b82
              · have g83 : (decide (0 < x4_1)) = true := b82
                have d84 : s76 28 = (.bool (decide (0 < x4_1))) := (hd80 2 rfl)
                have d85 : s76 28 = (.bool (decide (0 < x4_1))) := (hd80 2 rfl)
                have d86 : s76 29 = v_a0 := ((hd80 3 rfl).1 b82)
                have d87 : s76 30 = (.int .i64 x4_1) := ((hd80 4 rfl).1 b82)
                have c88 := imp_take b82 c26
                exact L_idx (.guard 2 true 28 rfl rfl (ltb rfl) (d84.trans (congrArg Value.bool g83))) rfl (ltb rfl) rfl Tryz.underlying28 Tryz.sizeOf78 d86 (Rd.ext f_a0 (Ext.trans (Ext.trans e13 e24) e78)) d87 c88 <| fun p89 h90 => L_nil <| stepEnd rfl rfl (Ext.refl w77) ⟨fun _ => ⟨_, rfl, h90⟩, fun h => absurd (b82.symm.trans h) (by decide)⟩
              · have d91 : s76 28 = (.bool (decide (0 < x4_1))) := (hd80 2 rfl)
                have g92 : (decide (0 < x4_1)) = false := b82
                exact L_skip rfl rfl (ltb rfl) (d91.trans (congrArg Value.bool g92)) rfl rfl (ltb rfl) <| L_nil <| stepEnd rfl rfl (Ext.refl w77) ⟨fun h => absurd (b82.symm.trans h) (by decide), fun _ => rfl⟩
            · intro s93 w94 e95 hf96 hd97 hu98
              rcases bool_two (decide (0 < x4_1)) with b99 | b99
              · have g100 : (decide (0 < x4_1)) = true := b99
                have d101 : s93 28 = (.bool (decide (0 < x4_1))) := (hd97 2 rfl)
                have d102 : s93 28 = (.bool (decide (0 < x4_1))) := (hd97 2 rfl)
                obtain ⟨p103, h104, h105⟩ := ((hd97 5 rfl).1 b99)
                exact L_op (.guard 2 true 28 rfl rfl (ltb rfl) (d101.trans (congrArg Value.bool g100))) rfl (ltb rfl) (X_fieldAddr Tryz.underlying78 rfl Tryz.sizeOf9 rfl h104) <| L_nil <| stepEnd rfl rfl (Ext.refl w94) ⟨fun _ => ⟨_, rfl, h105⟩, fun h => absurd (b99.symm.trans h) (by decide)⟩
              · have d106 : s93 28 = (.bool (decide (0 < x4_1))) := (hd97 2 rfl)
                have g107 : (decide (0 < x4_1)) = false := b99
                exact L_skip rfl rfl (ltb rfl) (d106.trans (congrArg Value.bool g107)) rfl rfl (ltb rfl) <| L_nil <| stepEnd rfl rfl (Ext.refl w94) ⟨fun h => absurd (b99.symm.trans h) (by decide), fun _ => rfl⟩
            · intro s108 w109 e110 hf111 hd112 hu113
              rcases bool_two (decide (0 < x4_1)) with b114 | b114
              · have g115 : (decide (0 < x4_1)) = true := b114
                have d116 : s108 28 = (.bool (decide (0 < x4_1))) := (hd112 2 rfl)
                have d117 : s108 28 = (.bool (decide (0 < x4_1))) := (hd112 2 rfl)
                obtain ⟨p118, h119, h120⟩ := ((hd112 6 rfl).1 b114)
                exact L_op (.guard 2 true 28 rfl rfl (ltb rfl) (d116.trans (congrArg Value.bool g115))) rfl (ltb rfl) (X_loadF Tryz.isAgg9 (j := 1) h120 h119 rfl) <| L_nil <| stepEnd rfl rfl (Ext.refl w109) ⟨fun _ => rfl, fun h => absurd (b114.symm.trans h) (by decide)⟩
              · have d121 : s108 28 = (.bool (decide (0 < x4_1))) := (hd112 2 rfl)
                have g122 : (decide (0 < x4_1)) = false := b114
                exact L_skip rfl rfl (ltb rfl) (d121.trans (congrArg Value.bool g122)) rfl rfl (ltb rfl) <| L_nil <| stepEnd rfl rfl (Ext.refl w109) ⟨fun h => absurd (b114.symm.trans h) (by decide), fun _ => rfl⟩
            · intro s123 w124 e125 hf126 hd127 hu128
              rcases bool_two (decide (0 < x4_1)) with b129 | b129
              · have g130 : (decide (0 < x4_1)) = true := b129
                have d131 : s123 28 = (.bool (decide (0 < x4_1))) := (hd127 2 rfl)
                have d132 : s123 28 = (.bool (decide (0 < x4_1))) := (hd127 2 rfl)
                exact L_op (.guard 2 true 28 rfl rfl (ltb rfl) (d131.trans (congrArg Value.bool g130))) rfl (ltb rfl) (X_move (v := v_a0) ((hf126 0 rfl).trans (K12 0 rfl))) <| L_nil <| stepEnd rfl rfl (Ext.refl w124) ⟨fun _ => rfl, fun h => absurd (b129.symm.trans h) (by decide)⟩
              · have d133 : s123 28 = (.bool (decide (0 < x4_1))) := (hd127 2 rfl)
                have g134 : (decide (0 < x4_1)) = false := b129
                exact L_skip rfl rfl (ltb rfl) (d133.trans (congrArg Value.bool g134)) rfl rfl (ltb rfl) <| L_nil <| stepEnd rfl rfl (Ext.refl w124) ⟨fun h => absurd (b129.symm.trans h) (by decide), fun _ => rfl⟩
            · intro s135 w136 e137 hf138 hd139 hu140
              rcases bool_two (decide (0 < x4_1)) with b141 | b141
              · have g142 : (decide (0 < x4_1)) = true := b141
                have d143 : s135 28 = (.bool (decide (0 < x4_1))) := (hd139 2 rfl)
                have d144 : s135 28 = (.bool (decide (0 < x4_1))) := (hd139 2 rfl)
                exact L_op (.guard 2 true 28 rfl rfl (ltb rfl) (d143.trans (congrArg Value.bool g142))) rfl (ltb rfl) (X_move (v := (.int .i64 x4_1)) ((hf138 4 rfl).trans h15)) <| L_nil <| stepEnd rfl rfl (Ext.refl w136) ⟨fun _ => rfl, fun h => absurd (b141.symm.trans h) (by decide)⟩
              · have d145 : s135 28 = (.bool (decide (0 < x4_1))) := (hd139 2 rfl)
                have g146 : (decide (0 < x4_1)) = false := b141
                exact L_skip rfl rfl (ltb rfl) (d145.trans (congrArg Value.bool g146)) rfl rfl (ltb rfl) <| L_nil <| stepEnd rfl rfl (Ext.refl w136) ⟨fun h => absurd (b141.symm.trans h) (by decide), fun _ => rfl⟩
            · intro s147 w148 e149 hf150 hd151 hu152
              rcases bool_two (decide (0 < x4_1)) with b153 | b153
              · have g154 : (decide (0 < x4_1)) = true := b153
                have d155 : s147 28 = (.bool (decide (0 < x4_1))) := (hd151 2 rfl)
                have d156 : s147 28 = (.bool (decide (0 < x4_1))) := (hd151 2 rfl)
                have d157 : s147 35 = (.int .i64 x4_1) := ((hd151 9 rfl).1 b153)
                exact L_op (.guard 2 true 28 rfl rfl (ltb rfl) (d155.trans (congrArg Value.bool g154))) rfl (ltb rfl) (X_sub d157 rfl) <| L_nil <| stepEnd rfl rfl (Ext.refl w148) ⟨fun _ => rfl, fun h => absurd (b153.symm.trans h) (by decide)⟩
              · have d158 : s147 28 = (.bool (decide (0 < x4_1))) := (hd151 2 rfl)
                have g159 : (decide (0 < x4_1)) = false := b153
                exact L_skip rfl rfl (ltb rfl) (d158.trans (congrArg Value.bool g159)) rfl rfl (ltb rfl) <| L_nil <| stepEnd rfl rfl (Ext.refl w148) ⟨fun h => absurd (b153.symm.trans h) (by decide), fun _ => rfl⟩
            · intro s160 w161 e162 hf163 hd164 hu165
              rcases bool_two (decide (0 < x4_1)) with b166 | b166
              · have g167 : (decide (0 < x4_1)) = true := b166
                have d168 : s160 28 = (.bool (decide (0 < x4_1))) := (hd164 2 rfl)
                have d169 : s160 28 = (.bool (decide (0 < x4_1))) := (hd164 2 rfl)
                have d170 : s160 34 = v_a0 := ((hd164 8 rfl).1 b166)
                have d171 : s160 36 = (.int .i64 (IntKind.wrap .i64 (x4_1 - 1))) := ((hd164 10 rfl).1 b166)
                have c172 := imp_take b166 c29
                exact L_idx (.guard 2 true 28 rfl rfl (ltb rfl) (d168.trans (congrArg Value.bool g167))) rfl (ltb rfl) rfl Tryz.underlying28 Tryz.sizeOf78 d170 (Rd.ext f_a0 (Ext.trans (Ext.trans e13 e24) e162)) d171 c172 <| fun p173 h174 => L_nil <| stepEnd rfl rfl (Ext.refl w161) ⟨fun _ => ⟨_, rfl, h174⟩, fun h => absurd (b166.symm.trans h) (by decide)⟩
              · have d175 : s160 28 = (.bool (decide (0 < x4_1))) := (hd164 2 rfl)
                have g176 : (decide (0 < x4_1)) = false := b166
                exact L_skip rfl rfl (ltb rfl) (d175.trans (congrArg Value.bool g176)) rfl rfl (ltb rfl) <| L_nil <| stepEnd rfl rfl (Ext.refl w161) ⟨fun h => absurd (b166.symm.trans h) (by decide), fun _ => rfl⟩
            · intro s177 w178 e179 hf180 hd181 hu182
              rcases bool_two (decide (0 < x4_1)) with b183 | b183
              · have g184 : (decide (0 < x4_1)) = true := b183
                have d185 : s177 28 = (.bool (decide (0 < x4_1))) := (hd181 2 rfl)
                have d186 : s177 28 = (.bool (decide (0 < x4_1))) := (hd181 2 rfl)
                obtain ⟨p187, h188, h189⟩ := ((hd181 11 rfl).1 b183)
                exact L_op (.guard 2 true 28 rfl rfl (ltb rfl) (d185.trans (congrArg Value.bool g184))) rfl (ltb rfl) (X_fieldAddr Tryz.underlying78 rfl Tryz.sizeOf9 rfl h188) <| L_nil <| stepEnd rfl rfl (Ext.refl w178) ⟨fun _ => ⟨_, rfl, h189⟩, fun h => absurd (b183.symm.trans h) (by decide)⟩
              · have d190 : s177 28 = (.bool (decide (0 < x4_1))) := (hd181 2 rfl)
                have g191 : (decide (0 < x4_1)) = false := b183
                exact L_skip rfl rfl (ltb rfl) (d190.trans (congrArg Value.bool g191)) rfl rfl (ltb rfl) <| L_nil <| stepEnd rfl rfl (Ext.refl w178) ⟨fun h => absurd (b183.symm.trans h) (by decide), fun _ => rfl⟩
            · intro s192 w193 e194 hf195 hd196 hu197
              rcases bool_two (decide (0 < x4_1)) with b198 | b198
              · have g199 : (decide (0 < x4_1)) = true := b198
                have d200 : s192 28 = (.bool (decide (0 < x4_1))) := (hd196 2 rfl)
                have d201 : s192 28 = (.bool (decide (0 < x4_1))) := (hd196 2 rfl)
                obtain ⟨p202, h203, h204⟩ := ((hd196 12 rfl).1 b198)
                exact L_op (.guard 2 true 28 rfl rfl (ltb rfl) (d200.trans (congrArg Value.bool g199))) rfl (ltb rfl) (X_loadF Tryz.isAgg9 (j := 1) h204 h203 rfl) <| L_nil <| stepEnd rfl rfl (Ext.refl w193) ⟨fun _ => rfl, fun h => absurd (b198.symm.trans h) (by decide)⟩
              · have d205 : s192 28 = (.bool (decide (0 < x4_1))) := (hd196 2 rfl)
                have g206 : (decide (0 < x4_1)) = false := b198
                exact L_skip rfl rfl (ltb rfl) (d205.trans (congrArg Value.bool g206)) rfl rfl (ltb rfl) <| L_nil <| stepEnd rfl rfl (Ext.refl w193) ⟨fun h => absurd (b198.symm.trans h) (by decide), fun _ => rfl⟩
            · intro s207 w208 e209 hf210 hd211 hu212
              rcases bool_two (decide (0 < x4_1)) with b213 | b213
              · have g214 : (decide (0 < x4_1)) = true := b213
                have d215 : s207 28 = (.bool (decide (0 < x4_1))) := (hd211 2 rfl)
                have d216 : s207 28 = (.bool (decide (0 < x4_1))) := (hd211 2 rfl)
                have d217 : s207 33 = (S ((gt a0 x4_1).path)) := ((hd211 7 rfl).1 b213)
                have d218 : s207 39 = (S ((gt a0 (IntKind.wrap .i64 (x4_1 - 1))).path)) := ((hd211 13 rfl).1 b213)
                exact L_op (.guard 2 true 28 rfl rfl (ltb rfl) (d215.trans (congrArg Value.bool g214))) rfl (ltb rfl) (X_seq d217 d218) <| L_nil <| stepEnd rfl rfl (Ext.refl w208) ⟨fun _ => rfl, fun h => absurd (b213.symm.trans h) (by decide)⟩
              · have d219 : s207 28 = (.bool (decide (0 < x4_1))) := (hd211 2 rfl)
                have g220 : (decide (0 < x4_1)) = false := b213
                exact L_skip rfl rfl (ltb rfl) (d219.trans (congrArg Value.bool g220)) rfl rfl (ltb rfl) <| L_nil <| stepEnd rfl rfl (Ext.refl w208) ⟨fun h => absurd (b213.symm.trans h) (by decide), fun _ => rfl⟩
            · intro s221 w222 e223 hf224 hd225 hu226
              rcases bool_two (decide (0 < x4_1)) with b227 | b227
              · have d228 : s221 28 = (.bool (decide (0 < x4_1))) := (hd225 2 rfl)
                have d229 : s221 40 = (.bool (decide (((gt a0 x4_1).path) = ((gt a0 (IntKind.wrap .i64 (x4_1 - 1))).path)))) := ((hd225 14 rfl).1 b227)
                exact L_op (.plain rfl) rfl (ltb rfl) (X_pick (b := true) (v := (.bool (decide (((gt a0 x4_1).path) = ((gt a0 (IntKind.wrap .i64 (x4_1 - 1))).path))))) (d228.trans (congrArg Value.bool b227)) d229) <| L_nil <| stepEnd rfl rfl (Ext.refl w222) (and_t b227)
              · have d230 : s221 28 = (.bool (decide (0 < x4_1))) := (hd225 2 rfl)
                exact L_op (.plain rfl) rfl (ltb rfl) (X_pick (b := false) (v := (.bool false)) (d230.trans (congrArg Value.bool b227)) rfl) <| L_nil <| stepEnd rfl rfl (Ext.refl w222) (and_f b227)
            intro s231 w232 e233 hf234 ha235
            have K236 := Kp.ofD (kp := [(26, 42)]) rfl hf234
            have d237 : s231 41 = (.bool ((decide (0 < x4_1)) && (decide (((gt a0 x4_1).path) = ((gt a0 (IntKind.wrap .i64 (x4_1 - 1))).path))))) := ha235 15 rfl
            clear ha235 hf234
            refine thn_n ?_
            rcases bif_two H with ⟨q238, H⟩ | ⟨q238, H⟩
            · refine W_true (d237.trans (congrArg Value.bool q238)) <| W_seq <| W_reg <| L_op (.plain rfl) rfl (ltb rfl) (X_move (v := (.int .i64 x4_1)) ((K236 4 rfl).trans h15)) <| L_op (.plain rfl) rfl (ltb rfl) (X_assign (v := (.int .i64 x4_1)) rfl) <| L_op (.plain rfl) rfl (ltb rfl) (X_assign (v := (.int .i64 18)) rfl) <| L_nil <| thn_n <| W_ret <| thn_r <| blk_r <| thn_r <| thn_r <| blk_r <| thn_r <| thn_r <| fin_r ?_
              obtain rfl := Option.some.inj H
              obtain rfl := Option.some.inj S17
              have H := C4
              obtain rfl := Option.some.inj H
              exact fin2 rfl rfl (Ext.trans (Ext.trans e13 e24) e233)
            · refine W_false (d237.trans (congrArg Value.bool q238)) <| W_skip <| thn_n <| W_seq <| W_seq ?_
              obtain ⟨c239, H⟩ := bif_some H
              obtain ⟨c242, H⟩ := bif_some H
              obtain ⟨c245, H⟩ := bif_some H
              obtain ⟨c246, H⟩ := bif_some H
              refine W_drawM [LEq (.int .i64 x4_1), LEq (.bool (decide (0 < x4_1))), LEq (.bool (decide (0 < x4_1))), LIf (decide (0 < x4_1)) (LEq v_a0), LIf (decide (0 < x4_1)) (LEq (.int .i64 x4_1)), LIf (decide (0 < x4_1)) (LEq (.int .i64 (IntKind.wrap .i64 (x4_1 - 1)))), LIf (decide (0 < x4_1)) (LAt0 (encRec (gt a0 (IntKind.wrap .i64 (x4_1 - 1))))), LIf (decide (0 < x4_1)) (LAt 1 (encRec (gt a0 (IntKind.wrap .i64 (x4_1 - 1))))), LIf (decide (0 < x4_1)) (LEq (S ((gt a0 (IntKind.wrap .i64 (x4_1 - 1))).path))), LIf (decide (0 < x4_1)) (LEq v_a0), LIf (decide (0 < x4_1)) (LEq (.int .i64 x4_1)), LIf (decide (0 < x4_1)) (LAt0 (encRec (gt a0 x4_1))), LIf (decide (0 < x4_1)) (LAt 1 (encRec (gt a0 x4_1))), LIf (decide (0 < x4_1)) (LEq (S ((gt a0 x4_1).path))), LIf (decide (0 < x4_1)) (LEq (.bool (spec_l03Fault.e1 a0 x4_1))), LIf (decide (0 < x4_1)) (LEq (.bool (!(spec_l03Fault.e1 a0 x4_1)))), LEq (.bool ((decide (0 < x4_1)) && (!(spec_l03Fault.e1 a0 x4_1))))] (by kernel_rfl) (by kernel_rfl) ⟨LEq.mono, LEq.mono, LEq.mono, (LIf.mono LEq.mono), (LIf.mono LEq.mono), (LIf.mono LEq.mono), (LIf.mono LAt0.mono), (LIf.mono LAt.mono), (LIf.mono LEq.mono), (LIf.mono LEq.mono), (LIf.mono LEq.mono), (LIf.mono LAt0.mono), (LIf.mono LAt.mono), (LIf.mono LEq.mono), (LIf.mono LEq.mono), (LIf.mono LEq.mono), LEq.mono, trivial⟩ ⟨?_, ?_, ?_, ?_, ?_, ?_, ?_, ?_, ?_, ?_, ?_, ?_, ?_, ?_, ?_, ?_, ?_, trivial⟩ ?_
              · intro s249 w250 e251 hf252 hd253 hu254
                exact L_op (.plain rfl) rfl (ltb rfl) (X_move (v := (.int .i64 x4_1)) ((hf252 4 rfl).trans ((K236 4 rfl).trans h15))) <| L_nil <| stepEnd rfl rfl (Ext.refl w250) rfl
              · intro s255 w256 e257 hf258 hd259 hu260
                have d261 : s255 43 = (.int .i64 x4_1) := (hd259 0 rfl)
                exact L_op (.plain rfl) rfl (ltb rfl) (X_gtr d261 rfl) <| L_nil <| stepEnd rfl rfl (Ext.refl w256) rfl
              · intro s262 w263 e264 hf265 hd266 hu267
                have d268 : s262 44 = (.bool (decide (0 < x4_1))) := (hd266 1 rfl)
                exact L_op (.plain rfl) rfl (ltb rfl) (X_move (v := (.bool (decide (0 < x4_1)))) d268) <| L_nil <| stepEnd rfl rfl (Ext.refl w263) rfl
              · intro s269 w270 e271 hf272 hd273 hu274
                rcases bool_two (decide (0 < x4_1)) with b275 | b275
                · have g276 : (decide (0 < x4_1)) = true := b275
                  have d277 : s269 45 = (.bool (decide (0 < x4_1))) := (hd273 2 rfl)
                  have d278 : s269 45 = (.bool (decide (0 < x4_1))) := (hd273 2 rfl)
                  exact L_op (.guard 2 true 45 rfl rfl (ltb rfl) (d277.trans (congrArg Value.bool g276))) rfl (ltb rfl) (X_move (v := v_a0) ((hf272 0 rfl).trans ((K236 0 rfl).trans (K12 0 rfl)))) <| L_nil <| stepEnd rfl rfl (Ext.refl w270) ⟨fun _ => rfl, fun h => absurd (b275.symm.trans h) (by decide)⟩
                · have d279 : s269 45 = (.bool (decide (0 < x4_1))) := (hd273 2 rfl)
                  have g280 : (decide (0 < x4_1)) = false := b275
                  exact L_skip rfl rfl (ltb rfl) (d279.trans (congrArg Value.bool g280)) rfl rfl (ltb rfl) <| L_nil <| stepEnd rfl rfl (Ext.refl w270) ⟨fun h => absurd (b275.symm.trans h) (by decide), fun _ => rfl⟩
              · intro s281 w282 e283 hf284 hd285 hu286
                rcases bool_two (decide (0 < x4_1)) with b287 | b287
                · have g288 : (decide (0 < x4_1)) = true := b287
                  have d289 : s281 45 = (.bool (decide (0 < x4_1))) := (hd285 2 rfl)
                  have d290 : s281 45 = (.bool (decide (0 < x4_1))) := (hd285 2 rfl)
                  exact L_op (.guard 2 true 45 rfl rfl (ltb rfl) (d289.trans (congrArg Value.bool g288))) rfl (ltb rfl) (X_move (v := (.int .i64 x4_1)) ((hf284 4 rfl).trans ((K236 4 rfl).trans h15))) <| L_nil <| stepEnd rfl rfl (Ext.refl w282) ⟨fun _ => rfl, fun h => absurd (b287.symm.trans h) (by decide)⟩
                · have d291 : s281 45 = (.bool (decide (0 < x4_1))) := (hd285 2 rfl)
                  have g292 : (decide (0 < x4_1)) = false := b287
                  exact L_skip rfl rfl (ltb rfl) (d291.trans (congrArg Value.bool g292)) rfl rfl (ltb rfl) <| L_nil <| stepEnd rfl rfl (Ext.refl w282) ⟨fun h => absurd (b287.symm.trans h) (by decide), fun _ => rfl⟩
              · intro s293 w294 e295 hf296 hd297 hu298
                rcases bool_two (decide (0 < x4_1)) with b299 | b299
                · have g300 : (decide (0 < x4_1)) = true := b299
                  have d301 : s293 45 = (.bool (decide (0 < x4_1))) := (hd297 2 rfl)
                  have d302 : s293 45 = (.bool (decide (0 < x4_1))) := (hd297 2 rfl)
                  have d303 : s293 47 = (.int .i64 x4_1) := ((hd297 4 rfl).1 b299)
                  exact L_op (.guard 2 true 45 rfl rfl (ltb rfl) (d301.trans (congrArg Value.bool g300))) rfl (ltb rfl) (X_sub d303 rfl) <| L_nil <| stepEnd rfl rfl (Ext.refl w294) ⟨fun _ => rfl, fun h => absurd (b299.symm.trans h) (by decide)⟩
                · have d304 : s293 45 = (.bool (decide (0 < x4_1))) := (hd297 2 rfl)
                  have g305 : (decide (0 < x4_1)) = false := b299
                  exact L_skip rfl rfl (ltb rfl) (d304.trans (congrArg Value.bool g305)) rfl rfl (ltb rfl) <| L_nil <| stepEnd rfl rfl (Ext.refl w294) ⟨fun h => absurd (b299.symm.trans h) (by decide), fun _ => rfl⟩
              · intro s306 w307 e308 hf309 hd310 hu311
                rcases bool_two (decide (0 < x4_1)) with b312 | b312
                · have g313 : (decide (0 < x4_1)) = true := b312
                  have d314 : s306 45 = (.bool (decide (0 < x4_1))) := (hd310 2 rfl)
                  have d315 : s306 45 = (.bool (decide (0 < x4_1))) := (hd310 2 rfl)
                  have d316 : s306 46 = v_a0 := ((hd310 3 rfl).1 b312)
                  have d317 : s306 48 = (.int .i64 (IntKind.wrap .i64 (x4_1 - 1))) := ((hd310 5 rfl).1 b312)
                  have c318 := imp_take b312 c239
                  exact L_idx (.guard 2 true 45 rfl rfl (ltb rfl) (d314.trans (congrArg Value.bool g313))) rfl (ltb rfl) rfl Tryz.underlying28 Tryz.sizeOf78 d316 (Rd.ext f_a0 (Ext.trans (Ext.trans (Ext.trans e13 e24) e233) e308)) d317 c318 <| fun p319 h320 => L_nil <| stepEnd rfl rfl (Ext.refl w307) ⟨fun _ => ⟨_, rfl, h320⟩, fun h => absurd (b312.symm.trans h) (by decide)⟩
                · have d321 : s306 45 = (.bool (decide (0 < x4_1))) := (hd310 2 rfl)
                  have g322 : (decide (0 < x4_1)) = false := b312
                  exact L_skip rfl rfl (ltb rfl) (d321.trans (congrArg Value.bool g322)) rfl rfl (ltb rfl) <| L_nil <| stepEnd rfl rfl (Ext.refl w307) ⟨fun h => absurd (b312.symm.trans h) (by decide), fun _ => rfl⟩
              · intro s323 w324 e325 hf326 hd327 hu328
                rcases bool_two (decide (0 < x4_1)) with b329 | b329
                · have g330 : (decide (0 < x4_1)) = true := b329
                  have d331 : s323 45 = (.bool (decide (0 < x4_1))) := (hd327 2 rfl)
                  have d332 : s323 45 = (.bool (decide (0 < x4_1))) := (hd327 2 rfl)
                  obtain ⟨p333, h334, h335⟩ := ((hd327 6 rfl).1 b329)
                  exact L_op (.guard 2 true 45 rfl rfl (ltb rfl) (d331.trans (congrArg Value.bool g330))) rfl (ltb rfl) (X_fieldAddr Tryz.underlying78 rfl Tryz.sizeOf9 rfl h334) <| L_nil <| stepEnd rfl rfl (Ext.refl w324) ⟨fun _ => ⟨_, rfl, h335⟩, fun h => absurd (b329.symm.trans h) (by decide)⟩
                · have d336 : s323 45 = (.bool (decide (0 < x4_1))) := (hd327 2 rfl)
                  have g337 : (decide (0 < x4_1)) = false := b329
                  exact L_skip rfl rfl (ltb rfl) (d336.trans (congrArg Value.bool g337)) rfl rfl (ltb rfl) <| L_nil <| stepEnd rfl rfl (Ext.refl w324) ⟨fun h => absurd (b329.symm.trans h) (by decide), fun _ => rfl⟩
              · intro s338 w339 e340 hf341 hd342 hu343
                rcases bool_two (decide (0 < x4_1)) with b344 | b344
                · have g345 : (decide (0 < x4_1)) = true := b344
                  have d346 : s338 45 = (.bool (decide (0 < x4_1))) := (hd342 2 rfl)
                  have d347 : s338 45 = (.bool (decide (0 < x4_1))) := (hd342 2 rfl)
                  obtain ⟨p348, h349, h350⟩ := ((hd342 7 rfl).1 b344)
                  exact L_op (.guard 2 true 45 rfl rfl (ltb rfl) (d346.trans (congrArg Value.bool g345))) rfl (ltb rfl) (X_loadF Tryz.isAgg9 (j := 1) h350 h349 rfl) <| L_nil <| stepEnd rfl rfl (Ext.refl w339) ⟨fun _ => rfl, fun h => absurd (b344.symm.trans h) (by decide)⟩
                · have d351 : s338 45 = (.bool (decide (0 < x4_1))) := (hd342 2 rfl)
                  have g352 : (decide (0 < x4_1)) = false := b344
                  exact L_skip rfl rfl (ltb rfl) (d351.trans (congrArg Value.bool g352)) rfl rfl (ltb rfl) <| L_nil <| stepEnd rfl rfl (Ext.refl w339) ⟨fun h => absurd (b344.symm.trans h) (by decide), fun _ => rfl⟩
              · intro s353 w354 e355 hf356 hd357 hu358
                rcases bool_two (decide (0 < x4_1)) with b359 | b359
                · have g360 : (decide (0 < x4_1)) = true := b359
                  have d361 : s353 45 = (.bool (decide (0 < x4_1))) := (hd357 2 rfl)
                  have d362 : s353 45 = (.bool (decide (0 < x4_1))) := (hd357 2 rfl)
                  exact L_op (.guard 2 true 45 rfl rfl (ltb rfl) (d361.trans (congrArg Value.bool g360))) rfl (ltb rfl) (X_move (v := v_a0) ((hf356 0 rfl).trans ((K236 0 rfl).trans (K12 0 rfl)))) <| L_nil <| stepEnd rfl rfl (Ext.refl w354) ⟨fun _ => rfl, fun h => absurd (b359.symm.trans h) (by decide)⟩
                · have d363 : s353 45 = (.bool (decide (0 < x4_1))) := (hd357 2 rfl)
                  have g364 : (decide (0 < x4_1)) = false := b359
                  exact L_skip rfl rfl (ltb rfl) (d363.trans (congrArg Value.bool g364)) rfl rfl (ltb rfl) <| L_nil <| stepEnd rfl rfl (Ext.refl w354) ⟨fun h => absurd (b359.symm.trans h) (by decide), fun _ => rfl⟩
              · intro s365 w366 e367 hf368 hd369 hu370
                rcases bool_two (decide (0 < x4_1)) with b371 | b371
                · have g372 : (decide (0 < x4_1)) = true := b371
                  have d373 : s365 45 = (.bool (decide (0 < x4_1))) := (hd369 2 rfl)
                  have d374 : s365 45 = (.bool (decide (0 < x4_1))) := (hd369 2 rfl)
                  exact L_op (.guard 2 true 45 rfl rfl (ltb rfl) (d373.trans (congrArg Value.bool g372))) rfl (ltb rfl) (X_move (v := (.int .i64 x4_1)) ((hf368 4 rfl).trans ((K236 4 rfl).trans h15))) <| L_nil <| stepEnd rfl rfl (Ext.refl w366) ⟨fun _ => rfl, fun h => absurd (b371.symm.trans h) (by decide)⟩
                · have d375 : s365 45 = (.bool (decide (0 < x4_1))) := (hd369 2 rfl)
                  have g376 : (decide (0 < x4_1)) = false := b371
                  exact L_skip rfl rfl (ltb rfl) (d375.trans (congrArg Value.bool g376)) rfl rfl (ltb rfl) <| L_nil <| stepEnd rfl rfl (Ext.refl w366) ⟨fun h => absurd (b371.symm.trans h) (by decide), fun _ => rfl⟩
              · intro s377 w378 e379 hf380 hd381 hu382
                rcases bool_two (decide (0 < x4_1)) with b383 | b383
                · have g384 : (decide (0 < x4_1)) = true := b383
                  have d385 : s377 45 = (.bool (decide (0 < x4_1))) := (hd381 2 rfl)
                  have d386 : s377 45 = (.bool (decide (0 < x4_1))) := (hd381 2 rfl)
                  have d387 : s377 52 = v_a0 := ((hd381 9 rfl).1 b383)
                  have d388 : s377 53 = (.int .i64 x4_1) := ((hd381 10 rfl).1 b383)
                  have c389 := imp_take b383 c242
                  exact L_idx (.guard 2 true 45 rfl rfl (ltb rfl) (d385.trans (congrArg Value.bool g384))) rfl (ltb rfl) rfl Tryz.underlying28 Tryz.sizeOf78 d387 (Rd.ext f_a0 (Ext.trans (Ext.trans (Ext.trans e13 e24) e233) e379)) d388 c389 <| fun p390 h391 => L_nil <| stepEnd rfl rfl (Ext.refl w378) ⟨fun _ => ⟨_, rfl, h391⟩, fun h => absurd (b383.symm.trans h) (by decide)⟩
                · have d392 : s377 45 = (.bool (decide (0 < x4_1))) := (hd381 2 rfl)
                  have g393 : (decide (0 < x4_1)) = false := b383
                  exact L_skip rfl rfl (ltb rfl) (d392.trans (congrArg Value.bool g393)) rfl rfl (ltb rfl) <| L_nil <| stepEnd rfl rfl (Ext.refl w378) ⟨fun h => absurd (b383.symm.trans h) (by decide), fun _ => rfl⟩
              · intro s394 w395 e396 hf397 hd398 hu399
                rcases bool_two (decide (0 < x4_1)) with b400 | b400
                · have g401 : (decide (0 < x4_1)) = true := b400
                  have d402 : s394 45 = (.bool (decide (0 < x4_1))) := (hd398 2 rfl)
                  have d403 : s394 45 = (.bool (decide (0 < x4_1))) := (hd398 2 rfl)
                  obtain ⟨p404, h405, h406⟩ := ((hd398 11 rfl).1 b400)
                  exact L_op (.guard 2 true 45 rfl rfl (ltb rfl) (d402.trans (congrArg Value.bool g401))) rfl (ltb rfl) (X_fieldAddr Tryz.underlying78 rfl Tryz.sizeOf9 rfl h405) <| L_nil <| stepEnd rfl rfl (Ext.refl w395) ⟨fun _ => ⟨_, rfl, h406⟩, fun h => absurd (b400.symm.trans h) (by decide)⟩
                · have d407 : s394 45 = (.bool (decide (0 < x4_1))) := (hd398 2 rfl)
                  have g408 : (decide (0 < x4_1)) = false := b400
                  exact L_skip rfl rfl (ltb rfl) (d407.trans (congrArg Value.bool g408)) rfl rfl (ltb rfl) <| L_nil <| stepEnd rfl rfl (Ext.refl w395) ⟨fun h => absurd (b400.symm.trans h) (by decide), fun _ => rfl⟩
              · intro s409 w410 e411 hf412 hd413 hu414
                rcases bool_two (decide (0 < x4_1)) with b415 | b415
                · have g416 : (decide (0 < x4_1)) = true := b415
                  have d417 : s409 45 = (.bool (decide (0 < x4_1))) := (hd413 2 rfl)
                  have d418 : s409 45 = (.bool (decide (0 < x4_1))) := (hd413 2 rfl)
                  obtain ⟨p419, h420, h421⟩ := ((hd413 12 rfl).1 b415)
                  exact L_op (.guard 2 true 45 rfl rfl (ltb rfl) (d417.trans (congrArg Value.bool g416))) rfl (ltb rfl) (X_loadF Tryz.isAgg9 (j := 1) h421 h420 rfl) <| L_nil <| stepEnd rfl rfl (Ext.refl w410) ⟨fun _ => rfl, fun h => absurd (b415.symm.trans h) (by decide)⟩
                · have d422 : s409 45 = (.bool (decide (0 < x4_1))) := (hd413 2 rfl)
                  have g423 : (decide (0 < x4_1)) = false := b415
                  exact L_skip rfl rfl (ltb rfl) (d422.trans (congrArg Value.bool g423)) rfl rfl (ltb rfl) <| L_nil <| stepEnd rfl rfl (Ext.refl w410) ⟨fun h => absurd (b415.symm.trans h) (by decide), fun _ => rfl⟩
              · intro s424 w425 e426 hf427 hd428 hu429
                rcases bool_two (decide (0 < x4_1)) with b430 | b430
                · have g431 : (decide (0 < x4_1)) = true := b430
                  have d432 : s424 45 = (.bool (decide (0 < x4_1))) := (hd428 2 rfl)
                  have d433 : s424 45 = (.bool (decide (0 < x4_1))) := (hd428 2 rfl)
                  have d434 : s424 51 = (S ((gt a0 (IntKind.wrap .i64 (x4_1 - 1))).path)) := ((hd428 8 rfl).1 b430)
                  have d435 : s424 56 = (S ((gt a0 x4_1).path)) := ((hd428 13 rfl).1 b430)
                  have c436 := imp_take b430 c245
                  have c437 := imp_take b430 c246
                  exact L_callP (.guard 2 true 45 rfl rfl (ltb rfl) (d432.trans (congrArg Value.bool g431))) rfl (ltb rfl) rfl Tryz.call112 (spec_l01Less.calls (w := w425) (a0 := (gt a0 (IntKind.wrap .i64 (x4_1 - 1))).path) (a1 := (gt a0 x4_1).path) (of_decide_eq_true c436) (of_decide_eq_true c437)) (cons2 d434 (cons2 d435 rfl)) <| fun w438 e439 => L_nil <| stepEnd rfl rfl e439 ⟨fun _ => rfl, fun h => absurd (b430.symm.trans h) (by decide)⟩
                · have d440 : s424 45 = (.bool (decide (0 < x4_1))) := (hd428 2 rfl)
                  have g441 : (decide (0 < x4_1)) = false := b430
                  exact L_skip rfl rfl (ltb rfl) (d440.trans (congrArg Value.bool g441)) rfl rfl (ltb rfl) <| L_nil <| stepEnd rfl rfl (Ext.refl w425) ⟨fun h => absurd (b430.symm.trans h) (by decide), fun _ => rfl⟩
              · intro s442 w443 e444 hf445 hd446 hu447
                rcases bool_two (decide (0 < x4_1)) with b448 | b448
                · have g449 : (decide (0 < x4_1)) = true := b448
                  have d450 : s442 45 = (.bool (decide (0 < x4_1))) := (hd446 2 rfl)
                  have d451 : s442 45 = (.bool (decide (0 < x4_1))) := (hd446 2 rfl)
                  have d452 : s442 57 = (.bool (spec_l03Fault.e1 a0 x4_1)) := ((hd446 14 rfl).1 b448)
                  exact L_op (.guard 2 true 45 rfl rfl (ltb rfl) (d450.trans (congrArg Value.bool g449))) rfl (ltb rfl) (X_not d452) <| L_nil <| stepEnd rfl rfl (Ext.refl w443) ⟨fun _ => rfl, fun h => absurd (b448.symm.trans h) (by decide)⟩
                · have d453 : s442 45 = (.bool (decide (0 < x4_1))) := (hd446 2 rfl)
                  have g454 : (decide (0 < x4_1)) = false := b448
                  exact L_skip rfl rfl (ltb rfl) (d453.trans (congrArg Value.bool g454)) rfl rfl (ltb rfl) <| L_nil <| stepEnd rfl rfl (Ext.refl w443) ⟨fun h => absurd (b448.symm.trans h) (by decide), fun _ => rfl⟩
              · intro s455 w456 e457 hf458 hd459 hu460
                rcases bool_two (decide (0 < x4_1)) with b461 | b461
                · have d462 : s455 45 = (.bool (decide (0 < x4_1))) := (hd459 2 rfl)
                  have d463 : s455 58 = (.bool (!(spec_l03Fault.e1 a0 x4_1))) := ((hd459 15 rfl).1 b461)
                  exact L_op (.plain rfl) rfl (ltb rfl) (X_pick (b := true) (v := (.bool (!(spec_l03Fault.e1 a0 x4_1)))) (d462.trans (congrArg Value.bool b461)) d463) <| L_nil <| stepEnd rfl rfl (Ext.refl w456) (and_t b461)
                · have d464 : s455 45 = (.bool (decide (0 < x4_1))) := (hd459 2 rfl)
                  exact L_op (.plain rfl) rfl (ltb rfl) (X_pick (b := false) (v := (.bool false)) (d464.trans (congrArg Value.bool b461)) rfl) <| L_nil <| stepEnd rfl rfl (Ext.refl w456) (and_f b461)
              intro s465 w466 e467 hf468 ha469
              have K470 := Kp.ofD (kp := [(43, 60)]) rfl hf468
              have d471 : s465 59 = (.bool ((decide (0 < x4_1)) && (!(spec_l03Fault.e1 a0 x4_1)))) := ha469 16 rfl
              clear ha469 hf468
              refine thn_n ?_
              rcases bif_two H with ⟨q472, H⟩ | ⟨q472, H⟩
              · refine W_true (d471.trans (congrArg Value.bool q472)) <| W_seq <| W_reg <| L_op (.plain rfl) rfl (ltb rfl) (X_move (v := (.int .i64 x4_1)) ((K470 4 rfl).trans ((K236 4 rfl).trans h15))) <| L_op (.plain rfl) rfl (ltb rfl) (X_assign (v := (.int .i64 x4_1)) rfl) <| L_op (.plain rfl) rfl (ltb rfl) (X_assign (v := (.int .i64 11)) rfl) <| L_nil <| thn_n <| W_ret <| thn_r <| blk_r <| thn_r <| thn_r <| blk_r <| thn_r <| thn_r <| fin_r ?_
                obtain rfl := Option.some.inj H
                obtain rfl := Option.some.inj S17
                have H := C4
                obtain rfl := Option.some.inj H
                exact fin2 rfl rfl (Ext.trans (Ext.trans (Ext.trans e13 e24) e233) e467)
              · refine W_false (d471.trans (congrArg Value.bool q472)) <| W_skip <| thn_n <| W_seq <| W_reg <| L_op (.plain rfl) rfl (ltb rfl) (X_move (v := v_a0) ((K470 0 rfl).trans ((K236 0 rfl).trans (K12 0 rfl)))) <| L_op (.plain rfl) rfl (ltb rfl) (X_move (v := (.int .i64 x4_1)) ((K470 4 rfl).trans ((K236 4 rfl).trans h15))) ?_
                obtain ⟨c473, H⟩ := bif_some H
                refine L_idx (.plain rfl) rfl (ltb rfl) rfl Tryz.underlying28 Tryz.sizeOf78 rfl (Rd.ext f_a0 (Ext.trans (Ext.trans (Ext.trans e13 e24) e233) e467)) rfl c473 <| fun p474 h475 => L_op (.plain rfl) rfl (ltb rfl) (X_fieldAddr Tryz.underlying78 rfl Tryz.sizeOf9 rfl rfl) <| L_op (.plain rfl) rfl (ltb rfl) (X_loadF Tryz.isAgg9 (j := 1) h475 rfl rfl) ?_
                obtain ⟨c476, H⟩ := bif_some H
                refine L_callP (.plain rfl) rfl (ltb rfl) rfl Tryz.call113 (spec_l01Parent.calls (w := w466) (a0 := (gt a0 x4_1).path) (of_decide_eq_true c476)) rfl <| fun w477 e478 => L_op (.plain rfl) rfl (ltb rfl) (X_assign (v := (S (parentP ((gt a0 x4_1).path)))) rfl) <| L_nil <| thn_n <| W_seq <| W_seq <| W_reg <| L_op (.plain rfl) rfl (ltb rfl) (X_move (v := (S (parentP ((gt a0 x4_1).path)))) rfl) <| L_op (.plain rfl) rfl (ltb rfl) (X_seq rfl rfl) <| L_nil <| thn_n ?_
                rcases bif_two H with ⟨q479, H⟩ | ⟨q479, H⟩
                · refine W_true (congrArg Value.bool q479) <| W_exit <| thn_x <| blk_x <| thn_n <| W_reg <| L_op (.plain rfl) rfl (ltb rfl) (X_move (v := (.int .i64 x4_1)) ((K470 4 rfl).trans ((K236 4 rfl).trans h15))) <| L_op (.plain rfl) rfl (ltb rfl) (X_add rfl rfl) <| L_op (.plain rfl) rfl (ltb rfl) (X_assign (v := (.int .i64 (IntKind.wrap .i64 (x4_1 + 1)))) rfl) <| L_nil <| thn_n ?_
                  obtain rfl := Option.some.inj H
                  exact ⟨_, Nat.lt_succ_self _, IntKind.wrap .i64 (x4_1 + 1), (Kp.upd (Kp.upd (Kp.upd (Kp.upd (Kp.upd (Kp.upd (Kp.upd (Kp.upd (Kp.upd (Kp.upd (Kp.upd (Kp.upd (Kp.cut (Kp.cut (Kp.upd (Kp.upd (Kp.upd (Kp.upd (Kp.upd (Kp.upd (Kp.upd (Kp.upd (Kp.upd (Kp.upd (Kp.upd (Kp.upd (Kp.upd (Kp.upd K12 rfl) rfl) rfl) rfl) rfl) rfl) rfl) rfl) rfl) rfl) rfl) rfl) rfl) rfl) K236 rfl) K470 rfl) rfl) rfl) rfl) rfl) rfl) rfl) rfl) rfl) rfl) rfl) rfl) rfl), rfl, (Ext.trans (Ext.trans (Ext.trans (Ext.trans e13 e24) e233) e467) e478), S17⟩
                · refine W_false (congrArg Value.bool q479) <| W_skip <| thn_n <| W_seq <| W_reg <| L_op (.plain rfl) rfl (ltb rfl) (X_move (v := v_a0) ((K470 0 rfl).trans ((K236 0 rfl).trans (K12 0 rfl)))) <| L_op (.plain rfl) rfl (ltb rfl) (X_move (v := (.int .i64 x4_1)) ((K470 4 rfl).trans ((K236 4 rfl).trans h15))) ?_
                  obtain ⟨c480, H⟩ := bif_some H
                  refine L_sub (.plain rfl) rfl (ltb rfl) rfl Tryz.underlying28 Tryz.sizeOf78 rfl (Rd.ext f_a0 (Ext.trans (Ext.trans (Ext.trans (Ext.trans e13 e24) e233) e467) e478)) (l := 0) (h := x4_1) rfl ⟨_, rfl⟩ c480 <| fun v481 h482 => L_op (.plain rfl) rfl (ltb rfl) (X_move (v := (S (parentP ((gt a0 x4_1).path)))) rfl) ?_
                  obtain ⟨c483, H⟩ := bif_some H
                  refine L_callP (.plain rfl) rfl (ltb rfl) rfl Tryz.call137 (spec_l03At.calls (w := w477) (a0 := sub a0 0 x4_1) (a1 := (parentP ((gt a0 x4_1).path))) h482 (of_decide_eq_true c483)) rfl <| fun w484 e485 => L_op (.plain rfl) rfl (ltb rfl) (X_assign (v := (.int .i64 (findR (sub a0 0 x4_1) (parentP ((gt a0 x4_1).path))))) rfl) <| L_nil <| thn_n <| W_seq <| W_seq <| W_reg <| L_op (.plain rfl) rfl (ltb rfl) (X_move (v := (.int .i64 (findR (sub a0 0 x4_1) (parentP ((gt a0 x4_1).path))))) rfl) <| L_op (.plain rfl) rfl (ltb rfl) (X_lss rfl rfl) <| L_nil <| thn_n ?_
                  rcases bif_two H with ⟨q486, H⟩ | ⟨q486, H⟩
                  · refine W_true (congrArg Value.bool q486) <| W_seq <| W_reg <| L_op (.plain rfl) rfl (ltb rfl) (X_move (v := (.int .i64 x4_1)) ((K470 4 rfl).trans ((K236 4 rfl).trans h15))) <| L_op (.plain rfl) rfl (ltb rfl) (X_assign (v := (.int .i64 x4_1)) rfl) <| L_op (.plain rfl) rfl (ltb rfl) (X_assign (v := (.int .i64 12)) rfl) <| L_nil <| thn_n <| W_ret <| thn_r <| blk_r <| thn_r <| thn_r <| blk_r <| thn_r <| thn_r <| fin_r ?_
                    obtain rfl := Option.some.inj H
                    obtain rfl := Option.some.inj S17
                    have H := C4
                    obtain rfl := Option.some.inj H
                    exact fin2 rfl rfl (Ext.trans (Ext.trans (Ext.trans (Ext.trans (Ext.trans e13 e24) e233) e467) e478) e485)
                  · refine W_false (congrArg Value.bool q486) <| W_skip <| thn_n <| W_seq <| W_reg <| L_op (.plain rfl) rfl (ltb rfl) (X_move (v := v_a0) ((K470 0 rfl).trans ((K236 0 rfl).trans (K12 0 rfl)))) <| L_op (.plain rfl) rfl (ltb rfl) (X_move (v := (.int .i64 (findR (sub a0 0 x4_1) (parentP ((gt a0 x4_1).path))))) rfl) ?_
                    obtain ⟨c487, H⟩ := bif_some H
                    refine L_idx (.plain rfl) rfl (ltb rfl) rfl Tryz.underlying28 Tryz.sizeOf78 rfl (Rd.ext f_a0 (Ext.trans (Ext.trans (Ext.trans (Ext.trans (Ext.trans e13 e24) e233) e467) e478) e485)) rfl c487 <| fun p488 h489 => L_op (.plain rfl) rfl (ltb rfl) (X_fieldAddr Tryz.underlying78 rfl Tryz.sizeOf3 rfl rfl) <| L_op (.plain rfl) rfl (ltb rfl) (X_loadF Tryz.isAgg3 (j := 0) h489 rfl rfl) <| L_op (.plain rfl) rfl (ltb rfl) (X_neq rfl rfl) <| L_nil <| thn_n ?_
                    rcases bif_two H with ⟨q490, H⟩ | ⟨q490, H⟩
                    · refine W_true (congrArg Value.bool q490) <| W_seq <| W_reg <| L_op (.plain rfl) rfl (ltb rfl) (X_move (v := (.int .i64 x4_1)) ((K470 4 rfl).trans ((K236 4 rfl).trans h15))) <| L_op (.plain rfl) rfl (ltb rfl) (X_assign (v := (.int .i64 x4_1)) rfl) <| L_op (.plain rfl) rfl (ltb rfl) (X_assign (v := (.int .i64 13)) rfl) <| L_nil <| thn_n <| W_ret <| blk_r <| thn_r <| thn_r <| blk_r <| thn_r <| thn_r <| fin_r ?_
                      obtain rfl := Option.some.inj H
                      obtain rfl := Option.some.inj S17
                      have H := C4
                      obtain rfl := Option.some.inj H
                      exact fin2 rfl rfl (Ext.trans (Ext.trans (Ext.trans (Ext.trans (Ext.trans e13 e24) e233) e467) e478) e485)
                    · refine W_false (congrArg Value.bool q490) <| W_skip <| blk_n <| thn_n <| W_reg <| L_op (.plain rfl) rfl (ltb rfl) (X_move (v := (.int .i64 x4_1)) ((K470 4 rfl).trans ((K236 4 rfl).trans h15))) <| L_op (.plain rfl) rfl (ltb rfl) (X_add rfl rfl) <| L_op (.plain rfl) rfl (ltb rfl) (X_assign (v := (.int .i64 (IntKind.wrap .i64 (x4_1 + 1)))) rfl) <| L_nil <| thn_n ?_
                      obtain rfl := Option.some.inj H
                      exact ⟨_, Nat.lt_succ_self _, IntKind.wrap .i64 (x4_1 + 1), (Kp.upd (Kp.upd (Kp.upd (Kp.upd (Kp.upd (Kp.upd (Kp.upd (Kp.upd (Kp.upd (Kp.upd (Kp.upd (Kp.upd (Kp.upd (Kp.upd (Kp.upd (Kp.upd (Kp.upd (Kp.upd (Kp.upd (Kp.upd (Kp.upd (Kp.upd (Kp.upd (Kp.upd (Kp.upd (Kp.upd (Kp.cut (Kp.cut (Kp.upd (Kp.upd (Kp.upd (Kp.upd (Kp.upd (Kp.upd (Kp.upd (Kp.upd (Kp.upd (Kp.upd (Kp.upd (Kp.upd (Kp.upd (Kp.upd K12 rfl) rfl) rfl) rfl) rfl) rfl) rfl) rfl) rfl) rfl) rfl) rfl) rfl) rfl) K236 rfl) K470 rfl) rfl) rfl) rfl) rfl) rfl) rfl) rfl) rfl) rfl) rfl) rfl) rfl) rfl) rfl) rfl) rfl) rfl) rfl) rfl) rfl) rfl) rfl) rfl) rfl) rfl) rfl), rfl, (Ext.trans (Ext.trans (Ext.trans (Ext.trans (Ext.trans e13 e24) e233) e467) e478) e485), S17⟩
      · refine W_false (congrArg Value.bool q18) <| W_exit <| thn_x <| thn_x <| blk_x <| thn_n ?_
        obtain rfl := Option.some.inj H
        obtain rfl := Option.some.inj S17
        exact ⟨(Kp.upd (Kp.upd (Kp.upd (Kp.upd K12 rfl) rfl) rfl) rfl), e13, rfl⟩
  · rintro s6 w5 ⟨K7, e8, y491⟩
    rw [y491] at C4
    have H := C4
    replace H : _ = some _ := H
    refine thn_n <| W_seq <| W_reg <| L_op (.plain rfl) rfl (ltb rfl) (X_assign (v := (.int .i64 0)) rfl) <| L_op (.plain rfl) rfl (ltb rfl) (X_assign (v := (.int .i64 0)) rfl) <| L_nil <| thn_n <| W_ret <| fin_r ?_
    obtain rfl := Option.some.inj H
    exact fin2 rfl rfl e8
theorem spec_l03Fault.calls {w : World} {a0 : List Rec} {v_a0 : Value} (f_a0 : Rd 5 encRec w v_a0 a0) (h0 : a0.length ≤ 1048576) (h1 : ∀ x ∈ a0, x.path.length ≤ 1048576) :
    Calls Tryz.prog 109 #[v_a0] w (Rt (RP w (.tuple #[.int .i64 ((layerFault a0).1), .int .i64 ((layerFault a0).2)]))) := by
  obtain ⟨k, h⟩ := spec_l03Fault.eq a0 h0 h1
  exact spec_l03Fault.walk f_a0 h
/-! impl.isLongList(impl.Record) -/
theorem impl_isLongListR.walk {w : World} {a0 : List Rec} {v_a0 : Value} (f_a0 : Rd 5 encRec w v_a0 a0) {r : Bool} (H : impl_isLongListR.sh a0 = some r) :
    Calls Tryz.prog 69 #[v_a0] w (Rt (RP w (.bool r))) := by
  unfold impl_isLongListR.sh at H
  refine calls_of_W Tryz.func69 rfl (Nat.le_of_ble_eq_true rfl) Tryz.ntmps69 rfl ?_
  refine W_seq <| W_reg <| L_op (.plain rfl) rfl (ltb rfl) (X_assign (v := (.bool false)) rfl) <| L_nil <| thn_n <| W_seq <| W_reg <| L_op (.plain rfl) rfl (ltb rfl) (X_move (v := v_a0) rfl) <| L_op (.plain rfl) rfl (ltb rfl) (X_lenR Tryz.underlying28 rfl f_a0) <| L_op (.plain rfl) rfl (ltb rfl) (X_gtr rfl rfl) <| L_op (.plain rfl) rfl (ltb rfl) (X_assign (v := (.bool (decide (4096 < (a0.length : Int))))) rfl) <| L_nil <| thn_n <| W_ret <| fin_r ?_
  obtain rfl := Option.some.inj H
  exact fin1 rfl (Ext.refl w)
theorem impl_isLongListR.calls {w : World} {a0 : List Rec} {v_a0 : Value} (f_a0 : Rd 5 encRec w v_a0 a0) :
    Calls Tryz.prog 69 #[v_a0] w (Rt (RP w (.bool (decide (4096 < a0.length))))) := impl_isLongListR.walk f_a0 (impl_isLongListR.eq a0)
/-! impl.find$1 -/
theorem impl_find_1.walk {w : World} {a0 : Rec} {a1 : List UInt8} {b_a1 : Nat} (k_a1 : Blk w b_a1 #[(S a1)] 9) {r : Bool} (H : impl_find_1.sh a0 a1 = some r) :
    Calls Tryz.prog 157 #[.agg (encRec a0).toArray, .pointer (some ⟨b_a1, 0, none⟩)] w (Rt (RP w (.bool r))) := by
  unfold impl_find_1.sh at H
  refine calls_of_W Tryz.func157 rfl (Nat.le_of_ble_eq_true rfl) Tryz.ntmps157 rfl ?_
  refine W_seq <| W_reg <| L_box (.plain rfl) rfl (ltb rfl) rfl rfl <| fun b1 w2 z3 z4 e5 k6 => L_op (.plain rfl) rfl (ltb rfl) (X_assign (v := (.bool false)) rfl) <| L_nil <| thn_n <| W_seq <| W_reg <| L_op (.plain rfl) rfl (ltb rfl) (X_fieldAddr Tryz.underlying78 rfl Tryz.sizeOf9 rfl rfl) <| L_op (.plain rfl) rfl (ltb rfl) (X_loadB Tryz.isAgg9 k6 rfl rfl) <| L_op (.plain rfl) rfl (ltb rfl) (X_loadB Tryz.isAgg9 (Blk.ext k_a1 e5) rfl rfl) <| L_op (.plain rfl) rfl (ltb rfl) (X_seq rfl rfl) <| L_op (.plain rfl) rfl (ltb rfl) (X_assign (v := (.bool (decide (a0.path = a1)))) rfl) <| L_nil <| thn_n <| W_ret <| fin_r ?_
  obtain rfl := Option.some.inj H
  exact fin1 rfl e5
theorem impl_find_1.calls {w : World} {a0 : Rec} {a1 : List UInt8} {b_a1 : Nat} (k_a1 : Blk w b_a1 #[(S a1)] 9) :
    Calls Tryz.prog 157 #[.agg (encRec a0).toArray, .pointer (some ⟨b_a1, 0, none⟩)] w (Rt (RP w (.bool (decide (a0.path = a1))))) := impl_find_1.walk k_a1 (impl_find_1.eq a0 a1)
/-! slices.IndexFunc(()impl.Record,impl.Record) -/
theorem slices_IndexFuncR.walk {k : Nat} {w : World} {a0 : List Rec} {a1 : Rec → Option Bool} {v_a0 : Value} (f_a0 : Rd 5 encRec w v_a0 a0) {v_a1 : Value} (f_a1 : ∀ (x0 : Rec) (r : Bool), a1 x0 = some r → FnAt Tryz.prog w v_a1 [(.agg (encRec x0).toArray)] (.bool r)) (g_a1 : v_a1.cells = #[v_a1]) {r : Int} (H : slices_IndexFuncR.sh k a0 a1 = some r) :
    Calls Tryz.prog 156 #[v_a0, v_a1] w (Rt (RP w (.int .i64 r))) := by
  unfold slices_IndexFuncR.sh at H
  refine calls_of_W Tryz.func156 rfl (Nat.le_of_ble_eq_true rfl) Tryz.ntmps156 rfl ?_
  refine W_seq <| W_reg <| L_op (.plain rfl) rfl (ltb rfl) (X_assign (v := (.int .i64 0)) rfl) <| L_nil <| thn_n <| W_seq <| W_seq <| W_reg <| L_op (.plain rfl) rfl (ltb rfl) (X_move (v := v_a0) rfl) <| L_op (.plain rfl) rfl (ltb rfl) (X_lenR Tryz.underlying28 rfl f_a0) <| L_op (.plain rfl) rfl (ltb rfl) (X_move (v := (.int .i64 0)) rfl) <| L_nil <| thn_n ?_
  obtain ⟨z2, L3, C4⟩ := bind_some H
  clear H
  refine  W_cutQ (fun s0 sQ wQ => Kp [(4, 6), (8, 19)] s0 sQ ∧ Ext w wQ ∧ z2 = .inr ()) ?_ ?_
  · refine W_block <| W_loopI (fun s0 kk sQ wQ => ∃ (x8_1 : Int), Kp [(4, 6), (8, 19)] s0 sQ ∧ sQ 8 = .int .i64 x8_1 ∧ Ext w wQ ∧ loopF (slices_IndexFuncR.b1 a0 a1) kk x8_1 = some z2) k ⟨0, (Kp.refl _ _), rfl, (Ext.refl w), L3⟩ ?_
    rintro k9 s10 w11 ⟨x8_1, K12, h15, e13, L14⟩
    cases k9 with
    | zero => exact absurd L14 (by simp [loopF])
    | succ k9 =>
      obtain ⟨t16, H, S17⟩ := loopF_succ L14
      clear L14
      unfold slices_IndexFuncR.b1 at H
      refine W_seq <| W_reg <| L_op (.plain rfl) rfl (ltb rfl) (X_lss h15 (K12 7 rfl)) <| L_nil <| thn_n <| W_seq ?_
      rcases bif_two H with ⟨q18, H⟩ | ⟨q18, H⟩
      · refine W_true (congrArg Value.bool q18) <| W_skip <| thn_n <| W_seq <| W_block <| W_seq <| W_reg <| L_op (.plain rfl) rfl (ltb rfl) (X_move (v := (.int .i64 x8_1)) h15) <| L_op (.plain rfl) rfl (ltb rfl) (X_assign (v := (.int .i64 x8_1)) rfl) <| L_nil <| thn_n <| W_seq <| W_reg <| L_op (.plain rfl) rfl (ltb rfl) (X_move (v := v_a1) (K12 1 rfl)) <| L_op (.plain rfl) rfl (ltb rfl) (X_move (v := v_a0) (K12 0 rfl)) <| L_op (.plain rfl) rfl (ltb rfl) (X_move (v := (.int .i64 x8_1)) rfl) ?_
        obtain ⟨c19, H⟩ := bif_some H
        refine L_idx (.plain rfl) rfl (ltb rfl) rfl Tryz.underlying28 Tryz.sizeOf78 rfl (Rd.ext f_a0 e13) rfl c19 <| fun p20 h21 => L_op (.plain rfl) rfl (ltb rfl) (X_loadS Tryz.isAgg78 Tryz.sizeOf78 rfl rfl h21) ?_
        obtain ⟨z22, x23, H⟩ := bind_some H
        refine L_callF (.plain rfl) rfl (ltb rfl) rfl rfl (FnAt.ext (f_a1 _ _ x23) e13) rfl <| fun w24 e25 => L_nil <| thn_n ?_
        rcases bif_two H with ⟨q26, H⟩ | ⟨q26, H⟩
        · refine W_true (congrArg Value.bool q26) <| W_seq <| W_reg <| L_op (.plain rfl) rfl (ltb rfl) (X_move (v := (.int .i64 x8_1)) rfl) <| L_op (.plain rfl) rfl (ltb rfl) (X_assign (v := (.int .i64 x8_1)) rfl) <| L_nil <| thn_n <| W_ret <| blk_r <| thn_r <| thn_r <| blk_r <| thn_r <| thn_r <| fin_r ?_
          obtain rfl := Option.some.inj H
          obtain rfl := Option.some.inj S17
          have H := C4
          obtain rfl := Option.some.inj H
          exact fin1 rfl (Ext.trans e13 e25)
        · refine W_false (congrArg Value.bool q26) <| W_skip <| blk_n <| thn_n <| W_reg <| L_op (.plain rfl) rfl (ltb rfl) (X_add h15 rfl) <| L_op (.plain rfl) rfl (ltb rfl) (X_move (v := (.int .i64 (IntKind.wrap .i64 (x8_1 + 1)))) rfl) <| L_nil <| thn_n ?_
          obtain rfl := Option.some.inj H
          exact ⟨_, Nat.lt_succ_self _, IntKind.wrap .i64 (x8_1 + 1), (Kp.upd (Kp.upd (Kp.upd (Kp.upd (Kp.upd (Kp.upd (Kp.upd (Kp.upd (Kp.upd (Kp.upd (Kp.upd K12 rfl) rfl) rfl) rfl) rfl) rfl) rfl) rfl) rfl) rfl) rfl), rfl, (Ext.trans e13 e25), S17⟩
      · refine W_false (congrArg Value.bool q18) <| W_exit <| thn_x <| thn_x <| blk_x <| thn_n ?_
        obtain rfl := Option.some.inj H
        obtain rfl := Option.some.inj S17
        exact ⟨(Kp.upd K12 rfl), e13, rfl⟩
  · rintro s6 w5 ⟨K7, e8, y27⟩
    rw [y27] at C4
    have H := C4
    replace H : _ = some _ := H
    refine thn_n <| W_seq <| W_reg <| L_op (.plain rfl) rfl (ltb rfl) (X_assign (v := (.int .i64 (-1))) rfl) <| L_nil <| thn_n <| W_ret <| fin_r ?_
    obtain rfl := Option.some.inj H
    exact fin1 rfl e8
theorem slices_IndexFuncR.calls {w : World} {a0 : List Rec} {a1 : Rec → Option Bool} {r : Int} {v_a0 : Value} (f_a0 : Rd 5 encRec w v_a0 a0) {v_a1 : Value} (f_a1 : ∀ (x0 : Rec) (r : Bool), a1 x0 = some r → FnAt Tryz.prog w v_a1 [(.agg (encRec x0).toArray)] (.bool r)) (g_a1 : v_a1.cells = #[v_a1]) (h0 : a0.length ≤ 4611686018427387904) (H : (idxO a1 a0) = some r) :
    Calls Tryz.prog 156 #[v_a0, v_a1] w (Rt (RP w (.int .i64 r))) := by
  obtain ⟨k, h⟩ := slices_IndexFuncR.eq a0 a1 h0 H
  exact slices_IndexFuncR.walk f_a0 f_a1 g_a1 h
/-! impl.find -/
theorem impl_find.walk {w : World} {a0 : List Rec} {a1 : List UInt8} {v_a0 : Value} (f_a0 : Rd 5 encRec w v_a0 a0) {r : Int} (H : impl_find.sh a0 a1 = some r) :
    Calls Tryz.prog 105 #[v_a0, S a1] w (Rt (RP w (.int .i64 r))) := by
  unfold impl_find.sh at H
  refine calls_of_W Tryz.func105 rfl (Nat.le_of_ble_eq_true rfl) Tryz.ntmps105 rfl ?_
  refine W_seq <| W_reg <| L_box (.plain rfl) rfl (ltb rfl) rfl rfl <| fun b1 w2 z3 z4 e5 k6 => L_op (.plain rfl) rfl (ltb rfl) (X_assign (v := (.int .i64 0)) rfl) <| L_nil <| thn_n <| W_seq <| W_reg <| L_op (.plain rfl) rfl (ltb rfl) (X_move (v := v_a0) rfl) <| L_op (.plain rfl) rfl (ltb rfl) (X_makeFunc (vs := #[]) (us := #[.pointer (some ⟨b1, 0, none⟩)]) rfl rfl) ?_
  obtain ⟨c11, H⟩ := bif_some H
  obtain ⟨z12, x13, H⟩ := bind_some H
  refine L_callP (.plain rfl) rfl (ltb rfl) rfl Tryz.call156 (slices_IndexFuncR.calls (w := w2) (a0 := a0) (a1 := (fun (x0_ : Rec) => some (decide (x0_.path = a1)))) (Rd.ext f_a0 e5) (fun x0_ r h => by have h := Option.some.inj h; subst h; exact FnAt.mk Tryz.call157 (by rfl) fun w9 k10 => impl_find_1.calls (w := w9) (a0 := x0_) (a1 := a1) (Blk.ext k6 k10)) rfl (of_decide_eq_true c11) x13) rfl <| fun w14 e15 => L_op (.plain rfl) rfl (ltb rfl) (X_assign (v := (.int .i64 z12)) rfl) <| L_nil <| thn_n <| W_ret <| fin_r ?_
  obtain rfl := Option.some.inj H
  exact fin1 rfl (Ext.trans e5 e15)
theorem impl_find.calls {w : World} {a0 : List Rec} {a1 : List UInt8} {v_a0 : Value} (f_a0 : Rd 5 encRec w v_a0 a0) (h0 : a0.length ≤ 1048576) :
    Calls Tryz.prog 105 #[v_a0, S a1] w (Rt (RP w (.int .i64 (findR a0 a1)))) := impl_find.walk f_a0 (impl_find.eq a0 a1 h0)
/-! impl.faultAt -/
abbrev impl_faultAt.e1 (a0 : List Rec) (a1 : Int) (x6_19 : Int) := ([.inl (!(decide (recFault (gt a0 a1) = 0))), .inr (recFault (gt a0 a1)), .inl ((decide (0 < a1)) && (decide (((gt a0 (if ((IntKind.wrap .i64 (a1 - 1)) < 0 : Prop) then 0 else (IntKind.wrap .i64 (a1 - 1)))).path) = ((gt a0 a1).path)))), .inr 18, .inl ((decide (0 < a1)) && (!(pathLess ((gt a0 (if ((IntKind.wrap .i64 (a1 - 1)) < 0 : Prop) then 0 else (IntKind.wrap .i64 (a1 - 1)))).path) ((gt a0 a1).path)))), .inr 11, .inl (decide (x6_19 < 0)), .inr 12, .inl ((!decide ((parentP ((gt a0 a1).path)) = ([] : List UInt8))) && (!decide (((gt a0 (if (x6_19 < 0 : Prop) then 0 else x6_19)).kind) = 3))), .inr 13] : List (Bool ⊕ Int))
abbrev impl_faultAt.e2 (a0 : List Rec) (a1 : Int) := (!decide ((parentP ((gt a0 a1).path)) = ([] : List UInt8)))
abbrev impl_faultAt.e3 (a1 : Int) := (if ((IntKind.wrap .i64 (a1 - 1)) < 0 : Prop) then 0 else (IntKind.wrap .i64 (a1 - 1)))
abbrev impl_faultAt.e4 (a0 : List Rec) (a1 : Int) (x6_19 : Int) := ([.inl (decide (16 ≤ a1)), .inr 6, .inl true, .inr (firstOf (impl_faultAt.e1 a0 a1 x6_19))] : List (Bool ⊕ Int))
abbrev impl_faultAt.e5 (a0 : List Rec) (a1 : Int) := (pathLess ((gt a0 (impl_faultAt.e3 a1)).path) ((gt a0 a1).path))
abbrev impl_faultAt.e6 (a0 : List Rec) (x6_19 : Int) := (!decide (((gt a0 (if (x6_19 < 0 : Prop) then 0 else x6_19)).kind) = 3))
abbrev impl_faultAt.e7 (a0 : List Rec) (a1 : Int) := (decide (((gt a0 (impl_faultAt.e3 a1)).path) = ((gt a0 a1).path)))
theorem impl_faultAt.walk {w : World} {a0 : List Rec} {a1 : Int} (gv : GV 0 w) {v_a0 : Value} (f_a0 : Rd 5 encRec w v_a0 a0) {r : Int} (H : impl_faultAt.sh a0 a1 = some r) :
    Calls Tryz.prog 199 #[v_a0, .int .i64 a1] w (Rt (RP w (.int .i64 r))) := by
  unfold impl_faultAt.sh at H
  refine calls_of_W Tryz.func199 rfl (Nat.le_of_ble_eq_true rfl) Tryz.ntmps199 rfl ?_
  refine W_seq <| W_reg <| L_op (.plain rfl) rfl (ltb rfl) (X_assign (v := (.int .i64 0)) rfl) <| L_nil <| thn_n <| W_seq <| W_reg <| L_op (.plain rfl) rfl (ltb rfl) (X_move (v := v_a0) rfl) <| L_op (.plain rfl) rfl (ltb rfl) (X_move (v := (.int .i64 a1)) rfl) ?_
  obtain ⟨c1, H⟩ := bif_some H
  refine L_idx (.plain rfl) rfl (ltb rfl) rfl Tryz.underlying28 Tryz.sizeOf78 rfl f_a0 rfl c1 <| fun p2 h3 => L_op (.plain rfl) rfl (ltb rfl) (X_loadS Tryz.isAgg78 Tryz.sizeOf78 rfl rfl h3) <| L_alloc (.plain rfl) rfl (ltb rfl) rfl Tryz.zeroValue78 <| fun b4 w5 z6 z7 e8 k9 => L_storeA (.plain rfl) rfl rfl Tryz.sizeOf78 rfl rfl rfl rfl rfl k9 <| fun w10 h11 k12 => L_op (.plain rfl) rfl (ltb rfl) (X_assign (v := (.int .i64 0)) rfl) <| L_nil <| thn_n <| W_seq <| W_seq <| W_reg <| L_op (.plain rfl) rfl (ltb rfl) (X_fieldAddr Tryz.underlying78 rfl Tryz.sizeOf9 rfl rfl) <| L_op (.plain rfl) rfl (ltb rfl) (X_loadB Tryz.isAgg9 k12 rfl rfl) ?_
  obtain ⟨c13, H⟩ := bif_some H
  refine L_callP (.plain rfl) rfl (ltb rfl) rfl Tryz.call120 (impl_parent.calls (w := w10) (a0 := (gt a0 a1).path) (of_decide_eq_true c13)) rfl <| fun w14 e15 => L_op (.plain rfl) rfl (ltb rfl) (X_assign (v := (S (parentP ((gt a0 a1).path)))) rfl) <| L_nil <| thn_n <| W_seq <| W_reg <| L_op (.plain rfl) rfl (ltb rfl) (X_move (v := (S (parentP ((gt a0 a1).path)))) rfl) <| L_op (.plain rfl) rfl (ltb rfl) (X_sne rfl rfl) <| L_nil <| thn_n ?_
  obtain ⟨z16, L17, C18⟩ := bind_some H
  clear H
  refine W_cutQ (fun s0 sQ wQ => ∃ (x6_19 : Int), Kp [(6, 7), (17, 22)] s0 sQ ∧ sQ 6 = .int .i64 x6_19 ∧ Ext w14 wQ ∧ z16 = .inr x6_19) ?_ ?_
  · have H := L17
    rcases bif_two H with ⟨q20, H⟩ | ⟨q20, H⟩
    · refine W_true (congrArg Value.bool q20) <| W_reg <| L_op (.plain rfl) rfl (ltb rfl) (X_move (v := v_a0) rfl) <| L_op (.plain rfl) rfl (ltb rfl) (X_move (v := (.int .i64 a1)) rfl) ?_
      obtain ⟨c21, H⟩ := bif_some H
      refine L_sub (.plain rfl) rfl (ltb rfl) rfl Tryz.underlying28 Tryz.sizeOf78 rfl (Rd.ext f_a0 (Ext.trans (Below.trans e8 (Wr.below h11 (Nat.le_of_eq z6))) e15)) (l := 0) (h := a1) rfl ⟨_, rfl⟩ c21 <| fun v22 h23 => L_op (.plain rfl) rfl (ltb rfl) (X_move (v := (S (parentP ((gt a0 a1).path)))) rfl) ?_
      obtain ⟨c24, H⟩ := bif_some H
      refine L_callP (.plain rfl) rfl (ltb rfl) rfl Tryz.call105 (impl_find.calls (w := w14) (a0 := sub a0 0 a1) (a1 := (parentP ((gt a0 a1).path))) h23 (of_decide_eq_true c24)) rfl <| fun w25 e26 => L_op (.plain rfl) rfl (ltb rfl) (X_assign (v := (.int .i64 (findR (sub a0 0 a1) (parentP ((gt a0 a1).path))))) rfl) <| L_nil <| thn_n ?_
      obtain rfl := Option.some.inj H
      exact ⟨(findR (sub a0 0 a1) (parentP ((gt a0 a1).path))), (Kp.upd (Kp.upd (Kp.upd (Kp.upd (Kp.upd (Kp.upd (Kp.refl _ _) rfl) rfl) rfl) rfl) rfl) rfl), rfl, e26, rfl⟩
    · refine W_false (congrArg Value.bool q20) <| W_skip <| thn_n ?_
      obtain rfl := Option.some.inj H
      exact ⟨0, (Kp.refl _ _), rfl, (Ext.refl w14), rfl⟩
  · rintro s28 w27 ⟨x6_19, K29, h32, e30, y31⟩
    rw [y31] at C18
    have H := C18
    refine thn_n <| W_seq ?_
    obtain ⟨c37, H⟩ := bif_some H
    obtain ⟨c40, H⟩ := bif_some H
    obtain ⟨c45, H⟩ := bif_some H
    obtain ⟨c48, H⟩ := bif_some H
    obtain ⟨c57, H⟩ := bif_some H
    obtain ⟨c66, H⟩ := bif_some H
    refine W_drawM [LEq (.int .i64 a1), LEq (.bool (decide (16 ≤ a1))), LEq (.iface 4 (.bool (decide (16 ≤ a1)))), LEq (.iface 3 (.int .i64 6)), LEq (.iface 4 (.bool true)), LEq (.agg #[(.int .i64 ((gt a0 a1).kind)), (S ((gt a0 a1).path)), (S ((gt a0 a1).body)), (.int .i64 ((gt a0 a1).mode)), (.bool ((gt a0 a1).opq))]), LEq (.bool (decide (recFault (gt a0 a1) = 0))), LEq (.bool (!(decide (recFault (gt a0 a1) = 0)))), LEq (.iface 4 (.bool (!(decide (recFault (gt a0 a1) = 0))))), LEq (.agg #[(.int .i64 ((gt a0 a1).kind)), (S ((gt a0 a1).path)), (S ((gt a0 a1).body)), (.int .i64 ((gt a0 a1).mode)), (.bool ((gt a0 a1).opq))]), LEq (.int .i64 (recFault (gt a0 a1))), LEq (.iface 3 (.int .i64 (recFault (gt a0 a1)))), LEq (.int .i64 a1), LEq (.bool (decide (0 < a1))), LEq (.bool (decide (0 < a1))), LIf (decide (0 < a1)) (LEq v_a0), LIf (decide (0 < a1)) (LEq (.int .i64 a1)), LIf (decide (0 < a1)) (LEq (.int .i64 (IntKind.wrap .i64 (a1 - 1)))), LIf (decide (0 < a1)) (LEq (.int .i64 (impl_faultAt.e3 a1))), LIf (decide (0 < a1)) (LAt0 (encRec (gt a0 (impl_faultAt.e3 a1)))), LIf (decide (0 < a1)) (LAt 1 (encRec (gt a0 (impl_faultAt.e3 a1)))), LIf (decide (0 < a1)) (LEq (S ((gt a0 (impl_faultAt.e3 a1)).path))), LIf (decide (0 < a1)) (LEq (.pointer (some ⟨b4, 1, none⟩))), LIf (decide (0 < a1)) (LEq (S ((gt a0 a1).path))), LIf (decide (0 < a1)) (LEq (.bool (impl_faultAt.e7 a0 a1))), LEq (.bool ((decide (0 < a1)) && (impl_faultAt.e7 a0 a1))), LEq (.iface 4 (.bool ((decide (0 < a1)) && (impl_faultAt.e7 a0 a1)))), LEq (.iface 3 (.int .i64 18)), LEq (.int .i64 a1), LEq (.bool (decide (0 < a1))), LEq (.bool (decide (0 < a1))), LIf (decide (0 < a1)) (LEq v_a0), LIf (decide (0 < a1)) (LEq (.int .i64 a1)), LIf (decide (0 < a1)) (LEq (.int .i64 (IntKind.wrap .i64 (a1 - 1)))), LIf (decide (0 < a1)) (LEq (.int .i64 (impl_faultAt.e3 a1))), LIf (decide (0 < a1)) (LAt0 (encRec (gt a0 (impl_faultAt.e3 a1)))), LIf (decide (0 < a1)) (LAt 1 (encRec (gt a0 (impl_faultAt.e3 a1)))), LIf (decide (0 < a1)) (LEq (S ((gt a0 (impl_faultAt.e3 a1)).path))), LIf (decide (0 < a1)) (LEq (.pointer (some ⟨b4, 1, none⟩))), LIf (decide (0 < a1)) (LEq (S ((gt a0 a1).path))), LIf (decide (0 < a1)) (LEq (.bool (impl_faultAt.e5 a0 a1))), LIf (decide (0 < a1)) (LEq (.bool (!(impl_faultAt.e5 a0 a1)))), LEq (.bool ((decide (0 < a1)) && (!(impl_faultAt.e5 a0 a1)))), LEq (.iface 4 (.bool ((decide (0 < a1)) && (!(impl_faultAt.e5 a0 a1))))), LEq (.iface 3 (.int .i64 11)), LEq (.int .i64 x6_19), LEq (.bool (decide (x6_19 < 0))), LEq (.iface 4 (.bool (decide (x6_19 < 0)))), LEq (.iface 3 (.int .i64 12)), LEq (.pointer (some ⟨b4, 1, none⟩)), LEq (S ((gt a0 a1).path)), LEq (S (parentP ((gt a0 a1).path))), LEq (.bool (impl_faultAt.e2 a0 a1)), LEq (.bool (impl_faultAt.e2 a0 a1)), LIf (impl_faultAt.e2 a0 a1) (LEq v_a0), LIf (impl_faultAt.e2 a0 a1) (LEq (.int .i64 x6_19)), LIf (impl_faultAt.e2 a0 a1) (LEq (.int .i64 (if (x6_19 < 0 : Prop) then 0 else x6_19))), LIf (impl_faultAt.e2 a0 a1) (LAt0 (encRec (gt a0 (if (x6_19 < 0 : Prop) then 0 else x6_19)))), LIf (impl_faultAt.e2 a0 a1) (LAt 0 (encRec (gt a0 (if (x6_19 < 0 : Prop) then 0 else x6_19)))), LIf (impl_faultAt.e2 a0 a1) (LEq (.int .i64 ((gt a0 (if (x6_19 < 0 : Prop) then 0 else x6_19)).kind))), LIf (impl_faultAt.e2 a0 a1) (LEq (.bool (impl_faultAt.e6 a0 x6_19))), LEq (.bool ((impl_faultAt.e2 a0 a1) && (impl_faultAt.e6 a0 x6_19))), LEq (.iface 4 (.bool ((impl_faultAt.e2 a0 a1) && (impl_faultAt.e6 a0 x6_19)))), LEq (.iface 3 (.int .i64 13)), LRd 1 (encAny 4 3) (impl_faultAt.e1 a0 a1 x6_19), LEq (.int .i64 (firstOf (impl_faultAt.e1 a0 a1 x6_19))), LEq (.iface 3 (.int .i64 (firstOf (impl_faultAt.e1 a0 a1 x6_19)))), LRd 1 (encAny 4 3) (impl_faultAt.e4 a0 a1 x6_19), LEq (.int .i64 (firstOf (impl_faultAt.e4 a0 a1 x6_19))), LEq (.int .i64 (firstOf (impl_faultAt.e4 a0 a1 x6_19)))] (by kernel_rfl) (by kernel_rfl) ⟨LEq.mono, LEq.mono, LEq.mono, LEq.mono, LEq.mono, LEq.mono, LEq.mono, LEq.mono, LEq.mono, LEq.mono, LEq.mono, LEq.mono, LEq.mono, LEq.mono, LEq.mono, (LIf.mono LEq.mono), (LIf.mono LEq.mono), (LIf.mono LEq.mono), (LIf.mono LEq.mono), (LIf.mono LAt0.mono), (LIf.mono LAt.mono), (LIf.mono LEq.mono), (LIf.mono LEq.mono), (LIf.mono LEq.mono), (LIf.mono LEq.mono), LEq.mono, LEq.mono, LEq.mono, LEq.mono, LEq.mono, LEq.mono, (LIf.mono LEq.mono), (LIf.mono LEq.mono), (LIf.mono LEq.mono), (LIf.mono LEq.mono), (LIf.mono LAt0.mono), (LIf.mono LAt.mono), (LIf.mono LEq.mono), (LIf.mono LEq.mono), (LIf.mono LEq.mono), (LIf.mono LEq.mono), (LIf.mono LEq.mono), LEq.mono, LEq.mono, LEq.mono, LEq.mono, LEq.mono, LEq.mono, LEq.mono, LEq.mono, LEq.mono, LEq.mono, LEq.mono, LEq.mono, (LIf.mono LEq.mono), (LIf.mono LEq.mono), (LIf.mono LEq.mono), (LIf.mono LAt0.mono), (LIf.mono LAt.mono), (LIf.mono LEq.mono), (LIf.mono LEq.mono), LEq.mono, LEq.mono, LEq.mono, LRd.mono, LEq.mono, LEq.mono, LRd.mono, LEq.mono, LEq.mono, trivial⟩ ⟨?_, ?_, ?_, ?_, ?_, ?_, ?_, ?_, ?_, ?_, ?_, ?_, ?_, ?_, ?_, ?_, ?_, ?_, ?_, ?_, ?_, ?_, ?_, ?_, ?_, ?_, ?_, ?_, ?_, ?_, ?_, ?_, ?_, ?_, ?_, ?_, ?_, ?_, ?_, ?_, ?_, ?_, ?_, ?_, ?_, ?_, ?_, ?_, ?_, ?_, ?_, ?_, ?_, ?_, ?_, ?_, ?_, ?_, ?_, ?_, ?_, ?_, ?_, ?_, ?_, ?_, ?_, ?_, ?_, ?_, trivial⟩ ?_
    · intro s69 w70 e71 hf72 hd73 hu74
      exact L_op (.plain rfl) rfl (ltb rfl) (X_move (v := (.int .i64 a1)) ((hf72 1 rfl).trans (K29 1 rfl))) <| L_nil <| stepEnd rfl rfl (Ext.refl w70) rfl
    · intro s75 w76 e77 hf78 hd79 hu80
      have d81 : s75 22 = (.int .i64 a1) := (hd79 0 rfl)
      exact L_op (.plain rfl) rfl (ltb rfl) (X_geq d81 rfl) <| L_nil <| stepEnd rfl rfl (Ext.refl w76) rfl
    · intro s82 w83 e84 hf85 hd86 hu87
      have d88 : s82 23 = (.bool (decide (16 ≤ a1))) := (hd86 1 rfl)
      exact L_op (.plain rfl) rfl (ltb rfl) (X_mkiface Tryz.underlying4 rfl d88) <| L_nil <| stepEnd rfl rfl (Ext.refl w83) rfl
    · intro s89 w90 e91 hf92 hd93 hu94
      exact L_op (.plain rfl) rfl (ltb rfl) (X_mkiface Tryz.underlying3 rfl rfl) <| L_nil <| stepEnd rfl rfl (Ext.refl w90) rfl
    · intro s95 w96 e97 hf98 hd99 hu100
      exact L_op (.plain rfl) rfl (ltb rfl) (X_mkiface Tryz.underlying4 rfl rfl) <| L_nil <| stepEnd rfl rfl (Ext.refl w96) rfl
    · intro s101 w102 e103 hf104 hd105 hu106
      exact L_op (.plain rfl) rfl (ltb rfl) (X_loadS Tryz.isAgg78 Tryz.sizeOf78 rfl ((hf104 5 rfl).trans (K29 5 rfl)) (Blk.at0 (Blk.ext k12 (Ext.trans (Ext.trans e15 e30) e103)))) <| L_nil <| stepEnd rfl rfl (Ext.refl w102) rfl
    · intro s107 w108 e109 hf110 hd111 hu112
      have d113 : s107 27 = (.agg #[(.int .i64 ((gt a0 a1).kind)), (S ((gt a0 a1).path)), (S ((gt a0 a1).body)), (.int .i64 ((gt a0 a1).mode)), (.bool ((gt a0 a1).opq))]) := (hd111 5 rfl)
      exact L_callP (.plain rfl) rfl (ltb rfl) rfl Tryz.call166 (impl_RecordOK.calls (w := w108) (a0 := (gt a0 a1)) (GV.ext gv (Ext.trans (Ext.trans (Ext.trans (Below.trans e8 (Wr.below h11 (Nat.le_of_eq z6))) e15) e30) e109))) (cons2 d113 rfl) <| fun w114 e115 => L_nil <| stepEnd rfl rfl e115 rfl
    · intro s116 w117 e118 hf119 hd120 hu121
      have d122 : s116 28 = (.bool (decide (recFault (gt a0 a1) = 0))) := (hd120 6 rfl)
      exact L_op (.plain rfl) rfl (ltb rfl) (X_not d122) <| L_nil <| stepEnd rfl rfl (Ext.refl w117) rfl
    · intro s123 w124 e125 hf126 hd127 hu128
      have d129 : s123 29 = (.bool (!(decide (recFault (gt a0 a1) = 0)))) := (hd127 7 rfl)
      exact L_op (.plain rfl) rfl (ltb rfl) (X_mkiface Tryz.underlying4 rfl d129) <| L_nil <| stepEnd rfl rfl (Ext.refl w124) rfl
    · intro s130 w131 e132 hf133 hd134 hu135
      exact L_op (.plain rfl) rfl (ltb rfl) (X_loadS Tryz.isAgg78 Tryz.sizeOf78 rfl ((hf133 5 rfl).trans (K29 5 rfl)) (Blk.at0 (Blk.ext k12 (Ext.trans (Ext.trans e15 e30) e132)))) <| L_nil <| stepEnd rfl rfl (Ext.refl w131) rfl
    · intro s136 w137 e138 hf139 hd140 hu141
      have d142 : s136 31 = (.agg #[(.int .i64 ((gt a0 a1).kind)), (S ((gt a0 a1).path)), (S ((gt a0 a1).body)), (.int .i64 ((gt a0 a1).mode)), (.bool ((gt a0 a1).opq))]) := (hd140 9 rfl)
      exact L_callP (.plain rfl) rfl (ltb rfl) rfl Tryz.call200 (impl_RecordFault.calls (w := w137) (a0 := (gt a0 a1)) (GV.ext gv (Ext.trans (Ext.trans (Ext.trans (Below.trans e8 (Wr.below h11 (Nat.le_of_eq z6))) e15) e30) e138))) (cons2 d142 rfl) <| fun w143 e144 => L_nil <| stepEnd rfl rfl e144 rfl
    · intro s145 w146 e147 hf148 hd149 hu150
      have d151 : s145 32 = (.int .i64 (recFault (gt a0 a1))) := (hd149 10 rfl)
      exact L_op (.plain rfl) rfl (ltb rfl) (X_mkiface Tryz.underlying3 rfl d151) <| L_nil <| stepEnd rfl rfl (Ext.refl w146) rfl
    · intro s152 w153 e154 hf155 hd156 hu157
      exact L_op (.plain rfl) rfl (ltb rfl) (X_move (v := (.int .i64 a1)) ((hf155 1 rfl).trans (K29 1 rfl))) <| L_nil <| stepEnd rfl rfl (Ext.refl w153) rfl
    · intro s158 w159 e160 hf161 hd162 hu163
      have d164 : s158 34 = (.int .i64 a1) := (hd162 12 rfl)
      exact L_op (.plain rfl) rfl (ltb rfl) (X_gtr d164 rfl) <| L_nil <| stepEnd rfl rfl (Ext.refl w159) rfl
    · intro s165 w166 e167 hf168 hd169 hu170
      have d171 : s165 35 = (.bool (decide (0 < a1))) := (hd169 13 rfl)
      exact L_op (.plain rfl) rfl (ltb rfl) (X_move (v := (.bool (decide (0 < a1)))) d171) <| L_nil <| stepEnd rfl rfl (Ext.refl w166) rfl
    · intro s172 w173 e174 hf175 hd176 hu177
      rcases bool_two (decide (0 < a1)) with b178 | b178
      · have g179 : (decide (0 < a1)) = true := b178
        have d180 : s172 36 = (.bool (decide (0 < a1))) := (hd176 14 rfl)
        have d181 : s172 36 = (.bool (decide (0 < a1))) := (hd176 14 rfl)
        exact L_op (.guard 14 true 36 rfl rfl (ltb rfl) (d180.trans (congrArg Value.bool g179))) rfl (ltb rfl) (X_move (v := v_a0) ((hf175 0 rfl).trans (K29 0 rfl))) <| L_nil <| stepEnd rfl rfl (Ext.refl w173) ⟨fun _ => rfl, fun h => absurd (b178.symm.trans h) (by decide)⟩
      · have d182 : s172 36 = (.bool (decide (0 < a1))) := (hd176 14 rfl)
        have g183 : (decide (0 < a1)) = false := b178
        exact L_skip rfl rfl (ltb rfl) (d182.trans (congrArg Value.bool g183)) rfl rfl (ltb rfl) <| L_nil <| stepEnd rfl rfl (Ext.refl w173) ⟨fun h => absurd (b178.symm.trans h) (by decide), fun _ => rfl⟩
    · intro s184 w185 e186 hf187 hd188 hu189
      rcases bool_two (decide (0 < a1)) with b190 | b190
      · have g191 : (decide (0 < a1)) = true := b190
        have d192 : s184 36 = (.bool (decide (0 < a1))) := (hd188 14 rfl)
        have d193 : s184 36 = (.bool (decide (0 < a1))) := (hd188 14 rfl)
        exact L_op (.guard 14 true 36 rfl rfl (ltb rfl) (d192.trans (congrArg Value.bool g191))) rfl (ltb rfl) (X_move (v := (.int .i64 a1)) ((hf187 1 rfl).trans (K29 1 rfl))) <| L_nil <| stepEnd rfl rfl (Ext.refl w185) ⟨fun _ => rfl, fun h => absurd (b190.symm.trans h) (by decide)⟩
      · have d194 : s184 36 = (.bool (decide (0 < a1))) := (hd188 14 rfl)
        have g195 : (decide (0 < a1)) = false := b190
        exact L_skip rfl rfl (ltb rfl) (d194.trans (congrArg Value.bool g195)) rfl rfl (ltb rfl) <| L_nil <| stepEnd rfl rfl (Ext.refl w185) ⟨fun h => absurd (b190.symm.trans h) (by decide), fun _ => rfl⟩
    · intro s196 w197 e198 hf199 hd200 hu201
      rcases bool_two (decide (0 < a1)) with b202 | b202
      · have g203 : (decide (0 < a1)) = true := b202
        have d204 : s196 36 = (.bool (decide (0 < a1))) := (hd200 14 rfl)
        have d205 : s196 36 = (.bool (decide (0 < a1))) := (hd200 14 rfl)
        have d206 : s196 38 = (.int .i64 a1) := ((hd200 16 rfl).1 b202)
        exact L_op (.guard 14 true 36 rfl rfl (ltb rfl) (d204.trans (congrArg Value.bool g203))) rfl (ltb rfl) (X_sub d206 rfl) <| L_nil <| stepEnd rfl rfl (Ext.refl w197) ⟨fun _ => rfl, fun h => absurd (b202.symm.trans h) (by decide)⟩
      · have d207 : s196 36 = (.bool (decide (0 < a1))) := (hd200 14 rfl)
        have g208 : (decide (0 < a1)) = false := b202
        exact L_skip rfl rfl (ltb rfl) (d207.trans (congrArg Value.bool g208)) rfl rfl (ltb rfl) <| L_nil <| stepEnd rfl rfl (Ext.refl w197) ⟨fun h => absurd (b202.symm.trans h) (by decide), fun _ => rfl⟩
    · intro s209 w210 e211 hf212 hd213 hu214
      rcases bool_two (decide (0 < a1)) with b215 | b215
      · have g216 : (decide (0 < a1)) = true := b215
        have d217 : s209 36 = (.bool (decide (0 < a1))) := (hd213 14 rfl)
        have d218 : s209 36 = (.bool (decide (0 < a1))) := (hd213 14 rfl)
        have d219 : s209 39 = (.int .i64 (IntKind.wrap .i64 (a1 - 1))) := ((hd213 17 rfl).1 b215)
        exact L_op (.guard 14 true 36 rfl rfl (ltb rfl) (d217.trans (congrArg Value.bool g216))) rfl (ltb rfl) (X_max d219 rfl) <| L_nil <| stepEnd rfl rfl (Ext.refl w210) ⟨fun _ => rfl, fun h => absurd (b215.symm.trans h) (by decide)⟩
      · have d220 : s209 36 = (.bool (decide (0 < a1))) := (hd213 14 rfl)
        have g221 : (decide (0 < a1)) = false := b215
        exact L_skip rfl rfl (ltb rfl) (d220.trans (congrArg Value.bool g221)) rfl rfl (ltb rfl) <| L_nil <| stepEnd rfl rfl (Ext.refl w210) ⟨fun h => absurd (b215.symm.trans h) (by decide), fun _ => rfl⟩
    · intro s222 w223 e224 hf225 hd226 hu227
      rcases bool_two (decide (0 < a1)) with b228 | b228
      · have g229 : (decide (0 < a1)) = true := b228
        have d230 : s222 36 = (.bool (decide (0 < a1))) := (hd226 14 rfl)
        have d231 : s222 36 = (.bool (decide (0 < a1))) := (hd226 14 rfl)
        have d232 : s222 37 = v_a0 := ((hd226 15 rfl).1 b228)
        have d233 : s222 40 = (.int .i64 (impl_faultAt.e3 a1)) := ((hd226 18 rfl).1 b228)
        have c234 := imp_take b228 c40
        exact L_idx (.guard 14 true 36 rfl rfl (ltb rfl) (d230.trans (congrArg Value.bool g229))) rfl (ltb rfl) rfl Tryz.underlying28 Tryz.sizeOf78 d232 (Rd.ext f_a0 (Ext.trans (Ext.trans (Ext.trans (Below.trans e8 (Wr.below h11 (Nat.le_of_eq z6))) e15) e30) e224)) d233 c234 <| fun p235 h236 => L_nil <| stepEnd rfl rfl (Ext.refl w223) ⟨fun _ => ⟨_, rfl, h236⟩, fun h => absurd (b228.symm.trans h) (by decide)⟩
      · have d237 : s222 36 = (.bool (decide (0 < a1))) := (hd226 14 rfl)
        have g238 : (decide (0 < a1)) = false := b228
        exact L_skip rfl rfl (ltb rfl) (d237.trans (congrArg Value.bool g238)) rfl rfl (ltb rfl) <| L_nil <| stepEnd rfl rfl (Ext.refl w223) ⟨fun h => absurd (b228.symm.trans h) (by decide), fun _ => rfl⟩
    · intro s239 w240 e241 hf242 hd243 hu244
      rcases bool_two (decide (0 < a1)) with b245 | b245
      · have g246 : (decide (0 < a1)) = true := b245
        have d247 : s239 36 = (.bool (decide (0 < a1))) := (hd243 14 rfl)
        have d248 : s239 36 = (.bool (decide (0 < a1))) := (hd243 14 rfl)
        obtain ⟨p249, h250, h251⟩ := ((hd243 19 rfl).1 b245)
        exact L_op (.guard 14 true 36 rfl rfl (ltb rfl) (d247.trans (congrArg Value.bool g246))) rfl (ltb rfl) (X_fieldAddr Tryz.underlying78 rfl Tryz.sizeOf9 rfl h250) <| L_nil <| stepEnd rfl rfl (Ext.refl w240) ⟨fun _ => ⟨_, rfl, h251⟩, fun h => absurd (b245.symm.trans h) (by decide)⟩
      · have d252 : s239 36 = (.bool (decide (0 < a1))) := (hd243 14 rfl)
        have g253 : (decide (0 < a1)) = false := b245
        exact L_skip rfl rfl (ltb rfl) (d252.trans (congrArg Value.bool g253)) rfl rfl (ltb rfl) <| L_nil <| stepEnd rfl rfl (Ext.refl w240) ⟨fun h => absurd (b245.symm.trans h) (by decide), fun _ => rfl⟩
    · intro s254 w255 e256 hf257 hd258 hu259
      rcases bool_two (decide (0 < a1)) with b260 | b260
      · have g261 : (decide (0 < a1)) = true := b260
        have d262 : s254 36 = (.bool (decide (0 < a1))) := (hd258 14 rfl)
        have d263 : s254 36 = (.bool (decide (0 < a1))) := (hd258 14 rfl)
        obtain ⟨p264, h265, h266⟩ := ((hd258 20 rfl).1 b260)
        exact L_op (.guard 14 true 36 rfl rfl (ltb rfl) (d262.trans (congrArg Value.bool g261))) rfl (ltb rfl) (X_loadF Tryz.isAgg9 (j := 1) h266 h265 rfl) <| L_nil <| stepEnd rfl rfl (Ext.refl w255) ⟨fun _ => rfl, fun h => absurd (b260.symm.trans h) (by decide)⟩
      · have d267 : s254 36 = (.bool (decide (0 < a1))) := (hd258 14 rfl)
        have g268 : (decide (0 < a1)) = false := b260
        exact L_skip rfl rfl (ltb rfl) (d267.trans (congrArg Value.bool g268)) rfl rfl (ltb rfl) <| L_nil <| stepEnd rfl rfl (Ext.refl w255) ⟨fun h => absurd (b260.symm.trans h) (by decide), fun _ => rfl⟩
    · intro s269 w270 e271 hf272 hd273 hu274
      rcases bool_two (decide (0 < a1)) with b275 | b275
      · have g276 : (decide (0 < a1)) = true := b275
        have d277 : s269 36 = (.bool (decide (0 < a1))) := (hd273 14 rfl)
        have d278 : s269 36 = (.bool (decide (0 < a1))) := (hd273 14 rfl)
        exact L_op (.guard 14 true 36 rfl rfl (ltb rfl) (d277.trans (congrArg Value.bool g276))) rfl (ltb rfl) (X_fieldAddr Tryz.underlying78 rfl Tryz.sizeOf9 rfl ((hf272 5 rfl).trans (K29 5 rfl))) <| L_nil <| stepEnd rfl rfl (Ext.refl w270) ⟨fun _ => rfl, fun h => absurd (b275.symm.trans h) (by decide)⟩
      · have d279 : s269 36 = (.bool (decide (0 < a1))) := (hd273 14 rfl)
        have g280 : (decide (0 < a1)) = false := b275
        exact L_skip rfl rfl (ltb rfl) (d279.trans (congrArg Value.bool g280)) rfl rfl (ltb rfl) <| L_nil <| stepEnd rfl rfl (Ext.refl w270) ⟨fun h => absurd (b275.symm.trans h) (by decide), fun _ => rfl⟩
    · intro s281 w282 e283 hf284 hd285 hu286
      rcases bool_two (decide (0 < a1)) with b287 | b287
      · have g288 : (decide (0 < a1)) = true := b287
        have d289 : s281 36 = (.bool (decide (0 < a1))) := (hd285 14 rfl)
        have d290 : s281 36 = (.bool (decide (0 < a1))) := (hd285 14 rfl)
        have d291 : s281 44 = (.pointer (some ⟨b4, 1, none⟩)) := ((hd285 22 rfl).1 b287)
        exact L_op (.guard 14 true 36 rfl rfl (ltb rfl) (d289.trans (congrArg Value.bool g288))) rfl (ltb rfl) (X_loadB Tryz.isAgg9 (Blk.ext k12 (Ext.trans (Ext.trans e15 e30) e283)) d291 rfl) <| L_nil <| stepEnd rfl rfl (Ext.refl w282) ⟨fun _ => rfl, fun h => absurd (b287.symm.trans h) (by decide)⟩
      · have d292 : s281 36 = (.bool (decide (0 < a1))) := (hd285 14 rfl)
        have g293 : (decide (0 < a1)) = false := b287
        exact L_skip rfl rfl (ltb rfl) (d292.trans (congrArg Value.bool g293)) rfl rfl (ltb rfl) <| L_nil <| stepEnd rfl rfl (Ext.refl w282) ⟨fun h => absurd (b287.symm.trans h) (by decide), fun _ => rfl⟩
    · intro s294 w295 e296 hf297 hd298 hu299
      rcases bool_two (decide (0 < a1)) with b300 | b300
      · have g301 : (decide (0 < a1)) = true := b300
        have d302 : s294 36 = (.bool (decide (0 < a1))) := (hd298 14 rfl)
        have d303 : s294 36 = (.bool (decide (0 < a1))) := (hd298 14 rfl)
        have d304 : s294 43 = (S ((gt a0 (impl_faultAt.e3 a1)).path)) := ((hd298 21 rfl).1 b300)
        have d305 : s294 45 = (S ((gt a0 a1).path)) := ((hd298 23 rfl).1 b300)
        exact L_op (.guard 14 true 36 rfl rfl (ltb rfl) (d302.trans (congrArg Value.bool g301))) rfl (ltb rfl) (X_seq d304 d305) <| L_nil <| stepEnd rfl rfl (Ext.refl w295) ⟨fun _ => rfl, fun h => absurd (b300.symm.trans h) (by decide)⟩
      · have d306 : s294 36 = (.bool (decide (0 < a1))) := (hd298 14 rfl)
        have g307 : (decide (0 < a1)) = false := b300
        exact L_skip rfl rfl (ltb rfl) (d306.trans (congrArg Value.bool g307)) rfl rfl (ltb rfl) <| L_nil <| stepEnd rfl rfl (Ext.refl w295) ⟨fun h => absurd (b300.symm.trans h) (by decide), fun _ => rfl⟩
    · intro s308 w309 e310 hf311 hd312 hu313
      rcases bool_two (decide (0 < a1)) with b314 | b314
      · have d315 : s308 36 = (.bool (decide (0 < a1))) := (hd312 14 rfl)
        have d316 : s308 46 = (.bool (impl_faultAt.e7 a0 a1)) := ((hd312 24 rfl).1 b314)
        exact L_op (.plain rfl) rfl (ltb rfl) (X_pick (b := true) (v := (.bool (impl_faultAt.e7 a0 a1))) (d315.trans (congrArg Value.bool b314)) d316) <| L_nil <| stepEnd rfl rfl (Ext.refl w309) (and_t b314)
      · have d317 : s308 36 = (.bool (decide (0 < a1))) := (hd312 14 rfl)
        exact L_op (.plain rfl) rfl (ltb rfl) (X_pick (b := false) (v := (.bool false)) (d317.trans (congrArg Value.bool b314)) rfl) <| L_nil <| stepEnd rfl rfl (Ext.refl w309) (and_f b314)
    · intro s318 w319 e320 hf321 hd322 hu323
      have d324 : s318 47 = (.bool ((decide (0 < a1)) && (impl_faultAt.e7 a0 a1))) := (hd322 25 rfl)
      exact L_op (.plain rfl) rfl (ltb rfl) (X_mkiface Tryz.underlying4 rfl d324) <| L_nil <| stepEnd rfl rfl (Ext.refl w319) rfl
    · intro s325 w326 e327 hf328 hd329 hu330
      exact L_op (.plain rfl) rfl (ltb rfl) (X_mkiface Tryz.underlying3 rfl rfl) <| L_nil <| stepEnd rfl rfl (Ext.refl w326) rfl
    · intro s331 w332 e333 hf334 hd335 hu336
      exact L_op (.plain rfl) rfl (ltb rfl) (X_move (v := (.int .i64 a1)) ((hf334 1 rfl).trans (K29 1 rfl))) <| L_nil <| stepEnd rfl rfl (Ext.refl w332) rfl
    · intro s337 w338 e339 hf340 hd341 hu342
      have d343 : s337 50 = (.int .i64 a1) := (hd341 28 rfl)
      exact L_op (.plain rfl) rfl (ltb rfl) (X_gtr d343 rfl) <| L_nil <| stepEnd rfl rfl (Ext.refl w338) rfl
    · intro s344 w345 e346 hf347 hd348 hu349
      have d350 : s344 51 = (.bool (decide (0 < a1))) := (hd348 29 rfl)
      exact L_op (.plain rfl) rfl (ltb rfl) (X_move (v := (.bool (decide (0 < a1)))) d350) <| L_nil <| stepEnd rfl rfl (Ext.refl w345) rfl
    · intro s351 w352 e353 hf354 hd355 hu356
      rcases bool_two (decide (0 < a1)) with b357 | b357
      · have g358 : (decide (0 < a1)) = true := b357
        have d359 : s351 52 = (.bool (decide (0 < a1))) := (hd355 30 rfl)
        have d360 : s351 52 = (.bool (decide (0 < a1))) := (hd355 30 rfl)
        exact L_op (.guard 30 true 52 rfl rfl (ltb rfl) (d359.trans (congrArg Value.bool g358))) rfl (ltb rfl) (X_move (v := v_a0) ((hf354 0 rfl).trans (K29 0 rfl))) <| L_nil <| stepEnd rfl rfl (Ext.refl w352) ⟨fun _ => rfl, fun h => absurd (b357.symm.trans h) (by decide)⟩
      · have d361 : s351 52 = (.bool (decide (0 < a1))) := (hd355 30 rfl)
        have g362 : (decide (0 < a1)) = false := b357
        exact L_skip rfl rfl (ltb rfl) (d361.trans (congrArg Value.bool g362)) rfl rfl (ltb rfl) <| L_nil <| stepEnd rfl rfl (Ext.refl w352) ⟨fun h => absurd (b357.symm.trans h) (by decide), fun _ => rfl⟩
    · intro s363 w364 e365 hf366 hd367 hu368
      rcases bool_two (decide (0 < a1)) with b369 | b369
      · have g370 : (decide (0 < a1)) = true := b369
        have d371 : s363 52 = (.bool (decide (0 < a1))) := (hd367 30 rfl)
        have d372 : s363 52 = (.bool (decide (0 < a1))) := (hd367 30 rfl)
        exact L_op (.guard 30 true 52 rfl rfl (ltb rfl) (d371.trans (congrArg Value.bool g370))) rfl (ltb rfl) (X_move (v := (.int .i64 a1)) ((hf366 1 rfl).trans (K29 1 rfl))) <| L_nil <| stepEnd rfl rfl (Ext.refl w364) ⟨fun _ => rfl, fun h => absurd (b369.symm.trans h) (by decide)⟩
      · have d373 : s363 52 = (.bool (decide (0 < a1))) := (hd367 30 rfl)
        have g374 : (decide (0 < a1)) = false := b369
        exact L_skip rfl rfl (ltb rfl) (d373.trans (congrArg Value.bool g374)) rfl rfl (ltb rfl) <| L_nil <| stepEnd rfl rfl (Ext.refl w364) ⟨fun h => absurd (b369.symm.trans h) (by decide), fun _ => rfl⟩
    · intro s375 w376 e377 hf378 hd379 hu380
      rcases bool_two (decide (0 < a1)) with b381 | b381
      · have g382 : (decide (0 < a1)) = true := b381
        have d383 : s375 52 = (.bool (decide (0 < a1))) := (hd379 30 rfl)
        have d384 : s375 52 = (.bool (decide (0 < a1))) := (hd379 30 rfl)
        have d385 : s375 54 = (.int .i64 a1) := ((hd379 32 rfl).1 b381)
        exact L_op (.guard 30 true 52 rfl rfl (ltb rfl) (d383.trans (congrArg Value.bool g382))) rfl (ltb rfl) (X_sub d385 rfl) <| L_nil <| stepEnd rfl rfl (Ext.refl w376) ⟨fun _ => rfl, fun h => absurd (b381.symm.trans h) (by decide)⟩
      · have d386 : s375 52 = (.bool (decide (0 < a1))) := (hd379 30 rfl)
        have g387 : (decide (0 < a1)) = false := b381
        exact L_skip rfl rfl (ltb rfl) (d386.trans (congrArg Value.bool g387)) rfl rfl (ltb rfl) <| L_nil <| stepEnd rfl rfl (Ext.refl w376) ⟨fun h => absurd (b381.symm.trans h) (by decide), fun _ => rfl⟩
    · intro s388 w389 e390 hf391 hd392 hu393
      rcases bool_two (decide (0 < a1)) with b394 | b394
      · have g395 : (decide (0 < a1)) = true := b394
        have d396 : s388 52 = (.bool (decide (0 < a1))) := (hd392 30 rfl)
        have d397 : s388 52 = (.bool (decide (0 < a1))) := (hd392 30 rfl)
        have d398 : s388 55 = (.int .i64 (IntKind.wrap .i64 (a1 - 1))) := ((hd392 33 rfl).1 b394)
        exact L_op (.guard 30 true 52 rfl rfl (ltb rfl) (d396.trans (congrArg Value.bool g395))) rfl (ltb rfl) (X_max d398 rfl) <| L_nil <| stepEnd rfl rfl (Ext.refl w389) ⟨fun _ => rfl, fun h => absurd (b394.symm.trans h) (by decide)⟩
      · have d399 : s388 52 = (.bool (decide (0 < a1))) := (hd392 30 rfl)
        have g400 : (decide (0 < a1)) = false := b394
        exact L_skip rfl rfl (ltb rfl) (d399.trans (congrArg Value.bool g400)) rfl rfl (ltb rfl) <| L_nil <| stepEnd rfl rfl (Ext.refl w389) ⟨fun h => absurd (b394.symm.trans h) (by decide), fun _ => rfl⟩
    · intro s401 w402 e403 hf404 hd405 hu406
      rcases bool_two (decide (0 < a1)) with b407 | b407
      · have g408 : (decide (0 < a1)) = true := b407
        have d409 : s401 52 = (.bool (decide (0 < a1))) := (hd405 30 rfl)
        have d410 : s401 52 = (.bool (decide (0 < a1))) := (hd405 30 rfl)
        have d411 : s401 53 = v_a0 := ((hd405 31 rfl).1 b407)
        have d412 : s401 56 = (.int .i64 (impl_faultAt.e3 a1)) := ((hd405 34 rfl).1 b407)
        have c413 := imp_take b407 c40
        exact L_idx (.guard 30 true 52 rfl rfl (ltb rfl) (d409.trans (congrArg Value.bool g408))) rfl (ltb rfl) rfl Tryz.underlying28 Tryz.sizeOf78 d411 (Rd.ext f_a0 (Ext.trans (Ext.trans (Ext.trans (Below.trans e8 (Wr.below h11 (Nat.le_of_eq z6))) e15) e30) e403)) d412 c413 <| fun p414 h415 => L_nil <| stepEnd rfl rfl (Ext.refl w402) ⟨fun _ => ⟨_, rfl, h415⟩, fun h => absurd (b407.symm.trans h) (by decide)⟩
      · have d416 : s401 52 = (.bool (decide (0 < a1))) := (hd405 30 rfl)
        have g417 : (decide (0 < a1)) = false := b407
        exact L_skip rfl rfl (ltb rfl) (d416.trans (congrArg Value.bool g417)) rfl rfl (ltb rfl) <| L_nil <| stepEnd rfl rfl (Ext.refl w402) ⟨fun h => absurd (b407.symm.trans h) (by decide), fun _ => rfl⟩
    · intro s418 w419 e420 hf421 hd422 hu423
      rcases bool_two (decide (0 < a1)) with b424 | b424
      · have g425 : (decide (0 < a1)) = true := b424
        have d426 : s418 52 = (.bool (decide (0 < a1))) := (hd422 30 rfl)
        have d427 : s418 52 = (.bool (decide (0 < a1))) := (hd422 30 rfl)
        obtain ⟨p428, h429, h430⟩ := ((hd422 35 rfl).1 b424)
        exact L_op (.guard 30 true 52 rfl rfl (ltb rfl) (d426.trans (congrArg Value.bool g425))) rfl (ltb rfl) (X_fieldAddr Tryz.underlying78 rfl Tryz.sizeOf9 rfl h429) <| L_nil <| stepEnd rfl rfl (Ext.refl w419) ⟨fun _ => ⟨_, rfl, h430⟩, fun h => absurd (b424.symm.trans h) (by decide)⟩
      · have d431 : s418 52 = (.bool (decide (0 < a1))) := (hd422 30 rfl)
        have g432 : (decide (0 < a1)) = false := b424
        exact L_skip rfl rfl (ltb rfl) (d431.trans (congrArg Value.bool g432)) rfl rfl (ltb rfl) <| L_nil <| stepEnd rfl rfl (Ext.refl w419) ⟨fun h => absurd (b424.symm.trans h) (by decide), fun _ => rfl⟩
    · intro s433 w434 e435 hf436 hd437 hu438
      rcases bool_two (decide (0 < a1)) with b439 | b439
      · have g440 : (decide (0 < a1)) = true := b439
        have d441 : s433 52 = (.bool (decide (0 < a1))) := (hd437 30 rfl)
        have d442 : s433 52 = (.bool (decide (0 < a1))) := (hd437 30 rfl)
        obtain ⟨p443, h444, h445⟩ := ((hd437 36 rfl).1 b439)
        exact L_op (.guard 30 true 52 rfl rfl (ltb rfl) (d441.trans (congrArg Value.bool g440))) rfl (ltb rfl) (X_loadF Tryz.isAgg9 (j := 1) h445 h444 rfl) <| L_nil <| stepEnd rfl rfl (Ext.refl w434) ⟨fun _ => rfl, fun h => absurd (b439.symm.trans h) (by decide)⟩
      · have d446 : s433 52 = (.bool (decide (0 < a1))) := (hd437 30 rfl)
        have g447 : (decide (0 < a1)) = false := b439
        exact L_skip rfl rfl (ltb rfl) (d446.trans (congrArg Value.bool g447)) rfl rfl (ltb rfl) <| L_nil <| stepEnd rfl rfl (Ext.refl w434) ⟨fun h => absurd (b439.symm.trans h) (by decide), fun _ => rfl⟩
    · intro s448 w449 e450 hf451 hd452 hu453
      rcases bool_two (decide (0 < a1)) with b454 | b454
      · have g455 : (decide (0 < a1)) = true := b454
        have d456 : s448 52 = (.bool (decide (0 < a1))) := (hd452 30 rfl)
        have d457 : s448 52 = (.bool (decide (0 < a1))) := (hd452 30 rfl)
        exact L_op (.guard 30 true 52 rfl rfl (ltb rfl) (d456.trans (congrArg Value.bool g455))) rfl (ltb rfl) (X_fieldAddr Tryz.underlying78 rfl Tryz.sizeOf9 rfl ((hf451 5 rfl).trans (K29 5 rfl))) <| L_nil <| stepEnd rfl rfl (Ext.refl w449) ⟨fun _ => rfl, fun h => absurd (b454.symm.trans h) (by decide)⟩
      · have d458 : s448 52 = (.bool (decide (0 < a1))) := (hd452 30 rfl)
        have g459 : (decide (0 < a1)) = false := b454
        exact L_skip rfl rfl (ltb rfl) (d458.trans (congrArg Value.bool g459)) rfl rfl (ltb rfl) <| L_nil <| stepEnd rfl rfl (Ext.refl w449) ⟨fun h => absurd (b454.symm.trans h) (by decide), fun _ => rfl⟩
    · intro s460 w461 e462 hf463 hd464 hu465
      rcases bool_two (decide (0 < a1)) with b466 | b466
      · have g467 : (decide (0 < a1)) = true := b466
        have d468 : s460 52 = (.bool (decide (0 < a1))) := (hd464 30 rfl)
        have d469 : s460 52 = (.bool (decide (0 < a1))) := (hd464 30 rfl)
        have d470 : s460 60 = (.pointer (some ⟨b4, 1, none⟩)) := ((hd464 38 rfl).1 b466)
        exact L_op (.guard 30 true 52 rfl rfl (ltb rfl) (d468.trans (congrArg Value.bool g467))) rfl (ltb rfl) (X_loadB Tryz.isAgg9 (Blk.ext k12 (Ext.trans (Ext.trans e15 e30) e462)) d470 rfl) <| L_nil <| stepEnd rfl rfl (Ext.refl w461) ⟨fun _ => rfl, fun h => absurd (b466.symm.trans h) (by decide)⟩
      · have d471 : s460 52 = (.bool (decide (0 < a1))) := (hd464 30 rfl)
        have g472 : (decide (0 < a1)) = false := b466
        exact L_skip rfl rfl (ltb rfl) (d471.trans (congrArg Value.bool g472)) rfl rfl (ltb rfl) <| L_nil <| stepEnd rfl rfl (Ext.refl w461) ⟨fun h => absurd (b466.symm.trans h) (by decide), fun _ => rfl⟩
    · intro s473 w474 e475 hf476 hd477 hu478
      rcases bool_two (decide (0 < a1)) with b479 | b479
      · have g480 : (decide (0 < a1)) = true := b479
        have d481 : s473 52 = (.bool (decide (0 < a1))) := (hd477 30 rfl)
        have d482 : s473 52 = (.bool (decide (0 < a1))) := (hd477 30 rfl)
        have d483 : s473 59 = (S ((gt a0 (impl_faultAt.e3 a1)).path)) := ((hd477 37 rfl).1 b479)
        have d484 : s473 61 = (S ((gt a0 a1).path)) := ((hd477 39 rfl).1 b479)
        exact L_callP (.guard 30 true 52 rfl rfl (ltb rfl) (d481.trans (congrArg Value.bool g480))) rfl (ltb rfl) rfl Tryz.call118 (impl_PathLess.calls (w := w474) (a0 := (gt a0 (impl_faultAt.e3 a1)).path) (a1 := (gt a0 a1).path) (GV.ext gv (Ext.trans (Ext.trans (Ext.trans (Below.trans e8 (Wr.below h11 (Nat.le_of_eq z6))) e15) e30) e475))) (cons2 d483 (cons2 d484 rfl)) <| fun w485 e486 => L_nil <| stepEnd rfl rfl e486 ⟨fun _ => rfl, fun h => absurd (b479.symm.trans h) (by decide)⟩
      · have d487 : s473 52 = (.bool (decide (0 < a1))) := (hd477 30 rfl)
        have g488 : (decide (0 < a1)) = false := b479
        exact L_skip rfl rfl (ltb rfl) (d487.trans (congrArg Value.bool g488)) rfl rfl (ltb rfl) <| L_nil <| stepEnd rfl rfl (Ext.refl w474) ⟨fun h => absurd (b479.symm.trans h) (by decide), fun _ => rfl⟩
    · intro s489 w490 e491 hf492 hd493 hu494
      rcases bool_two (decide (0 < a1)) with b495 | b495
      · have g496 : (decide (0 < a1)) = true := b495
        have d497 : s489 52 = (.bool (decide (0 < a1))) := (hd493 30 rfl)
        have d498 : s489 52 = (.bool (decide (0 < a1))) := (hd493 30 rfl)
        have d499 : s489 62 = (.bool (impl_faultAt.e5 a0 a1)) := ((hd493 40 rfl).1 b495)
        exact L_op (.guard 30 true 52 rfl rfl (ltb rfl) (d497.trans (congrArg Value.bool g496))) rfl (ltb rfl) (X_not d499) <| L_nil <| stepEnd rfl rfl (Ext.refl w490) ⟨fun _ => rfl, fun h => absurd (b495.symm.trans h) (by decide)⟩
      · have d500 : s489 52 = (.bool (decide (0 < a1))) := (hd493 30 rfl)
        have g501 : (decide (0 < a1)) = false := b495
        exact L_skip rfl rfl (ltb rfl) (d500.trans (congrArg Value.bool g501)) rfl rfl (ltb rfl) <| L_nil <| stepEnd rfl rfl (Ext.refl w490) ⟨fun h => absurd (b495.symm.trans h) (by decide), fun _ => rfl⟩
    · intro s502 w503 e504 hf505 hd506 hu507
      rcases bool_two (decide (0 < a1)) with b508 | b508
      · have d509 : s502 52 = (.bool (decide (0 < a1))) := (hd506 30 rfl)
        have d510 : s502 63 = (.bool (!(impl_faultAt.e5 a0 a1))) := ((hd506 41 rfl).1 b508)
        exact L_op (.plain rfl) rfl (ltb rfl) (X_pick (b := true) (v := (.bool (!(impl_faultAt.e5 a0 a1)))) (d509.trans (congrArg Value.bool b508)) d510) <| L_nil <| stepEnd rfl rfl (Ext.refl w503) (and_t b508)
      · have d511 : s502 52 = (.bool (decide (0 < a1))) := (hd506 30 rfl)
        exact L_op (.plain rfl) rfl (ltb rfl) (X_pick (b := false) (v := (.bool false)) (d511.trans (congrArg Value.bool b508)) rfl) <| L_nil <| stepEnd rfl rfl (Ext.refl w503) (and_f b508)
    · intro s512 w513 e514 hf515 hd516 hu517
      have d518 : s512 64 = (.bool ((decide (0 < a1)) && (!(impl_faultAt.e5 a0 a1)))) := (hd516 42 rfl)
      exact L_op (.plain rfl) rfl (ltb rfl) (X_mkiface Tryz.underlying4 rfl d518) <| L_nil <| stepEnd rfl rfl (Ext.refl w513) rfl
    · intro s519 w520 e521 hf522 hd523 hu524
      exact L_op (.plain rfl) rfl (ltb rfl) (X_mkiface Tryz.underlying3 rfl rfl) <| L_nil <| stepEnd rfl rfl (Ext.refl w520) rfl
    · intro s525 w526 e527 hf528 hd529 hu530
      exact L_op (.plain rfl) rfl (ltb rfl) (X_move (v := (.int .i64 x6_19)) ((hf528 6 rfl).trans h32)) <| L_nil <| stepEnd rfl rfl (Ext.refl w526) rfl
    · intro s531 w532 e533 hf534 hd535 hu536
      have d537 : s531 67 = (.int .i64 x6_19) := (hd535 45 rfl)
      exact L_op (.plain rfl) rfl (ltb rfl) (X_lss d537 rfl) <| L_nil <| stepEnd rfl rfl (Ext.refl w532) rfl
    · intro s538 w539 e540 hf541 hd542 hu543
      have d544 : s538 68 = (.bool (decide (x6_19 < 0))) := (hd542 46 rfl)
      exact L_op (.plain rfl) rfl (ltb rfl) (X_mkiface Tryz.underlying4 rfl d544) <| L_nil <| stepEnd rfl rfl (Ext.refl w539) rfl
    · intro s545 w546 e547 hf548 hd549 hu550
      exact L_op (.plain rfl) rfl (ltb rfl) (X_mkiface Tryz.underlying3 rfl rfl) <| L_nil <| stepEnd rfl rfl (Ext.refl w546) rfl
    · intro s551 w552 e553 hf554 hd555 hu556
      exact L_op (.plain rfl) rfl (ltb rfl) (X_fieldAddr Tryz.underlying78 rfl Tryz.sizeOf9 rfl ((hf554 5 rfl).trans (K29 5 rfl))) <| L_nil <| stepEnd rfl rfl (Ext.refl w552) rfl
    · intro s557 w558 e559 hf560 hd561 hu562
      have d563 : s557 71 = (.pointer (some ⟨b4, 1, none⟩)) := (hd561 49 rfl)
      exact L_op (.plain rfl) rfl (ltb rfl) (X_loadB Tryz.isAgg9 (Blk.ext k12 (Ext.trans (Ext.trans e15 e30) e559)) d563 rfl) <| L_nil <| stepEnd rfl rfl (Ext.refl w558) rfl
    · intro s564 w565 e566 hf567 hd568 hu569
      have d570 : s564 72 = (S ((gt a0 a1).path)) := (hd568 50 rfl)
      have c571 := c45
      exact L_callP (.plain rfl) rfl (ltb rfl) rfl Tryz.call120 (impl_parent.calls (w := w565) (a0 := (gt a0 a1).path) (of_decide_eq_true c571)) (cons2 d570 rfl) <| fun w572 e573 => L_nil <| stepEnd rfl rfl e573 rfl
    · intro s574 w575 e576 hf577 hd578 hu579
      have d580 : s574 73 = (S (parentP ((gt a0 a1).path))) := (hd578 51 rfl)
      exact L_op (.plain rfl) rfl (ltb rfl) (X_sne d580 rfl) <| L_nil <| stepEnd rfl rfl (Ext.refl w575) rfl
    · intro s581 w582 e583 hf584 hd585 hu586
      have d587 : s581 74 = (.bool (impl_faultAt.e2 a0 a1)) := (hd585 52 rfl)
      exact L_op (.plain rfl) rfl (ltb rfl) (X_move (v := (.bool (impl_faultAt.e2 a0 a1))) d587) <| L_nil <| stepEnd rfl rfl (Ext.refl w582) rfl
    · intro s588 w589 e590 hf591 hd592 hu593
      rcases bool_two (impl_faultAt.e2 a0 a1) with b594 | b594
      · have g595 : (impl_faultAt.e2 a0 a1) = true := b594
        have d596 : s588 75 = (.bool (impl_faultAt.e2 a0 a1)) := (hd592 53 rfl)
        have d597 : s588 75 = (.bool (impl_faultAt.e2 a0 a1)) := (hd592 53 rfl)
        exact L_op (.guard 53 true 75 rfl rfl (ltb rfl) (d596.trans (congrArg Value.bool g595))) rfl (ltb rfl) (X_move (v := v_a0) ((hf591 0 rfl).trans (K29 0 rfl))) <| L_nil <| stepEnd rfl rfl (Ext.refl w589) ⟨fun _ => rfl, fun h => absurd (b594.symm.trans h) (by decide)⟩
      · have d598 : s588 75 = (.bool (impl_faultAt.e2 a0 a1)) := (hd592 53 rfl)
        have g599 : (impl_faultAt.e2 a0 a1) = false := b594
        exact L_skip rfl rfl (ltb rfl) (d598.trans (congrArg Value.bool g599)) rfl rfl (ltb rfl) <| L_nil <| stepEnd rfl rfl (Ext.refl w589) ⟨fun h => absurd (b594.symm.trans h) (by decide), fun _ => rfl⟩
    · intro s600 w601 e602 hf603 hd604 hu605
      rcases bool_two (impl_faultAt.e2 a0 a1) with b606 | b606
      · have g607 : (impl_faultAt.e2 a0 a1) = true := b606
        have d608 : s600 75 = (.bool (impl_faultAt.e2 a0 a1)) := (hd604 53 rfl)
        have d609 : s600 75 = (.bool (impl_faultAt.e2 a0 a1)) := (hd604 53 rfl)
        exact L_op (.guard 53 true 75 rfl rfl (ltb rfl) (d608.trans (congrArg Value.bool g607))) rfl (ltb rfl) (X_move (v := (.int .i64 x6_19)) ((hf603 6 rfl).trans h32)) <| L_nil <| stepEnd rfl rfl (Ext.refl w601) ⟨fun _ => rfl, fun h => absurd (b606.symm.trans h) (by decide)⟩
      · have d610 : s600 75 = (.bool (impl_faultAt.e2 a0 a1)) := (hd604 53 rfl)
        have g611 : (impl_faultAt.e2 a0 a1) = false := b606
        exact L_skip rfl rfl (ltb rfl) (d610.trans (congrArg Value.bool g611)) rfl rfl (ltb rfl) <| L_nil <| stepEnd rfl rfl (Ext.refl w601) ⟨fun h => absurd (b606.symm.trans h) (by decide), fun _ => rfl⟩
    · intro s612 w613 e614 hf615 hd616 hu617
      rcases bool_two (impl_faultAt.e2 a0 a1) with b618 | b618
      · have g619 : (impl_faultAt.e2 a0 a1) = true := b618
        have d620 : s612 75 = (.bool (impl_faultAt.e2 a0 a1)) := (hd616 53 rfl)
        have d621 : s612 75 = (.bool (impl_faultAt.e2 a0 a1)) := (hd616 53 rfl)
        have d622 : s612 77 = (.int .i64 x6_19) := ((hd616 55 rfl).1 b618)
        exact L_op (.guard 53 true 75 rfl rfl (ltb rfl) (d620.trans (congrArg Value.bool g619))) rfl (ltb rfl) (X_max d622 rfl) <| L_nil <| stepEnd rfl rfl (Ext.refl w613) ⟨fun _ => rfl, fun h => absurd (b618.symm.trans h) (by decide)⟩
      · have d623 : s612 75 = (.bool (impl_faultAt.e2 a0 a1)) := (hd616 53 rfl)
        have g624 : (impl_faultAt.e2 a0 a1) = false := b618
        exact L_skip rfl rfl (ltb rfl) (d623.trans (congrArg Value.bool g624)) rfl rfl (ltb rfl) <| L_nil <| stepEnd rfl rfl (Ext.refl w613) ⟨fun h => absurd (b618.symm.trans h) (by decide), fun _ => rfl⟩
    · intro s625 w626 e627 hf628 hd629 hu630
      rcases bool_two (impl_faultAt.e2 a0 a1) with b631 | b631
      · have g632 : (impl_faultAt.e2 a0 a1) = true := b631
        have d633 : s625 75 = (.bool (impl_faultAt.e2 a0 a1)) := (hd629 53 rfl)
        have d634 : s625 75 = (.bool (impl_faultAt.e2 a0 a1)) := (hd629 53 rfl)
        have d635 : s625 76 = v_a0 := ((hd629 54 rfl).1 b631)
        have d636 : s625 78 = (.int .i64 (if (x6_19 < 0 : Prop) then 0 else x6_19)) := ((hd629 56 rfl).1 b631)
        have c637 := imp_take b631 c48
        exact L_idx (.guard 53 true 75 rfl rfl (ltb rfl) (d633.trans (congrArg Value.bool g632))) rfl (ltb rfl) rfl Tryz.underlying28 Tryz.sizeOf78 d635 (Rd.ext f_a0 (Ext.trans (Ext.trans (Ext.trans (Below.trans e8 (Wr.below h11 (Nat.le_of_eq z6))) e15) e30) e627)) d636 c637 <| fun p638 h639 => L_nil <| stepEnd rfl rfl (Ext.refl w626) ⟨fun _ => ⟨_, rfl, h639⟩, fun h => absurd (b631.symm.trans h) (by decide)⟩
      · have d640 : s625 75 = (.bool (impl_faultAt.e2 a0 a1)) := (hd629 53 rfl)
        have g641 : (impl_faultAt.e2 a0 a1) = false := b631
        exact L_skip rfl rfl (ltb rfl) (d640.trans (congrArg Value.bool g641)) rfl rfl (ltb rfl) <| L_nil <| stepEnd rfl rfl (Ext.refl w626) ⟨fun h => absurd (b631.symm.trans h) (by decide), fun _ => rfl⟩
    · intro s642 w643 e644 hf645 hd646 hu647
      rcases bool_two (impl_faultAt.e2 a0 a1) with b648 | b648
      · have g649 : (impl_faultAt.e2 a0 a1) = true := b648
        have d650 : s642 75 = (.bool (impl_faultAt.e2 a0 a1)) := (hd646 53 rfl)
        have d651 : s642 75 = (.bool (impl_faultAt.e2 a0 a1)) := (hd646 53 rfl)
        obtain ⟨p652, h653, h654⟩ := ((hd646 57 rfl).1 b648)
        exact L_op (.guard 53 true 75 rfl rfl (ltb rfl) (d650.trans (congrArg Value.bool g649))) rfl (ltb rfl) (X_fieldAddr Tryz.underlying78 rfl Tryz.sizeOf3 rfl h653) <| L_nil <| stepEnd rfl rfl (Ext.refl w643) ⟨fun _ => ⟨_, rfl, h654⟩, fun h => absurd (b648.symm.trans h) (by decide)⟩
      · have d655 : s642 75 = (.bool (impl_faultAt.e2 a0 a1)) := (hd646 53 rfl)
        have g656 : (impl_faultAt.e2 a0 a1) = false := b648
        exact L_skip rfl rfl (ltb rfl) (d655.trans (congrArg Value.bool g656)) rfl rfl (ltb rfl) <| L_nil <| stepEnd rfl rfl (Ext.refl w643) ⟨fun h => absurd (b648.symm.trans h) (by decide), fun _ => rfl⟩
    · intro s657 w658 e659 hf660 hd661 hu662
      rcases bool_two (impl_faultAt.e2 a0 a1) with b663 | b663
      · have g664 : (impl_faultAt.e2 a0 a1) = true := b663
        have d665 : s657 75 = (.bool (impl_faultAt.e2 a0 a1)) := (hd661 53 rfl)
        have d666 : s657 75 = (.bool (impl_faultAt.e2 a0 a1)) := (hd661 53 rfl)
        obtain ⟨p667, h668, h669⟩ := ((hd661 58 rfl).1 b663)
        exact L_op (.guard 53 true 75 rfl rfl (ltb rfl) (d665.trans (congrArg Value.bool g664))) rfl (ltb rfl) (X_loadF Tryz.isAgg3 (j := 0) h669 h668 rfl) <| L_nil <| stepEnd rfl rfl (Ext.refl w658) ⟨fun _ => rfl, fun h => absurd (b663.symm.trans h) (by decide)⟩
      · have d670 : s657 75 = (.bool (impl_faultAt.e2 a0 a1)) := (hd661 53 rfl)
        have g671 : (impl_faultAt.e2 a0 a1) = false := b663
        exact L_skip rfl rfl (ltb rfl) (d670.trans (congrArg Value.bool g671)) rfl rfl (ltb rfl) <| L_nil <| stepEnd rfl rfl (Ext.refl w658) ⟨fun h => absurd (b663.symm.trans h) (by decide), fun _ => rfl⟩
    · intro s672 w673 e674 hf675 hd676 hu677
      rcases bool_two (impl_faultAt.e2 a0 a1) with b678 | b678
      · have g679 : (impl_faultAt.e2 a0 a1) = true := b678
        have d680 : s672 75 = (.bool (impl_faultAt.e2 a0 a1)) := (hd676 53 rfl)
        have d681 : s672 75 = (.bool (impl_faultAt.e2 a0 a1)) := (hd676 53 rfl)
        have d682 : s672 81 = (.int .i64 ((gt a0 (if (x6_19 < 0 : Prop) then 0 else x6_19)).kind)) := ((hd676 59 rfl).1 b678)
        exact L_op (.guard 53 true 75 rfl rfl (ltb rfl) (d680.trans (congrArg Value.bool g679))) rfl (ltb rfl) (X_neq d682 rfl) <| L_nil <| stepEnd rfl rfl (Ext.refl w673) ⟨fun _ => rfl, fun h => absurd (b678.symm.trans h) (by decide)⟩
      · have d683 : s672 75 = (.bool (impl_faultAt.e2 a0 a1)) := (hd676 53 rfl)
        have g684 : (impl_faultAt.e2 a0 a1) = false := b678
        exact L_skip rfl rfl (ltb rfl) (d683.trans (congrArg Value.bool g684)) rfl rfl (ltb rfl) <| L_nil <| stepEnd rfl rfl (Ext.refl w673) ⟨fun h => absurd (b678.symm.trans h) (by decide), fun _ => rfl⟩
    · intro s685 w686 e687 hf688 hd689 hu690
      rcases bool_two (impl_faultAt.e2 a0 a1) with b691 | b691
      · have d692 : s685 75 = (.bool (impl_faultAt.e2 a0 a1)) := (hd689 53 rfl)
        have d693 : s685 82 = (.bool (impl_faultAt.e6 a0 x6_19)) := ((hd689 60 rfl).1 b691)
        exact L_op (.plain rfl) rfl (ltb rfl) (X_pick (b := true) (v := (.bool (impl_faultAt.e6 a0 x6_19))) (d692.trans (congrArg Value.bool b691)) d693) <| L_nil <| stepEnd rfl rfl (Ext.refl w686) (and_t b691)
      · have d694 : s685 75 = (.bool (impl_faultAt.e2 a0 a1)) := (hd689 53 rfl)
        exact L_op (.plain rfl) rfl (ltb rfl) (X_pick (b := false) (v := (.bool false)) (d694.trans (congrArg Value.bool b691)) rfl) <| L_nil <| stepEnd rfl rfl (Ext.refl w686) (and_f b691)
    · intro s695 w696 e697 hf698 hd699 hu700
      have d701 : s695 83 = (.bool ((impl_faultAt.e2 a0 a1) && (impl_faultAt.e6 a0 x6_19))) := (hd699 61 rfl)
      exact L_op (.plain rfl) rfl (ltb rfl) (X_mkiface Tryz.underlying4 rfl d701) <| L_nil <| stepEnd rfl rfl (Ext.refl w696) rfl
    · intro s702 w703 e704 hf705 hd706 hu707
      exact L_op (.plain rfl) rfl (ltb rfl) (X_mkiface Tryz.underlying3 rfl rfl) <| L_nil <| stepEnd rfl rfl (Ext.refl w703) rfl
    · intro s708 w709 e710 hf711 hd712 hu713
      have d714 : s708 30 = (.iface 4 (.bool (!(decide (recFault (gt a0 a1) = 0))))) := (hd712 8 rfl)
      have d715 : s708 33 = (.iface 3 (.int .i64 (recFault (gt a0 a1)))) := (hd712 11 rfl)
      have d716 : s708 48 = (.iface 4 (.bool ((decide (0 < a1)) && (impl_faultAt.e7 a0 a1)))) := (hd712 26 rfl)
      have d717 : s708 49 = (.iface 3 (.int .i64 18)) := (hd712 27 rfl)
      have d718 : s708 65 = (.iface 4 (.bool ((decide (0 < a1)) && (!(impl_faultAt.e5 a0 a1))))) := (hd712 43 rfl)
      have d719 : s708 66 = (.iface 3 (.int .i64 11)) := (hd712 44 rfl)
      have d720 : s708 69 = (.iface 4 (.bool (decide (x6_19 < 0)))) := (hd712 47 rfl)
      have d721 : s708 70 = (.iface 3 (.int .i64 12)) := (hd712 48 rfl)
      have d722 : s708 84 = (.iface 4 (.bool ((impl_faultAt.e2 a0 a1) && (impl_faultAt.e6 a0 x6_19)))) := (hd712 62 rfl)
      have d723 : s708 85 = (.iface 3 (.int .i64 13)) := (hd712 63 rfl)
      exact L_lit (.plain rfl) rfl (ltb rfl) rfl Tryz.underlying119 Tryz.sizeOf20 Tryz.zeroValue20 rfl rfl rfl (vs := [(.iface 4 (.bool (!(decide (recFault (gt a0 a1) = 0))))), (.iface 3 (.int .i64 (recFault (gt a0 a1)))), (.iface 4 (.bool ((decide (0 < a1)) && (impl_faultAt.e7 a0 a1)))), (.iface 3 (.int .i64 18)), (.iface 4 (.bool ((decide (0 < a1)) && (!(impl_faultAt.e5 a0 a1))))), (.iface 3 (.int .i64 11)), (.iface 4 (.bool (decide (x6_19 < 0)))), (.iface 3 (.int .i64 12)), (.iface 4 (.bool ((impl_faultAt.e2 a0 a1) && (impl_faultAt.e6 a0 x6_19)))), (.iface 3 (.int .i64 13))]) (cons2 d714 (cons2 d715 (cons2 d716 (cons2 d717 (cons2 d718 (cons2 d719 (cons2 d720 (cons2 d721 (cons2 d722 (cons2 d723 rfl)))))))))) (lit_all rfl) <| fun b724 w725 z726 z727 e728 k729 => L_nil <| stepEnd rfl rfl e728 (Ow.rd (Ow.new (xs := [.inl (!(decide (recFault (gt a0 a1) = 0))), .inr (recFault (gt a0 a1)), .inl ((decide (0 < a1)) && (impl_faultAt.e7 a0 a1)), .inr 18, .inl ((decide (0 < a1)) && (!(impl_faultAt.e5 a0 a1))), .inr 11, .inl (decide (x6_19 < 0)), .inr 12, .inl ((impl_faultAt.e2 a0 a1) && (impl_faultAt.e6 a0 x6_19)), .inr 13]) (sz := 1) (enc := (encAny 4 3)) (base := w709.heap.size) k729 (Nat.le_of_eq z726) rfl (fun _ _ => by first | rfl | exact encAny_len _ _ _) (Nat.le_of_ble_eq_true rfl)))
    · intro s730 w731 e732 hf733 hd734 hu735
      have d736 : Rd 1 (encAny 4 3) w731 (s730 86) (impl_faultAt.e1 a0 a1 x6_19) := (hd734 64 rfl)
      have c737 := c57
      exact L_callP (.plain rfl) rfl (ltb rfl) rfl Tryz.call68 (impl_first.calls (w := w731) (a0 := (impl_faultAt.e1 a0 a1 x6_19)) d736 (of_decide_eq_true c737)) rfl <| fun w738 e739 => L_nil <| stepEnd rfl rfl e739 rfl
    · intro s740 w741 e742 hf743 hd744 hu745
      have d746 : s740 87 = (.int .i64 (firstOf (impl_faultAt.e1 a0 a1 x6_19))) := (hd744 65 rfl)
      exact L_op (.plain rfl) rfl (ltb rfl) (X_mkiface Tryz.underlying3 rfl d746) <| L_nil <| stepEnd rfl rfl (Ext.refl w741) rfl
    · intro s747 w748 e749 hf750 hd751 hu752
      have d753 : s747 24 = (.iface 4 (.bool (decide (16 ≤ a1)))) := (hd751 2 rfl)
      have d754 : s747 25 = (.iface 3 (.int .i64 6)) := (hd751 3 rfl)
      have d755 : s747 26 = (.iface 4 (.bool true)) := (hd751 4 rfl)
      have d756 : s747 88 = (.iface 3 (.int .i64 (firstOf (impl_faultAt.e1 a0 a1 x6_19)))) := (hd751 66 rfl)
      exact L_lit (.plain rfl) rfl (ltb rfl) rfl Tryz.underlying119 Tryz.sizeOf20 Tryz.zeroValue20 rfl rfl rfl (vs := [(.iface 4 (.bool (decide (16 ≤ a1)))), (.iface 3 (.int .i64 6)), (.iface 4 (.bool true)), (.iface 3 (.int .i64 (firstOf (impl_faultAt.e1 a0 a1 x6_19))))]) (cons2 d753 (cons2 d754 (cons2 d755 (cons2 d756 rfl)))) (lit_all rfl) <| fun b757 w758 z759 z760 e761 k762 => L_nil <| stepEnd rfl rfl e761 (Ow.rd (Ow.new (xs := [.inl (decide (16 ≤ a1)), .inr 6, .inl true, .inr (firstOf (impl_faultAt.e1 a0 a1 x6_19))]) (sz := 1) (enc := (encAny 4 3)) (base := w748.heap.size) k762 (Nat.le_of_eq z759) rfl (fun _ _ => by first | rfl | exact encAny_len _ _ _) (Nat.le_of_ble_eq_true rfl)))
    · intro s763 w764 e765 hf766 hd767 hu768
      have d769 : Rd 1 (encAny 4 3) w764 (s763 89) (impl_faultAt.e4 a0 a1 x6_19) := (hd767 67 rfl)
      have c770 := c66
      exact L_callP (.plain rfl) rfl (ltb rfl) rfl Tryz.call68 (impl_first.calls (w := w764) (a0 := (impl_faultAt.e4 a0 a1 x6_19)) d769 (of_decide_eq_true c770)) rfl <| fun w771 e772 => L_nil <| stepEnd rfl rfl e772 rfl
    · intro s773 w774 e775 hf776 hd777 hu778
      have d779 : s773 90 = (.int .i64 (firstOf (impl_faultAt.e4 a0 a1 x6_19))) := (hd777 68 rfl)
      exact L_op (.plain rfl) rfl (ltb rfl) (X_assign d779) <| L_nil <| stepEnd rfl rfl (Ext.refl w774) rfl
    intro s780 w781 e782 hf783 ha784
    have K785 := Kp.ofD (kp := [(4, 5), (22, 91)]) rfl hf783
    have d786 : s780 4 = (.int .i64 (firstOf (impl_faultAt.e4 a0 a1 x6_19))) := ha784 69 rfl
    clear ha784 hf783
    refine thn_n <| W_ret <| fin_r ?_
    obtain rfl := Option.some.inj H
    exact fin1 d786 (Ext.trans (Ext.trans (Ext.trans (Below.trans e8 (Wr.below h11 (Nat.le_of_eq z6))) e15) e30) e782)
theorem impl_faultAt.calls {w : World} {a0 : List Rec} {a1 : Int} (gv : GV 0 w) {v_a0 : Value} (f_a0 : Rd 5 encRec w v_a0 a0) (h0 : a0.length ≤ 1048576) (h1 : ∀ x ∈ a0, x.path.length ≤ 1048576) (h2 : inR a1 a0.length = true) :
    Calls Tryz.prog 199 #[v_a0, .int .i64 a1] w (Rt (RP w (.int .i64 (faultAt a0 a1)))) := impl_faultAt.walk gv f_a0 (impl_faultAt.eq a0 a1 h0 h1 h2)
/-! impl.fault -/
theorem impl_fault.walk {k : Nat} {w : World} {a0 : List Rec} (gv : GV 0 w) {v_a0 : Value} (f_a0 : Rd 5 encRec w v_a0 a0) {r : Int × Int} (H : impl_fault.sh k a0 = some r) :
    Calls Tryz.prog 165 #[v_a0] w (Rt (RP w (.tuple #[.int .i64 r.1, .int .i64 r.2]))) := by
  unfold impl_fault.sh at H
  refine calls_of_W Tryz.func165 rfl (Nat.le_of_ble_eq_true rfl) Tryz.ntmps165 rfl ?_
  refine W_seq <| W_reg <| L_op (.plain rfl) rfl (ltb rfl) (X_assign (v := (.int .i64 0)) rfl) <| L_op (.plain rfl) rfl (ltb rfl) (X_assign (v := (.int .i64 0)) rfl) <| L_nil <| thn_n <| W_seq <| W_seq <| W_reg <| L_op (.plain rfl) rfl (ltb rfl) (X_move (v := v_a0) rfl) <| L_op (.plain rfl) rfl (ltb rfl) (X_lenR Tryz.underlying28 rfl f_a0) <| L_op (.plain rfl) rfl (ltb rfl) (X_move (v := (.int .i64 0)) rfl) <| L_nil <| thn_n ?_
  obtain ⟨z2, L3, C4⟩ := bind_some H
  clear H
  refine  W_cutQ (fun s0 sQ wQ => Kp [(2, 6), (8, 19)] s0 sQ ∧ Ext w wQ ∧ z2 = .inr ()) ?_ ?_
  · refine W_block <| W_loopI (fun s0 kk sQ wQ => ∃ (x8_1 : Int), Kp [(2, 6), (8, 19)] s0 sQ ∧ sQ 8 = .int .i64 x8_1 ∧ Ext w wQ ∧ loopF (impl_fault.b1 a0) kk x8_1 = some z2) k ⟨0, (Kp.refl _ _), rfl, (Ext.refl w), L3⟩ ?_
    rintro k9 s10 w11 ⟨x8_1, K12, h15, e13, L14⟩
    cases k9 with
    | zero => exact absurd L14 (by simp [loopF])
    | succ k9 =>
      obtain ⟨t16, H, S17⟩ := loopF_succ L14
      clear L14
      unfold impl_fault.b1 at H
      refine W_seq <| W_reg <| L_op (.plain rfl) rfl (ltb rfl) (X_lss h15 (K12 7 rfl)) <| L_nil <| thn_n <| W_seq ?_
      rcases bif_two H with ⟨q18, H⟩ | ⟨q18, H⟩
      · refine W_true (congrArg Value.bool q18) <| W_skip <| thn_n <| W_seq <| W_block <| W_seq <| W_reg <| L_op (.plain rfl) rfl (ltb rfl) (X_move (v := (.int .i64 x8_1)) h15) <| L_op (.plain rfl) rfl (ltb rfl) (X_assign (v := (.int .i64 x8_1)) rfl) <| L_nil <| thn_n <| W_seq <| W_reg <| L_op (.plain rfl) rfl (ltb rfl) (X_move (v := v_a0) (K12 0 rfl)) <| L_op (.plain rfl) rfl (ltb rfl) (X_move (v := (.int .i64 x8_1)) rfl) ?_
        obtain ⟨c19, H⟩ := bif_some H
        obtain ⟨c20, H⟩ := bif_some H
        obtain ⟨c21, H⟩ := bif_some H
        refine L_callP (.plain rfl) rfl (ltb rfl) rfl Tryz.call199 (impl_faultAt.calls (w := w11) (a0 := a0) (a1 := x8_1) (GV.ext gv e13) (Rd.ext f_a0 e13) (of_decide_eq_true c19) (of_decide_eq_true c20) (of_decide_eq_true c21)) rfl <| fun w22 e23 => L_op (.plain rfl) rfl (ltb rfl) (X_assign (v := (.int .i64 (faultAt a0 x8_1))) rfl) <| L_nil <| thn_n <| W_seq <| W_reg <| L_op (.plain rfl) rfl (ltb rfl) (X_move (v := (.int .i64 (faultAt a0 x8_1))) rfl) <| L_op (.plain rfl) rfl (ltb rfl) (X_neq rfl rfl) <| L_nil <| thn_n ?_
        rcases bif_two H with ⟨q24, H⟩ | ⟨q24, H⟩
        · refine W_true (congrArg Value.bool q24) <| W_seq <| W_reg <| L_op (.plain rfl) rfl (ltb rfl) (X_move (v := (.int .i64 x8_1)) rfl) <| L_op (.plain rfl) rfl (ltb rfl) (X_move (v := (.int .i64 (faultAt a0 x8_1))) rfl) <| L_op (.plain rfl) rfl (ltb rfl) (X_assign (v := (.int .i64 x8_1)) rfl) <| L_op (.plain rfl) rfl (ltb rfl) (X_assign (v := (.int .i64 (faultAt a0 x8_1))) rfl) <| L_nil <| thn_n <| W_ret <| blk_r <| thn_r <| thn_r <| blk_r <| thn_r <| thn_r <| fin_r ?_
          obtain rfl := Option.some.inj H
          obtain rfl := Option.some.inj S17
          have H := C4
          obtain rfl := Option.some.inj H
          exact fin2 rfl rfl (Ext.trans e13 e23)
        · refine W_false (congrArg Value.bool q24) <| W_skip <| blk_n <| thn_n <| W_reg <| L_op (.plain rfl) rfl (ltb rfl) (X_add h15 rfl) <| L_op (.plain rfl) rfl (ltb rfl) (X_move (v := (.int .i64 (IntKind.wrap .i64 (x8_1 + 1)))) rfl) <| L_nil <| thn_n ?_
          obtain rfl := Option.some.inj H
          exact ⟨_, Nat.lt_succ_self _, IntKind.wrap .i64 (x8_1 + 1), (Kp.upd (Kp.upd (Kp.upd (Kp.upd (Kp.upd (Kp.upd (Kp.upd (Kp.upd (Kp.upd (Kp.upd (Kp.upd K12 rfl) rfl) rfl) rfl) rfl) rfl) rfl) rfl) rfl) rfl) rfl), rfl, (Ext.trans e13 e23), S17⟩
      · refine W_false (congrArg Value.bool q18) <| W_exit <| thn_x <| thn_x <| blk_x <| thn_n ?_
        obtain rfl := Option.some.inj H
        obtain rfl := Option.some.inj S17
        exact ⟨(Kp.upd K12 rfl), e13, rfl⟩
  · rintro s6 w5 ⟨K7, e8, y25⟩
    rw [y25] at C4
    have H := C4
    replace H : _ = some _ := H
    refine thn_n <| W_seq <| W_reg <| L_op (.plain rfl) rfl (ltb rfl) (X_assign (v := (.int .i64 0)) rfl) <| L_op (.plain rfl) rfl (ltb rfl) (X_assign (v := (.int .i64 0)) rfl) <| L_nil <| thn_n <| W_ret <| fin_r ?_
    obtain rfl := Option.some.inj H
    exact fin2 rfl rfl e8
theorem impl_fault.calls {w : World} {a0 : List Rec} (gv : GV 0 w) {v_a0 : Value} (f_a0 : Rd 5 encRec w v_a0 a0) (h0 : a0.length ≤ 1048576) (h1 : ∀ x ∈ a0, x.path.length ≤ 1048576) :
    Calls Tryz.prog 165 #[v_a0] w (Rt (RP w (.tuple #[.int .i64 ((layerFault a0).1), .int .i64 ((layerFault a0).2)]))) := by
  obtain ⟨k, h⟩ := impl_fault.eq a0 h0 h1
  exact impl_fault.walk gv f_a0 h
/-! impl.LayerFault -/
theorem impl_LayerFault.walk {w : World} {a0 : List Rec} (gv : GV 0 w) {v_a0 : Value} (f_a0 : Rd 5 encRec w v_a0 a0) {r : Int × Int} (H : impl_LayerFault.sh a0 = some r) :
    Calls Tryz.prog 116 #[v_a0] w (Rt (RP w (.tuple #[.int .i64 r.1, .int .i64 r.2]))) := by
  unfold impl_LayerFault.sh at H
  refine calls_of_W Tryz.func116 rfl (Nat.le_of_ble_eq_true rfl) Tryz.ntmps116 rfl ?_
  refine W_seq <| W_reg <| L_op (.plain rfl) rfl (ltb rfl) (X_assign (v := (.int .i64 0)) rfl) <| L_op (.plain rfl) rfl (ltb rfl) (X_assign (v := (.int .i64 0)) rfl) <| L_nil <| thn_n <| W_seq <| W_seq <| W_reg <| L_op (.plain rfl) rfl (ltb rfl) (X_move (v := v_a0) rfl) <| L_callP (.plain rfl) rfl (ltb rfl) rfl Tryz.call69 (impl_isLongListR.calls (w := w) (a0 := a0) f_a0) rfl <| fun w1 e2 => L_nil <| thn_n ?_
  rcases bif_two H with ⟨q3, H⟩ | ⟨q3, H⟩
  · refine W_true (congrArg Value.bool q3) <| W_seq <| W_reg <| L_op (.plain rfl) rfl (ltb rfl) (X_assign (v := (.int .i64 0)) rfl) <| L_op (.plain rfl) rfl (ltb rfl) (X_assign (v := (.int .i64 2)) rfl) <| L_nil <| thn_n <| W_ret <| thn_r <| fin_r ?_
    obtain rfl := Option.some.inj H
    exact fin2 rfl rfl e2
  · refine W_false (congrArg Value.bool q3) <| W_skip <| thn_n <| W_seq <| W_reg <| L_op (.plain rfl) rfl (ltb rfl) (X_move (v := v_a0) rfl) ?_
    obtain ⟨c4, H⟩ := bif_some H
    obtain ⟨c5, H⟩ := bif_some H
    refine L_callP (.plain rfl) rfl (ltb rfl) rfl Tryz.call165 (impl_fault.calls (w := w1) (a0 := a0) (GV.ext gv e2) (Rd.ext f_a0 e2) (of_decide_eq_true c4) (of_decide_eq_true c5)) rfl <| fun w6 e7 => L_op (.plain rfl) rfl (ltb rfl) (X_extract (v := (.int .i64 ((layerFault a0).1))) rfl rfl) <| L_op (.plain rfl) rfl (ltb rfl) (X_extract (v := (.int .i64 ((layerFault a0).2))) rfl rfl) <| L_op (.plain rfl) rfl (ltb rfl) (X_assign (v := (.int .i64 ((layerFault a0).1))) rfl) <| L_op (.plain rfl) rfl (ltb rfl) (X_assign (v := (.int .i64 ((layerFault a0).2))) rfl) <| L_nil <| thn_n <| W_ret <| fin_r ?_
    obtain rfl := Option.some.inj H
    exact fin2 rfl rfl (Ext.trans e2 e7)
theorem impl_LayerFault.calls {w : World} {a0 : List Rec} (gv : GV 0 w) {v_a0 : Value} (f_a0 : Rd 5 encRec w v_a0 a0) (h0 : a0.length ≤ 1048576) (h1 : ∀ x ∈ a0, x.path.length ≤ 1048576) :
    Calls Tryz.prog 116 #[v_a0] w (Rt (RP w (.tuple #[.int .i64 ((layerFaultL a0).1), .int .i64 ((layerFaultL a0).2)]))) := impl_LayerFault.walk gv f_a0 (impl_LayerFault.eq a0 h0 h1)
/-! laws.eqRecordS -/
theorem laws_eqRecordS.walk {k : Nat} {w : World} {a0 : List Rec} {a1 : List Rec} {v_a0 : Value} (f_a0 : Rd 5 encRec w v_a0 a0) {v_a1 : Value} (f_a1 : Rd 5 encRec w v_a1 a1) {r : Bool} (H : laws_eqRecordS.sh k a0 a1 = some r) :
    Calls Tryz.prog 21 #[v_a0, v_a1] w (Rt (RP w (.bool r))) := by
  unfold laws_eqRecordS.sh at H
  refine calls_of_W Tryz.func21 rfl (Nat.le_of_ble_eq_true rfl) Tryz.ntmps21 rfl ?_
  refine W_seq <| W_reg <| L_op (.plain rfl) rfl (ltb rfl) (X_assign (v := (.bool false)) rfl) <| L_nil <| thn_n <| W_seq <| W_seq <| W_reg <| L_op (.plain rfl) rfl (ltb rfl) (X_move (v := v_a0) rfl) <| L_op (.plain rfl) rfl (ltb rfl) (X_lenR Tryz.underlying28 rfl f_a0) <| L_op (.plain rfl) rfl (ltb rfl) (X_move (v := v_a1) rfl) <| L_op (.plain rfl) rfl (ltb rfl) (X_lenR Tryz.underlying28 rfl f_a1) <| L_op (.plain rfl) rfl (ltb rfl) (X_neq rfl rfl) <| L_nil <| thn_n ?_
  rcases bif_two H with ⟨q1, H⟩ | ⟨q1, H⟩
  · refine W_true (congrArg Value.bool q1) <| W_seq <| W_reg <| L_op (.plain rfl) rfl (ltb rfl) (X_assign (v := (.bool false)) rfl) <| L_nil <| thn_n <| W_ret <| thn_r <| fin_r ?_
    obtain rfl := Option.some.inj H
    exact fin1 rfl (Ext.refl w)
  · refine W_false (congrArg Value.bool q1) <| W_skip <| thn_n <| W_seq <| W_seq <| W_reg <| L_op (.plain rfl) rfl (ltb rfl) (X_assign (v := (.int .i64 0)) rfl) <| L_nil <| thn_n ?_
    obtain ⟨z3, L4, C5⟩ := bind_some H
    clear H
    refine  W_cutQ (fun s0 sQ wQ => Kp [(4, 6), (11, 27)] s0 sQ ∧ Ext w wQ ∧ z3 = .inr ()) ?_ ?_
    · refine W_block <| W_loopI (fun s0 kk sQ wQ => ∃ (x5_2 : Int), Kp [(4, 6), (11, 27)] s0 sQ ∧ sQ 5 = .int .i64 x5_2 ∧ Ext w wQ ∧ loopF (laws_eqRecordS.b1 a0 a1) kk x5_2 = some z3) k ⟨0, (Kp.refl _ _), rfl, (Ext.refl w), L4⟩ ?_
      rintro k10 s11 w12 ⟨x5_2, K13, h16, e14, L15⟩
      cases k10 with
      | zero => exact absurd L15 (by simp [loopF])
      | succ k10 =>
        obtain ⟨t17, H, S18⟩ := loopF_succ L15
        clear L15
        unfold laws_eqRecordS.b1 at H
        refine W_seq <| W_seq <| W_reg <| L_op (.plain rfl) rfl (ltb rfl) (X_move (v := (.int .i64 x5_2)) h16) <| L_op (.plain rfl) rfl (ltb rfl) (X_move (v := v_a0) (K13 0 rfl)) <| L_op (.plain rfl) rfl (ltb rfl) (X_lenR Tryz.underlying28 rfl (Rd.ext f_a0 e14)) <| L_op (.plain rfl) rfl (ltb rfl) (X_lss rfl rfl) <| L_nil <| thn_n ?_
        rcases bif_two H with ⟨q19, H⟩ | ⟨q19, H⟩
        · refine W_true (congrArg Value.bool q19) <| W_skip <| thn_n <| W_seq <| W_block <| W_seq ?_
          obtain ⟨c20, H⟩ := bif_some H
          obtain ⟨c23, H⟩ := bif_some H
          refine W_drawM [LEq v_a0, LEq (.int .i64 x5_2), LAt0 (encRec (gt a0 x5_2)), LEq (.agg (encRec (gt a0 x5_2)).toArray), LEq v_a1, LEq (.int .i64 x5_2), LAt0 (encRec (gt a1 x5_2)), LEq (.agg (encRec (gt a1 x5_2)).toArray), LEq (.bool (decide ((gt a0 x5_2) = (gt a1 x5_2)))), LEq (.bool (!(decide ((gt a0 x5_2) = (gt a1 x5_2)))))] (by kernel_rfl) (by kernel_rfl) ⟨LEq.mono, LEq.mono, LAt0.mono, LEq.mono, LEq.mono, LEq.mono, LAt0.mono, LEq.mono, LEq.mono, LEq.mono, trivial⟩ ⟨?_, ?_, ?_, ?_, ?_, ?_, ?_, ?_, ?_, ?_, trivial⟩ ?_
          · intro s28 w29 e30 hf31 hd32 hu33
            exact L_op (.plain rfl) rfl (ltb rfl) (X_move (v := v_a0) ((hf31 0 rfl).trans (K13 0 rfl))) <| L_nil <| stepEnd rfl rfl (Ext.refl w29) rfl
          · intro s34 w35 e36 hf37 hd38 hu39
            exact L_op (.plain rfl) rfl (ltb rfl) (X_move (v := (.int .i64 x5_2)) ((hf37 5 rfl).trans h16)) <| L_nil <| stepEnd rfl rfl (Ext.refl w35) rfl
          · intro s40 w41 e42 hf43 hd44 hu45
            have d46 : s40 17 = v_a0 := (hd44 0 rfl)
            have d47 : s40 18 = (.int .i64 x5_2) := (hd44 1 rfl)
            have c48 := c20
            exact L_idx (.plain rfl) rfl (ltb rfl) rfl Tryz.underlying28 Tryz.sizeOf78 d46 (Rd.ext f_a0 (Ext.trans e14 e42)) d47 c48 <| fun p49 h50 => L_nil <| stepEnd rfl rfl (Ext.refl w41) ⟨_, rfl, h50⟩
          · intro s51 w52 e53 hf54 hd55 hu56
            obtain ⟨p57, h58, h59⟩ := (hd55 2 rfl)
            exact L_op (.plain rfl) rfl (ltb rfl) (X_loadS Tryz.isAgg78 Tryz.sizeOf78 rfl h58 h59) <| L_nil <| stepEnd rfl rfl (Ext.refl w52) rfl
          · intro s60 w61 e62 hf63 hd64 hu65
            exact L_op (.plain rfl) rfl (ltb rfl) (X_move (v := v_a1) ((hf63 1 rfl).trans (K13 1 rfl))) <| L_nil <| stepEnd rfl rfl (Ext.refl w61) rfl
          · intro s66 w67 e68 hf69 hd70 hu71
            exact L_op (.plain rfl) rfl (ltb rfl) (X_move (v := (.int .i64 x5_2)) ((hf69 5 rfl).trans h16)) <| L_nil <| stepEnd rfl rfl (Ext.refl w67) rfl
          · intro s72 w73 e74 hf75 hd76 hu77
            have d78 : s72 21 = v_a1 := (hd76 4 rfl)
            have d79 : s72 22 = (.int .i64 x5_2) := (hd76 5 rfl)
            have c80 := c23
            exact L_idx (.plain rfl) rfl (ltb rfl) rfl Tryz.underlying28 Tryz.sizeOf78 d78 (Rd.ext f_a1 (Ext.trans e14 e74)) d79 c80 <| fun p81 h82 => L_nil <| stepEnd rfl rfl (Ext.refl w73) ⟨_, rfl, h82⟩
          · intro s83 w84 e85 hf86 hd87 hu88
            obtain ⟨p89, h90, h91⟩ := (hd87 6 rfl)
            exact L_op (.plain rfl) rfl (ltb rfl) (X_loadS Tryz.isAgg78 Tryz.sizeOf78 rfl h90 h91) <| L_nil <| stepEnd rfl rfl (Ext.refl w84) rfl
          · intro s92 w93 e94 hf95 hd96 hu97
            have d98 : s92 20 = (.agg (encRec (gt a0 x5_2)).toArray) := (hd96 3 rfl)
            have d99 : s92 24 = (.agg (encRec (gt a1 x5_2)).toArray) := (hd96 7 rfl)
            exact L_callP (.plain rfl) rfl (ltb rfl) rfl Tryz.call75 (laws_eqRecord.calls (w := w93) (a0 := gt a0 x5_2) (a1 := gt a1 x5_2)) (cons2 d98 (cons2 d99 rfl)) <| fun w100 e101 => L_nil <| stepEnd rfl rfl e101 rfl
          · intro s102 w103 e104 hf105 hd106 hu107
            have d108 : s102 25 = (.bool (decide ((gt a0 x5_2) = (gt a1 x5_2)))) := (hd106 8 rfl)
            exact L_op (.plain rfl) rfl (ltb rfl) (X_not d108) <| L_nil <| stepEnd rfl rfl (Ext.refl w103) rfl
          intro s109 w110 e111 hf112 ha113
          have K114 := Kp.ofD (kp := [(17, 27)]) rfl hf112
          have d115 : s109 26 = (.bool (!(decide ((gt a0 x5_2) = (gt a1 x5_2))))) := ha113 9 rfl
          clear ha113 hf112
          refine thn_n ?_
          rcases bif_two H with ⟨q116, H⟩ | ⟨q116, H⟩
          · refine W_true (d115.trans (congrArg Value.bool q116)) <| W_seq <| W_reg <| L_op (.plain rfl) rfl (ltb rfl) (X_assign (v := (.bool false)) rfl) <| L_nil <| thn_n <| W_ret <| blk_r <| thn_r <| thn_r <| blk_r <| thn_r <| thn_r <| fin_r ?_
            obtain rfl := Option.some.inj H
            obtain rfl := Option.some.inj S18
            have H := C5
            obtain rfl := Option.some.inj H
            exact fin1 rfl (Ext.trans e14 e111)
          · refine W_false (d115.trans (congrArg Value.bool q116)) <| W_skip <| blk_n <| thn_n <| W_reg <| L_op (.plain rfl) rfl (ltb rfl) (X_move (v := (.int .i64 x5_2)) ((K114 5 rfl).trans h16)) <| L_op (.plain rfl) rfl (ltb rfl) (X_add rfl rfl) <| L_op (.plain rfl) rfl (ltb rfl) (X_assign (v := (.int .i64 (IntKind.wrap .i64 (x5_2 + 1)))) rfl) <| L_nil <| thn_n ?_
            obtain rfl := Option.some.inj H
            exact ⟨_, Nat.lt_succ_self _, IntKind.wrap .i64 (x5_2 + 1), (Kp.upd (Kp.upd (Kp.upd (Kp.cut (Kp.upd (Kp.upd (Kp.upd (Kp.upd K13 rfl) rfl) rfl) rfl) K114 rfl) rfl) rfl) rfl), rfl, (Ext.trans e14 e111), S18⟩
        · refine W_false (congrArg Value.bool q19) <| W_exit <| thn_x <| thn_x <| blk_x <| thn_n ?_
          obtain rfl := Option.some.inj H
          obtain rfl := Option.some.inj S18
          exact ⟨(Kp.upd (Kp.upd (Kp.upd (Kp.upd K13 rfl) rfl) rfl) rfl), e14, rfl⟩
    · rintro s7 w6 ⟨K8, e9, y117⟩
      rw [y117] at C5
      have H := C5
      replace H : _ = some _ := H
      refine thn_n <| W_seq <| W_reg <| L_op (.plain rfl) rfl (ltb rfl) (X_assign (v := (.bool true)) rfl) <| L_nil <| thn_n <| W_ret <| fin_r ?_
      obtain rfl := Option.some.inj H
      exact fin1 rfl e9
theorem laws_eqRecordS.calls {w : World} {a0 : List Rec} {a1 : List Rec} {v_a0 : Value} (f_a0 : Rd 5 encRec w v_a0 a0) {v_a1 : Value} (f_a1 : Rd 5 encRec w v_a1 a1) (h0 : a0.length ≤ 4611686018427387904) :
    Calls Tryz.prog 21 #[v_a0, v_a1] w (Rt (RP w (.bool (decide (a0 = a1))))) := by
  obtain ⟨k, h⟩ := laws_eqRecordS.eq a0 a1 h0
  exact laws_eqRecordS.walk f_a0 f_a1 h
/-! spec.l03OK -/
theorem spec_l03OK.walk {w : World} {a0 : List Rec} {v_a0 : Value} (f_a0 : Rd 5 encRec w v_a0 a0) {r : Bool} (H : spec_l03OK.sh a0 = some r) :
    Calls Tryz.prog 62 #[v_a0] w (Rt (RP w (.bool r))) := by
  unfold spec_l03OK.sh at H
  refine calls_of_W Tryz.func62 rfl (Nat.le_of_ble_eq_true rfl) Tryz.ntmps62 rfl ?_
  refine W_seq <| W_reg <| L_op (.plain rfl) rfl (ltb rfl) (X_assign (v := (.bool false)) rfl) <| L_nil <| thn_n <| W_seq <| W_reg <| L_op (.plain rfl) rfl (ltb rfl) (X_move (v := v_a0) rfl) ?_
  obtain ⟨c1, H⟩ := bif_some H
  obtain ⟨c2, H⟩ := bif_some H
  refine L_callP (.plain rfl) rfl (ltb rfl) rfl Tryz.call109 (spec_l03Fault.calls (w := w) (a0 := a0) f_a0 (of_decide_eq_true c1) (of_decide_eq_true c2)) rfl <| fun w3 e4 => L_op (.plain rfl) rfl (ltb rfl) (X_move rfl) <| L_op (.plain rfl) rfl (ltb rfl) (X_extract (v := (.int .i64 ((layerFault a0).1))) rfl rfl) <| L_op (.plain rfl) rfl (ltb rfl) (X_extract (v := (.int .i64 ((layerFault a0).2))) rfl rfl) <| L_op (.plain rfl) rfl (ltb rfl) (X_assign (v := (.int .i64 ((layerFault a0).1))) rfl) <| L_op (.plain rfl) rfl (ltb rfl) (X_assign (v := (.int .i64 ((layerFault a0).2))) rfl) <| L_nil <| thn_n <| W_seq <| W_reg <| L_op (.plain rfl) rfl (ltb rfl) (X_move (v := (.int .i64 ((layerFault a0).2))) rfl) <| L_op (.plain rfl) rfl (ltb rfl) (X_eql rfl rfl) <| L_op (.plain rfl) rfl (ltb rfl) (X_assign (v := (.bool (decide (((layerFault a0).2) = 0)))) rfl) <| L_nil <| thn_n <| W_ret <| fin_r ?_
  obtain rfl := Option.some.inj H
  exact fin1 rfl e4
theorem spec_l03OK.calls {w : World} {a0 : List Rec} {v_a0 : Value} (f_a0 : Rd 5 encRec w v_a0 a0) (h0 : a0.length ≤ 1048576) (h1 : ∀ x ∈ a0, x.path.length ≤ 1048576) :
    Calls Tryz.prog 62 #[v_a0] w (Rt (RP w (.bool (decide ((layerFault a0).2 = 0))))) := spec_l03OK.walk f_a0 (spec_l03OK.eq a0 h0 h1)
/-! impl.LayerOK -/
theorem impl_LayerOK.walk {w : World} {a0 : List Rec} (gv : GV 0 w) {v_a0 : Value} (f_a0 : Rd 5 encRec w v_a0 a0) {r : Bool} (H : impl_LayerOK.sh a0 = some r) :
    Calls Tryz.prog 71 #[v_a0] w (Rt (RP w (.bool r))) := by
  unfold impl_LayerOK.sh at H
  refine calls_of_W Tryz.func71 rfl (Nat.le_of_ble_eq_true rfl) Tryz.ntmps71 rfl ?_
  refine W_seq <| W_reg <| L_op (.plain rfl) rfl (ltb rfl) (X_assign (v := (.bool false)) rfl) <| L_nil <| thn_n <| W_seq <| W_reg <| L_op (.plain rfl) rfl (ltb rfl) (X_move (v := v_a0) rfl) ?_
  obtain ⟨c1, H⟩ := bif_some H
  obtain ⟨c2, H⟩ := bif_some H
  refine L_callP (.plain rfl) rfl (ltb rfl) rfl Tryz.call116 (impl_LayerFault.calls (w := w) (a0 := a0) gv f_a0 (of_decide_eq_true c1) (of_decide_eq_true c2)) rfl <| fun w3 e4 => L_op (.plain rfl) rfl (ltb rfl) (X_move rfl) <| L_op (.plain rfl) rfl (ltb rfl) (X_extract (v := (.int .i64 ((layerFaultL a0).1))) rfl rfl) <| L_op (.plain rfl) rfl (ltb rfl) (X_extract (v := (.int .i64 ((layerFaultL a0).2))) rfl rfl) <| L_op (.plain rfl) rfl (ltb rfl) (X_assign (v := (.int .i64 ((layerFaultL a0).1))) rfl) <| L_op (.plain rfl) rfl (ltb rfl) (X_assign (v := (.int .i64 ((layerFaultL a0).2))) rfl) <| L_nil <| thn_n <| W_seq <| W_reg <| L_op (.plain rfl) rfl (ltb rfl) (X_move (v := (.int .i64 ((layerFaultL a0).2))) rfl) <| L_op (.plain rfl) rfl (ltb rfl) (X_eql rfl rfl) <| L_op (.plain rfl) rfl (ltb rfl) (X_assign (v := (.bool (decide (((layerFaultL a0).2) = 0)))) rfl) <| L_nil <| thn_n <| W_ret <| fin_r ?_
  obtain rfl := Option.some.inj H
  exact fin1 rfl e4
theorem impl_LayerOK.calls {w : World} {a0 : List Rec} (gv : GV 0 w) {v_a0 : Value} (f_a0 : Rd 5 encRec w v_a0 a0) (h0 : a0.length ≤ 1048576) (h1 : ∀ x ∈ a0, x.path.length ≤ 1048576) :
    Calls Tryz.prog 71 #[v_a0] w (Rt (RP w (.bool (decide ((layerFaultL a0).2 = 0))))) := impl_LayerOK.walk gv f_a0 (impl_LayerOK.eq a0 h0 h1)
/-! spec.l03Under -/
theorem spec_l03Under.walk {k : Nat} {w : World} {a0 : List Rec} {a1 : List UInt8} {v_a0 : Value} (f_a0 : Rd 5 encRec w v_a0 a0) {r : Bool} (H : spec_l03Under.sh k a0 a1 = some r) :
    Calls Tryz.prog 183 #[v_a0, S a1] w (Rt (RP w (.bool r))) := by
  unfold spec_l03Under.sh at H
  refine calls_of_W Tryz.func183 rfl (Nat.le_of_ble_eq_true rfl) Tryz.ntmps183 rfl ?_
  refine W_seq <| W_reg <| L_op (.plain rfl) rfl (ltb rfl) (X_assign (v := (.bool false)) rfl) <| L_nil <| thn_n <| W_seq <| W_seq <| W_reg <| L_op (.plain rfl) rfl (ltb rfl) (X_move (v := (S a1)) rfl) ?_
  obtain ⟨c1, H⟩ := bif_some H
  refine L_callP (.plain rfl) rfl (ltb rfl) rfl Tryz.call113 (spec_l01Parent.calls (w := w) (a0 := a1) (of_decide_eq_true c1)) rfl <| fun w2 e3 => L_op (.plain rfl) rfl (ltb rfl) (X_assign (v := (S (parentP a1))) rfl) <| L_nil <| thn_n ?_
  obtain ⟨z5, L6, C7⟩ := bind_some H
  clear H
  refine  W_cutQ (fun s0 sQ wQ => Kp [(4, 7), (9, 25)] s0 sQ ∧ Ext w2 wQ ∧ z5 = .inr ()) ?_ ?_
  · refine W_block <| W_loopI (fun s0 kk sQ wQ => ∃ (x5_4 : List UInt8), Kp [(4, 7), (9, 25)] s0 sQ ∧ sQ 5 = S x5_4 ∧ Ext w2 wQ ∧ loopF (spec_l03Under.b1 a0) kk x5_4 = some z5) k ⟨(parentP a1), (Kp.refl _ _), rfl, (Ext.refl w2), L6⟩ ?_
    rintro k12 s13 w14 ⟨x5_4, K15, h18, e16, L17⟩
    cases k12 with
    | zero => exact absurd L17 (by simp [loopF])
    | succ k12 =>
      obtain ⟨t19, H, S20⟩ := loopF_succ L17
      clear L17
      unfold spec_l03Under.b1 at H
      refine W_seq <| W_seq <| W_reg <| L_op (.plain rfl) rfl (ltb rfl) (X_move (v := (S x5_4)) h18) <| L_op (.plain rfl) rfl (ltb rfl) (X_sne rfl rfl) <| L_nil <| thn_n ?_
      rcases bif_two H with ⟨q21, H⟩ | ⟨q21, H⟩
      · refine W_true (congrArg Value.bool q21) <| W_skip <| thn_n <| W_seq <| W_block <| W_seq <| W_reg <| L_op (.plain rfl) rfl (ltb rfl) (X_move (v := v_a0) (K15 0 rfl)) <| L_op (.plain rfl) rfl (ltb rfl) (X_move (v := (S x5_4)) h18) ?_
        obtain ⟨c22, H⟩ := bif_some H
        refine L_callP (.plain rfl) rfl (ltb rfl) rfl Tryz.call137 (spec_l03At.calls (w := w14) (a0 := a0) (a1 := x5_4) (Rd.ext f_a0 (Ext.trans e3 e16)) (of_decide_eq_true c22)) rfl <| fun w23 e24 => L_op (.plain rfl) rfl (ltb rfl) (X_assign (v := (.int .i64 (findR a0 x5_4))) rfl) <| L_nil <| thn_n <| W_seq <| W_reg <| L_op (.plain rfl) rfl (ltb rfl) (X_move (v := (.int .i64 (findR a0 x5_4))) rfl) <| L_op (.plain rfl) rfl (ltb rfl) (X_geq rfl rfl) <| L_op (.plain rfl) rfl (ltb rfl) (X_move (v := (.bool (decide (0 ≤ (findR a0 x5_4))))) rfl) ?_
        obtain ⟨z26, x27, H⟩ := bind_some H
        refine L_grpE 6 [(19, 25)] 24 (fun q => q = z26) ?_ ?_
        · rcases bif_two x27 with ⟨b24_, H⟩ | ⟨b24_, H⟩
          · refine L_op (.guard 2 true 18 rfl rfl (ltb rfl) (congrArg Value.bool b24_)) rfl (ltb rfl) (X_move (v := v_a0) (K15 0 rfl)) <| L_op (.guard 2 true 18 rfl rfl (ltb rfl) (congrArg Value.bool b24_)) rfl (ltb rfl) (X_move (v := (.int .i64 (findR a0 x5_4))) rfl) ?_
            obtain ⟨c26, H⟩ := bif_some H
            refine L_idx (.guard 2 true 18 rfl rfl (ltb rfl) (congrArg Value.bool b24_)) rfl (ltb rfl) rfl Tryz.underlying28 Tryz.sizeOf78 rfl (Rd.ext f_a0 (Ext.trans (Ext.trans e3 e16) e24)) rfl c26 <| fun p27 h28 => L_op (.guard 2 true 18 rfl rfl (ltb rfl) (congrArg Value.bool b24_)) rfl (ltb rfl) (X_fieldAddr Tryz.underlying78 rfl Tryz.sizeOf4 rfl rfl) <| L_op (.guard 2 true 18 rfl rfl (ltb rfl) (congrArg Value.bool b24_)) rfl (ltb rfl) (X_loadF Tryz.isAgg4 (j := 4) h28 rfl rfl) <| L_op (.plain rfl) rfl (ltb rfl) (X_pick (b := true) (v := (.bool ((gt a0 (findR a0 x5_4)).opq))) (congrArg Value.bool b24_) rfl) ?_
            obtain rfl := Option.some.inj H
            exact L_nil <| thn_n ⟨(Kp.upd (Kp.upd (Kp.upd (Kp.upd (Kp.upd (Kp.upd (Kp.refl _ _) rfl) rfl) rfl) rfl) rfl) rfl), ⟨_, rfl, rfl⟩, (Ext.refl w23)⟩
          · refine L_skip rfl rfl (ltb rfl) (congrArg Value.bool b24_) rfl rfl (ltb rfl) <| L_skip rfl rfl (ltb rfl) (congrArg Value.bool b24_) rfl rfl (ltb rfl) <| L_skip rfl rfl (ltb rfl) (congrArg Value.bool b24_) rfl rfl (ltb rfl) <| L_skip rfl rfl (ltb rfl) (congrArg Value.bool b24_) rfl rfl (ltb rfl) <| L_skip rfl rfl (ltb rfl) (congrArg Value.bool b24_) rfl rfl (ltb rfl) <| L_op (.plain rfl) rfl (ltb rfl) (X_pick (b := false) (v := (.bool false)) (congrArg Value.bool b24_) rfl) ?_
            obtain rfl := Option.some.inj H
            exact L_nil <| thn_n ⟨(Kp.upd (Kp.upd (Kp.upd (Kp.upd (Kp.upd (Kp.upd (Kp.refl _ _) rfl) rfl) rfl) rfl) rfl) rfl), ⟨_, rfl, rfl⟩, (Ext.refl w23)⟩
        intro s32 w28 z33 K29 hq h30 e31
        rw [hq] at h30; clear hq
        refine L_nil <| thn_n ?_
        rcases bif_two H with ⟨q34, H⟩ | ⟨q34, H⟩
        · refine W_true (h30.trans (congrArg Value.bool q34)) <| W_seq <| W_reg <| L_op (.plain rfl) rfl (ltb rfl) (X_assign (v := (.bool true)) rfl) <| L_nil <| thn_n <| W_ret <| blk_r <| thn_r <| thn_r <| blk_r <| thn_r <| thn_r <| fin_r ?_
          obtain rfl := Option.some.inj H
          obtain rfl := Option.some.inj S20
          have H := C7
          obtain rfl := Option.some.inj H
          exact fin1 rfl (Ext.trans (Ext.trans (Ext.trans e3 e16) e24) e31)
        · refine W_false (h30.trans (congrArg Value.bool q34)) <| W_skip <| blk_n <| thn_n <| W_reg <| L_op (.plain rfl) rfl (ltb rfl) (X_move (v := (S x5_4)) ((K29 5 rfl).trans h18)) ?_
          obtain ⟨c35, H⟩ := bif_some H
          refine L_callP (.plain rfl) rfl (ltb rfl) rfl Tryz.call113 (spec_l01Parent.calls (w := w28) (a0 := x5_4) (of_decide_eq_true c35)) rfl <| fun w36 e37 => L_op (.plain rfl) rfl (ltb rfl) (X_assign (v := (S (parentP x5_4))) rfl) <| L_nil <| thn_n ?_
          obtain rfl := Option.some.inj H
          exact ⟨_, Nat.lt_succ_self _, (parentP x5_4), (Kp.upd (Kp.upd (Kp.upd (Kp.cut (Kp.upd (Kp.upd (Kp.upd (Kp.upd (Kp.upd (Kp.upd (Kp.upd (Kp.upd (Kp.upd K15 rfl) rfl) rfl) rfl) rfl) rfl) rfl) rfl) rfl) K29 rfl) rfl) rfl) rfl), rfl, (Ext.trans (Ext.trans (Ext.trans e16 e24) e31) e37), S20⟩
      · refine W_false (congrArg Value.bool q21) <| W_exit <| thn_x <| thn_x <| blk_x <| thn_n ?_
        obtain rfl := Option.some.inj H
        obtain rfl := Option.some.inj S20
        exact ⟨(Kp.upd (Kp.upd K15 rfl) rfl), e16, rfl⟩
  · rintro s9 w8 ⟨K10, e11, y38⟩
    rw [y38] at C7
    have H := C7
    replace H : _ = some _ := H
    refine thn_n <| W_seq <| W_reg <| L_op (.plain rfl) rfl (ltb rfl) (X_assign (v := (.bool false)) rfl) <| L_nil <| thn_n <| W_ret <| fin_r ?_
    obtain rfl := Option.some.inj H
    exact fin1 rfl (Ext.trans e3 e11)
theorem spec_l03Under.calls {w : World} {a0 : List Rec} {a1 : List UInt8} {v_a0 : Value} (f_a0 : Rd 5 encRec w v_a0 a0) (h0 : a0.length ≤ 1048576) (h1 : a1.length ≤ 1048576) :
    Calls Tryz.prog 183 #[v_a0, S a1] w (Rt (RP w (.bool (underO a0 a1)))) := by
  obtain ⟨k, h⟩ := spec_l03Under.eq a0 a1 h0 h1
  exact spec_l03Under.walk f_a0 h
/-! impl.ancestors -/
theorem impl_ancestors.walk {k : Nat} {w : World} {a0 : List UInt8} {r : List (List UInt8)} (H : impl_ancestors.sh k a0 = some r) :
    Calls Tryz.prog 142 #[S a0] w (Rt (RO 9 1 encS w r)) := by
  unfold impl_ancestors.sh at H
  refine calls_of_W Tryz.func142 rfl (Nat.le_of_ble_eq_true rfl) Tryz.ntmps142 rfl ?_
  refine W_seq <| W_reg <| L_op (.plain rfl) rfl (ltb rfl) (X_assign (v := (.slice none 0 0)) rfl) <| L_nil <| thn_n <| W_seq <| W_reg <| L_lit (.plain rfl) rfl (ltb rfl) rfl Tryz.underlying49 Tryz.sizeOf9 Tryz.zeroValue9 rfl rfl rfl (vs := []) rfl (lit_all rfl) <| fun b1 w2 z3 z4 e5 k6 => L_op (.plain rfl) rfl (ltb rfl) (X_assign (v := (.slice (some ⟨b1, 0, none⟩) 0 0)) rfl) <| L_nil <| thn_n <| W_seq <| W_seq <| W_reg <| L_op (.plain rfl) rfl (ltb rfl) (X_move (v := (S a0)) rfl) ?_
  obtain ⟨c7, H⟩ := bif_some H
  refine L_callP (.plain rfl) rfl (ltb rfl) rfl Tryz.call120 (impl_parent.calls (w := w2) (a0 := a0) (of_decide_eq_true c7)) rfl <| fun w8 e9 => L_op (.plain rfl) rfl (ltb rfl) (X_assign (v := (S (parentP a0))) rfl) <| L_nil <| thn_n ?_
  obtain ⟨z13, L14, C15⟩ := bind_some H
  clear H
  refine  W_cutQ (fun s0 sQ wQ => ∃ (x3_16 : List (List UInt8)) (v17 : Value), Kp [(0, 1), (3, 4), (7, 15)] s0 sQ ∧ sQ 3 = v17 ∧ Ow 9 1 encS w8.heap.size wQ v17 x3_16 ∧ Ext w8 wQ ∧ z13 = .inr x3_16) ?_ ?_
  · refine W_block <| W_loopI (fun s0 kk sQ wQ => ∃ (x0_10 : List UInt8) (x3_11 : List (List UInt8)) (v12 : Value), Kp [(0, 1), (3, 4), (7, 15)] s0 sQ ∧ sQ 0 = S x0_10 ∧ sQ 3 = v12 ∧ Ow 9 1 encS w8.heap.size wQ v12 x3_11 ∧ Ext w8 wQ ∧ loopF (impl_ancestors.b1) kk (x0_10, x3_11) = some z13) k ⟨(parentP a0), ([] : List (List UInt8)), (.slice (some ⟨b1, 0, none⟩) 0 0), (Kp.refl _ _), rfl, rfl, (Ow.zero), (Ext.refl w8), L14⟩ ?_
    rintro k22 s23 w24 ⟨x0_10, x3_11, v12, K25, h28, h29, h30, e26, L27⟩
    cases k22 with
    | zero => exact absurd L27 (by simp [loopF])
    | succ k22 =>
      obtain ⟨t31, H, S32⟩ := loopF_succ L27
      clear L27
      unfold impl_ancestors.b1 at H
      refine W_seq <| W_seq <| W_reg <| L_op (.plain rfl) rfl (ltb rfl) (X_move (v := (S x0_10)) h28) <| L_op (.plain rfl) rfl (ltb rfl) (X_sne rfl rfl) <| L_nil <| thn_n ?_
      rcases bif_two H with ⟨q33, H⟩ | ⟨q33, H⟩
      · refine W_true (congrArg Value.bool q33) <| W_skip <| thn_n <| W_seq <| W_block <| W_reg <| L_op (.plain rfl) rfl (ltb rfl) (X_move (v := v12) h29) <| L_op (.plain rfl) rfl (ltb rfl) (X_move (v := (S x0_10)) h28) <| L_lit (.plain rfl) rfl (ltb rfl) rfl Tryz.underlying49 Tryz.sizeOf9 Tryz.zeroValue9 rfl rfl rfl (vs := [(S x0_10)]) rfl (lit_all rfl) <| fun b34 w35 z36 z37 e38 k39 => ?_
        obtain ⟨c40, H⟩ := bif_some H
        refine L_append (enc := encS) (.plain rfl) rfl (ltb rfl) rfl El.t49 rfl rfl (Ow.ext h30 e38) (Ow.rd (Ow.new (xs := [x0_10]) (sz := 1) (enc := encS) (base := w24.heap.size) k39 (Nat.le_of_eq z36) rfl (fun _ _ => by rfl) (Nat.le_of_ble_eq_true rfl))) (ones_S _) (of_decide_eq_true c40) ((Ext.trans e26 e38)).size <| fun v41 w42 o43 z44 g45 => L_op (.plain rfl) rfl (ltb rfl) (X_assign (v := v41) rfl) <| L_nil <| blk_n <| thn_n <| W_reg <| L_op (.plain rfl) rfl (ltb rfl) (X_move (v := (S x0_10)) h28) ?_
        obtain ⟨c46, H⟩ := bif_some H
        refine L_callP (.plain rfl) rfl (ltb rfl) rfl Tryz.call120 (impl_parent.calls (w := w42) (a0 := x0_10) (of_decide_eq_true c46)) rfl <| fun w47 e48 => L_op (.plain rfl) rfl (ltb rfl) (X_assign (v := (S (parentP x0_10))) rfl) <| L_nil <| thn_n ?_
        obtain rfl := Option.some.inj H
        exact ⟨_, Nat.lt_succ_self _, (parentP x0_10), x3_11 ++ ([x0_10] : List (List UInt8)), v41, (Kp.upd (Kp.upd (Kp.upd (Kp.upd (Kp.upd (Kp.upd (Kp.upd (Kp.upd (Kp.upd (Kp.upd K25 rfl) rfl) rfl) rfl) rfl) rfl) rfl) rfl) rfl) rfl), rfl, rfl, (Ow.ext o43 e48), (Ext.trans (g45 _ (Ext.trans e26 e38)) e48), S32⟩
      · refine W_false (congrArg Value.bool q33) <| W_exit <| thn_x <| thn_x <| blk_x <| thn_n ?_
        obtain rfl := Option.some.inj H
        obtain rfl := Option.some.inj S32
        exact ⟨x3_11, v12, (Kp.upd (Kp.upd K25 rfl) rfl), h29, h30, e26, rfl⟩
  · rintro s19 w18 ⟨x3_16, v17, K20, h49, h50, e21, y51⟩
    rw [y51] at C15
    have H := C15
    replace H : _ = some _ := H
    refine thn_n <| W_seq <| W_reg <| L_op (.plain rfl) rfl (ltb rfl) (X_move (v := v17) h49) <| L_op (.plain rfl) rfl (ltb rfl) (X_assign (v := v17) rfl) <| L_nil <| thn_n <| W_ret <| fin_r ?_
    obtain rfl := Option.some.inj H
    exact fin1o rfl (Ext.trans (Ext.trans e5 e9) e21) h50 ((Ext.trans e5 e9)).size
theorem impl_ancestors.calls {w : World} {a0 : List UInt8} (h0 : a0.length ≤ 1048576) :
    Calls Tryz.prog 142 #[S a0] w (Rt (RO 9 1 encS w (ancs a0))) := by
  obtain ⟨k, h⟩ := impl_ancestors.eq a0 h0
  exact impl_ancestors.walk h
/-! impl.above$1 -/
theorem impl_above_1.walk {w : World} {a0 : List UInt8} {a1 : List Rec} {a2 : Rec → Option Bool} {v_a1 : Value} (f_a1 : Rd 5 encRec w v_a1 a1) (g_a1 : v_a1.cells = #[v_a1]) {b_a1 : Nat} (k_a1 : Blk w b_a1 #[v_a1] 28) {v_a2 : Value} (f_a2 : ∀ (x0 : Rec) (r : Bool), a2 x0 = some r → FnAt Tryz.prog w v_a2 [(.agg (encRec x0).toArray)] (.bool r)) (g_a2 : v_a2.cells = #[v_a2]) {b_a2 : Nat} (k_a2 : Blk w b_a2 #[v_a2] 113) {r : Bool} (H : impl_above_1.sh a0 a1 a2 = some r) :
    Calls Tryz.prog 221 #[S a0, .pointer (some ⟨b_a1, 0, none⟩), .pointer (some ⟨b_a2, 0, none⟩)] w (Rt (RP w (.bool r))) := by
  unfold impl_above_1.sh at H
  refine calls_of_W Tryz.func221 rfl (Nat.le_of_ble_eq_true rfl) Tryz.ntmps221 rfl ?_
  refine W_seq <| W_reg <| L_op (.plain rfl) rfl (ltb rfl) (X_assign (v := (.bool false)) rfl) <| L_nil <| thn_n <| W_seq <| W_reg <| L_op (.plain rfl) rfl (ltb rfl) (X_loadB Tryz.isAgg28 k_a1 rfl rfl) <| L_op (.plain rfl) rfl (ltb rfl) (X_move (v := (S a0)) rfl) ?_
  obtain ⟨c1, H⟩ := bif_some H
  refine L_callP (.plain rfl) rfl (ltb rfl) rfl Tryz.call105 (impl_find.calls (w := w) (a0 := a1) (a1 := a0) f_a1 (of_decide_eq_true c1)) rfl <| fun w2 e3 => L_op (.plain rfl) rfl (ltb rfl) (X_assign (v := (.int .i64 (findR a1 a0))) rfl) <| L_nil <| thn_n <| W_seq ?_
  obtain ⟨c4, H⟩ := bif_some H
  obtain ⟨z7, x8, H⟩ := bind_some H
  refine W_drawM [LEq (.int .i64 (findR a1 a0)), LEq (.bool (decide (0 ≤ (findR a1 a0)))), LEq (.bool (decide (0 ≤ (findR a1 a0)))), LIf (decide (0 ≤ (findR a1 a0))) (LEq v_a2), LIf (decide (0 ≤ (findR a1 a0))) (LEq v_a1), LIf (decide (0 ≤ (findR a1 a0))) (LEq (.int .i64 (findR a1 a0))), LIf (decide (0 ≤ (findR a1 a0))) (LAt0 (encRec (gt a1 (findR a1 a0)))), LIf (decide (0 ≤ (findR a1 a0))) (LEq (.agg (encRec (gt a1 (findR a1 a0))).toArray)), LIf (decide (0 ≤ (findR a1 a0))) (LEq (.bool z7)), LEq (.bool ((decide (0 ≤ (findR a1 a0))) && z7)), LEq (.bool ((decide (0 ≤ (findR a1 a0))) && z7))] (by kernel_rfl) (by kernel_rfl) ⟨LEq.mono, LEq.mono, LEq.mono, (LIf.mono LEq.mono), (LIf.mono LEq.mono), (LIf.mono LEq.mono), (LIf.mono LAt0.mono), (LIf.mono LEq.mono), (LIf.mono LEq.mono), LEq.mono, LEq.mono, trivial⟩ ⟨?_, ?_, ?_, ?_, ?_, ?_, ?_, ?_, ?_, ?_, ?_, trivial⟩ ?_
  · intro s11 w12 e13 hf14 hd15 hu16
    exact L_op (.plain rfl) rfl (ltb rfl) (X_move (v := (.int .i64 (findR a1 a0))) (hf14 5 rfl)) <| L_nil <| stepEnd rfl rfl (Ext.refl w12) rfl
  · intro s17 w18 e19 hf20 hd21 hu22
    have d23 : s17 9 = (.int .i64 (findR a1 a0)) := (hd21 0 rfl)
    exact L_op (.plain rfl) rfl (ltb rfl) (X_geq d23 rfl) <| L_nil <| stepEnd rfl rfl (Ext.refl w18) rfl
  · intro s24 w25 e26 hf27 hd28 hu29
    have d30 : s24 10 = (.bool (decide (0 ≤ (findR a1 a0)))) := (hd28 1 rfl)
    exact L_op (.plain rfl) rfl (ltb rfl) (X_move (v := (.bool (decide (0 ≤ (findR a1 a0))))) d30) <| L_nil <| stepEnd rfl rfl (Ext.refl w25) rfl
  · intro s31 w32 e33 hf34 hd35 hu36
    rcases bool_two (decide (0 ≤ (findR a1 a0))) with b37 | b37
    · have g38 : (decide (0 ≤ (findR a1 a0))) = true := b37
      have d39 : s31 11 = (.bool (decide (0 ≤ (findR a1 a0)))) := (hd35 2 rfl)
      have d40 : s31 11 = (.bool (decide (0 ≤ (findR a1 a0)))) := (hd35 2 rfl)
      exact L_op (.guard 2 true 11 rfl rfl (ltb rfl) (d39.trans (congrArg Value.bool g38))) rfl (ltb rfl) (X_loadB Tryz.isAgg113 (Blk.ext k_a2 (Ext.trans e3 e33)) (hf34 2 rfl) rfl) <| L_nil <| stepEnd rfl rfl (Ext.refl w32) ⟨fun _ => rfl, fun h => absurd (b37.symm.trans h) (by decide)⟩
    · have d41 : s31 11 = (.bool (decide (0 ≤ (findR a1 a0)))) := (hd35 2 rfl)
      have g42 : (decide (0 ≤ (findR a1 a0))) = false := b37
      exact L_skip rfl rfl (ltb rfl) (d41.trans (congrArg Value.bool g42)) rfl rfl (ltb rfl) <| L_nil <| stepEnd rfl rfl (Ext.refl w32) ⟨fun h => absurd (b37.symm.trans h) (by decide), fun _ => rfl⟩
  · intro s43 w44 e45 hf46 hd47 hu48
    rcases bool_two (decide (0 ≤ (findR a1 a0))) with b49 | b49
    · have g50 : (decide (0 ≤ (findR a1 a0))) = true := b49
      have d51 : s43 11 = (.bool (decide (0 ≤ (findR a1 a0)))) := (hd47 2 rfl)
      have d52 : s43 11 = (.bool (decide (0 ≤ (findR a1 a0)))) := (hd47 2 rfl)
      exact L_op (.guard 2 true 11 rfl rfl (ltb rfl) (d51.trans (congrArg Value.bool g50))) rfl (ltb rfl) (X_loadB Tryz.isAgg28 (Blk.ext k_a1 (Ext.trans e3 e45)) (hf46 1 rfl) rfl) <| L_nil <| stepEnd rfl rfl (Ext.refl w44) ⟨fun _ => rfl, fun h => absurd (b49.symm.trans h) (by decide)⟩
    · have d53 : s43 11 = (.bool (decide (0 ≤ (findR a1 a0)))) := (hd47 2 rfl)
      have g54 : (decide (0 ≤ (findR a1 a0))) = false := b49
      exact L_skip rfl rfl (ltb rfl) (d53.trans (congrArg Value.bool g54)) rfl rfl (ltb rfl) <| L_nil <| stepEnd rfl rfl (Ext.refl w44) ⟨fun h => absurd (b49.symm.trans h) (by decide), fun _ => rfl⟩
  · intro s55 w56 e57 hf58 hd59 hu60
    rcases bool_two (decide (0 ≤ (findR a1 a0))) with b61 | b61
    · have g62 : (decide (0 ≤ (findR a1 a0))) = true := b61
      have d63 : s55 11 = (.bool (decide (0 ≤ (findR a1 a0)))) := (hd59 2 rfl)
      have d64 : s55 11 = (.bool (decide (0 ≤ (findR a1 a0)))) := (hd59 2 rfl)
      exact L_op (.guard 2 true 11 rfl rfl (ltb rfl) (d63.trans (congrArg Value.bool g62))) rfl (ltb rfl) (X_move (v := (.int .i64 (findR a1 a0))) (hf58 5 rfl)) <| L_nil <| stepEnd rfl rfl (Ext.refl w56) ⟨fun _ => rfl, fun h => absurd (b61.symm.trans h) (by decide)⟩
    · have d65 : s55 11 = (.bool (decide (0 ≤ (findR a1 a0)))) := (hd59 2 rfl)
      have g66 : (decide (0 ≤ (findR a1 a0))) = false := b61
      exact L_skip rfl rfl (ltb rfl) (d65.trans (congrArg Value.bool g66)) rfl rfl (ltb rfl) <| L_nil <| stepEnd rfl rfl (Ext.refl w56) ⟨fun h => absurd (b61.symm.trans h) (by decide), fun _ => rfl⟩
  · intro s67 w68 e69 hf70 hd71 hu72
    rcases bool_two (decide (0 ≤ (findR a1 a0))) with b73 | b73
    · have g74 : (decide (0 ≤ (findR a1 a0))) = true := b73
      have d75 : s67 11 = (.bool (decide (0 ≤ (findR a1 a0)))) := (hd71 2 rfl)
      have d76 : s67 11 = (.bool (decide (0 ≤ (findR a1 a0)))) := (hd71 2 rfl)
      have d77 : s67 13 = v_a1 := ((hd71 4 rfl).1 b73)
      have d78 : s67 14 = (.int .i64 (findR a1 a0)) := ((hd71 5 rfl).1 b73)
      have c79 := imp_take b73 c4
      exact L_idx (.guard 2 true 11 rfl rfl (ltb rfl) (d75.trans (congrArg Value.bool g74))) rfl (ltb rfl) rfl Tryz.underlying28 Tryz.sizeOf78 d77 (Rd.ext f_a1 (Ext.trans e3 e69)) d78 c79 <| fun p80 h81 => L_nil <| stepEnd rfl rfl (Ext.refl w68) ⟨fun _ => ⟨_, rfl, h81⟩, fun h => absurd (b73.symm.trans h) (by decide)⟩
    · have d82 : s67 11 = (.bool (decide (0 ≤ (findR a1 a0)))) := (hd71 2 rfl)
      have g83 : (decide (0 ≤ (findR a1 a0))) = false := b73
      exact L_skip rfl rfl (ltb rfl) (d82.trans (congrArg Value.bool g83)) rfl rfl (ltb rfl) <| L_nil <| stepEnd rfl rfl (Ext.refl w68) ⟨fun h => absurd (b73.symm.trans h) (by decide), fun _ => rfl⟩
  · intro s84 w85 e86 hf87 hd88 hu89
    rcases bool_two (decide (0 ≤ (findR a1 a0))) with b90 | b90
    · have g91 : (decide (0 ≤ (findR a1 a0))) = true := b90
      have d92 : s84 11 = (.bool (decide (0 ≤ (findR a1 a0)))) := (hd88 2 rfl)
      have d93 : s84 11 = (.bool (decide (0 ≤ (findR a1 a0)))) := (hd88 2 rfl)
      obtain ⟨p94, h95, h96⟩ := ((hd88 6 rfl).1 b90)
      exact L_op (.guard 2 true 11 rfl rfl (ltb rfl) (d92.trans (congrArg Value.bool g91))) rfl (ltb rfl) (X_loadS Tryz.isAgg78 Tryz.sizeOf78 rfl h95 h96) <| L_nil <| stepEnd rfl rfl (Ext.refl w85) ⟨fun _ => rfl, fun h => absurd (b90.symm.trans h) (by decide)⟩
    · have d97 : s84 11 = (.bool (decide (0 ≤ (findR a1 a0)))) := (hd88 2 rfl)
      have g98 : (decide (0 ≤ (findR a1 a0))) = false := b90
      exact L_skip rfl rfl (ltb rfl) (d97.trans (congrArg Value.bool g98)) rfl rfl (ltb rfl) <| L_nil <| stepEnd rfl rfl (Ext.refl w85) ⟨fun h => absurd (b90.symm.trans h) (by decide), fun _ => rfl⟩
  · intro s99 w100 e101 hf102 hd103 hu104
    rcases bool_two (decide (0 ≤ (findR a1 a0))) with b105 | b105
    · have g106 : (decide (0 ≤ (findR a1 a0))) = true := b105
      have d107 : s99 11 = (.bool (decide (0 ≤ (findR a1 a0)))) := (hd103 2 rfl)
      have d108 : s99 11 = (.bool (decide (0 ≤ (findR a1 a0)))) := (hd103 2 rfl)
      have d109 : s99 12 = v_a2 := ((hd103 3 rfl).1 b105)
      have d110 : s99 16 = (.agg (encRec (gt a1 (findR a1 a0))).toArray) := ((hd103 7 rfl).1 b105)
      exact L_callF (.guard 2 true 11 rfl rfl (ltb rfl) (d107.trans (congrArg Value.bool g106))) rfl (ltb rfl) rfl d109 (FnAt.ext (f_a2 _ _ x8) (Ext.trans e3 e101)) (cons2 d110 rfl) <| fun w113 e114 => L_nil <| stepEnd rfl rfl e114 ⟨fun _ => rfl, fun h => absurd (b105.symm.trans h) (by decide)⟩
    · have d115 : s99 11 = (.bool (decide (0 ≤ (findR a1 a0)))) := (hd103 2 rfl)
      have g116 : (decide (0 ≤ (findR a1 a0))) = false := b105
      exact L_skip rfl rfl (ltb rfl) (d115.trans (congrArg Value.bool g116)) rfl rfl (ltb rfl) <| L_nil <| stepEnd rfl rfl (Ext.refl w100) ⟨fun h => absurd (b105.symm.trans h) (by decide), fun _ => rfl⟩
  · intro s117 w118 e119 hf120 hd121 hu122
    rcases bool_two (decide (0 ≤ (findR a1 a0))) with b123 | b123
    · have d124 : s117 11 = (.bool (decide (0 ≤ (findR a1 a0)))) := (hd121 2 rfl)
      have d125 : s117 17 = (.bool z7) := ((hd121 8 rfl).1 b123)
      exact L_op (.plain rfl) rfl (ltb rfl) (X_pick (b := true) (v := (.bool z7)) (d124.trans (congrArg Value.bool b123)) d125) <| L_nil <| stepEnd rfl rfl (Ext.refl w118) (and_t b123)
    · have d126 : s117 11 = (.bool (decide (0 ≤ (findR a1 a0)))) := (hd121 2 rfl)
      exact L_op (.plain rfl) rfl (ltb rfl) (X_pick (b := false) (v := (.bool false)) (d126.trans (congrArg Value.bool b123)) rfl) <| L_nil <| stepEnd rfl rfl (Ext.refl w118) (and_f b123)
  · intro s127 w128 e129 hf130 hd131 hu132
    have d133 : s127 18 = (.bool ((decide (0 ≤ (findR a1 a0))) && z7)) := (hd131 9 rfl)
    exact L_op (.plain rfl) rfl (ltb rfl) (X_assign (v := (.bool ((decide (0 ≤ (findR a1 a0))) && z7))) d133) <| L_nil <| stepEnd rfl rfl (Ext.refl w128) rfl
  intro s134 w135 e136 hf137 ha138
  have K139 := Kp.ofD (kp := [(4, 5), (9, 19)]) rfl hf137
  have d140 : s134 4 = (.bool ((decide (0 ≤ (findR a1 a0))) && z7)) := ha138 10 rfl
  clear ha138 hf137
  refine thn_n <| W_ret <| fin_r ?_
  obtain rfl := Option.some.inj H
  exact fin1 d140 (Ext.trans e3 e136)
theorem impl_above_1.calls {w : World} {a0 : List UInt8} {a1 : List Rec} {a2 : Rec → Option Bool} {r : Bool} {v_a1 : Value} (f_a1 : Rd 5 encRec w v_a1 a1) (g_a1 : v_a1.cells = #[v_a1]) {b_a1 : Nat} (k_a1 : Blk w b_a1 #[v_a1] 28) {v_a2 : Value} (f_a2 : ∀ (x0 : Rec) (r : Bool), a2 x0 = some r → FnAt Tryz.prog w v_a2 [(.agg (encRec x0).toArray)] (.bool r)) (g_a2 : v_a2.cells = #[v_a2]) {b_a2 : Nat} (k_a2 : Blk w b_a2 #[v_a2] 113) (h0 : a1.length ≤ 1048576) (H : (aboveO a1 a2 a0) = some r) :
    Calls Tryz.prog 221 #[S a0, .pointer (some ⟨b_a1, 0, none⟩), .pointer (some ⟨b_a2, 0, none⟩)] w (Rt (RP w (.bool r))) := impl_above_1.walk f_a1 g_a1 k_a1 f_a2 g_a2 k_a2 (impl_above_1.eq a0 a1 a2 h0 H)
/-! impl.above -/
theorem impl_above.walk {w : World} {a0 : List Rec} {a1 : List UInt8} {a2 : Rec → Option Bool} {v_a0 : Value} (f_a0 : Rd 5 encRec w v_a0 a0) {v_a2 : Value} (f_a2 : ∀ (x0 : Rec) (r : Bool), a2 x0 = some r → FnAt Tryz.prog w v_a2 [(.agg (encRec x0).toArray)] (.bool r)) (g_a2 : v_a2.cells = #[v_a2]) {r : Bool} (H : impl_above.sh a0 a1 a2 = some r) :
    Calls Tryz.prog 184 #[v_a0, S a1, v_a2] w (Rt (RP w (.bool r))) := by
  unfold impl_above.sh at H
  refine calls_of_W Tryz.func184 rfl (Nat.le_of_ble_eq_true rfl) Tryz.ntmps184 rfl ?_
  refine W_seq <| W_reg <| L_box (.plain rfl) rfl (ltb rfl) rfl rfl <| fun b1 w2 z3 z4 e5 k6 => L_box (.plain rfl) rfl (ltb rfl) rfl rfl <| fun b7 w8 z9 z10 e11 k12 => L_op (.plain rfl) rfl (ltb rfl) (X_assign (v := (.bool false)) rfl) <| L_nil <| thn_n <| W_seq <| W_reg <| L_op (.plain rfl) rfl (ltb rfl) (X_move (v := (S a1)) rfl) ?_
  obtain ⟨c13, H⟩ := bif_some H
  refine L_callO (.plain rfl) rfl (ltb rfl) rfl Tryz.call142 (impl_ancestors.calls (w := w8) (a0 := a1) (of_decide_eq_true c13)) rfl <| fun v16 w14 e15 o17 => L_op (.plain rfl) rfl (ltb rfl) (X_makeFunc (vs := #[]) (us := #[.pointer (some ⟨b1, 0, none⟩), .pointer (some ⟨b7, 0, none⟩)]) rfl rfl) ?_
  obtain ⟨c22, H⟩ := bif_some H
  obtain ⟨z23, x24, H⟩ := bind_some H
  refine L_callP (.plain rfl) rfl (ltb rfl) rfl Tryz.call220 (slices_ContainsFuncS.calls (w := w14) (a0 := (ancs a1)) (a1 := (fun (x0_ : List UInt8) => bif decide (a0.length ≤ 1048576) then (aboveO a0 a2 x0_) else none)) (Ow.rd o17) (fun x0_ r h => by obtain ⟨q0, h⟩ := bif_some h; exact FnAt.mk Tryz.call221 (by rfl) fun w20 k21 => impl_above_1.calls (w := w20) (a0 := x0_) (a1 := a0) (a2 := a2) (Rd.ext f_a0 (Ext.trans (Ext.trans (Ext.trans e5 e11) e15) k21)) (Rd.cs (Rd.ext f_a0 e5)) (Blk.ext (Blk.cs k6 (Rd.cs (Rd.ext f_a0 e5))) (Ext.trans (Ext.trans e11 e15) k21)) (fun x0 r h => FnAt.ext (f_a2 x0 r h) (Ext.trans (Ext.trans (Ext.trans e5 e11) e15) k21)) g_a2 (Blk.ext (Blk.cs k12 g_a2) (Ext.trans e15 k21)) (of_decide_eq_true q0) h) rfl (of_decide_eq_true c22) x24) rfl <| fun w25 e26 => L_op (.plain rfl) rfl (ltb rfl) (X_assign (v := (.bool z23)) rfl) <| L_nil <| thn_n <| W_ret <| fin_r ?_
  obtain rfl := Option.some.inj H
  exact fin1 rfl (Ext.trans (Ext.trans (Ext.trans e5 e11) e15) e26)
theorem impl_above.calls {w : World} {a0 : List Rec} {a1 : List UInt8} {a2 : Rec → Option Bool} {r : Bool} {v_a0 : Value} (f_a0 : Rd 5 encRec w v_a0 a0) {v_a2 : Value} (f_a2 : ∀ (x0 : Rec) (r : Bool), a2 x0 = some r → FnAt Tryz.prog w v_a2 [(.agg (encRec x0).toArray)] (.bool r)) (g_a2 : v_a2.cells = #[v_a2]) (h0 : a0.length ≤ 1048576) (h1 : a1.length ≤ 1048576) (H : (anyO (aboveO a0 a2) (ancs a1)) = some r) :
    Calls Tryz.prog 184 #[v_a0, S a1, v_a2] w (Rt (RP w (.bool r))) := impl_above.walk f_a0 f_a2 g_a2 (impl_above.eq a0 a1 a2 h0 h1 H)
/-! spec.l06Stops -/
theorem spec_l06Stops.walk {w : World} {a0 : Rec} {r : Bool} (H : spec_l06Stops.sh a0 = some r) :
    Calls Tryz.prog 182 #[.agg (encRec a0).toArray] w (Rt (RP w (.bool r))) := by
  unfold spec_l06Stops.sh at H
  refine calls_of_W Tryz.func182 rfl (Nat.le_of_ble_eq_true rfl) Tryz.ntmps182 rfl ?_
  refine W_seq <| W_reg <| L_box (.plain rfl) rfl (ltb rfl) rfl rfl <| fun b1 w2 z3 z4 e5 k6 => L_op (.plain rfl) rfl (ltb rfl) (X_assign (v := (.bool false)) rfl) <| L_nil <| thn_n <| W_seq <| W_reg <| L_op (.plain rfl) rfl (ltb rfl) (X_fieldAddr Tryz.underlying78 rfl Tryz.sizeOf3 rfl rfl) <| L_op (.plain rfl) rfl (ltb rfl) (X_loadB Tryz.isAgg3 k6 rfl rfl) <| L_op (.plain rfl) rfl (ltb rfl) (X_neq rfl rfl) <| L_op (.plain rfl) rfl (ltb rfl) (X_move (v := (.bool (!decide (a0.kind = 3)))) rfl) <| L_grp 3 [(7, 10)] 9 (.bool ((!decide (a0.kind = 3)) || a0.opq)) ?_ ?_
  · rcases bool_two (!decide (a0.kind = 3)) with b6_ | b6_
    · exact L_skip rfl rfl (ltb rfl) (congrArg Value.bool b6_) rfl rfl (ltb rfl) <| L_skip rfl rfl (ltb rfl) (congrArg Value.bool b6_) rfl rfl (ltb rfl) <| L_op (.plain rfl) rfl (ltb rfl) (X_pick (b := true) (v := (.bool true)) (congrArg Value.bool b6_) rfl) <| L_nil <| thn_n ⟨(Kp.upd (Kp.upd (Kp.upd (Kp.refl _ _) rfl) rfl) rfl), (or_t b6_), (Ext.refl w2)⟩
    · exact L_op (.guard 3 false 6 rfl rfl (ltb rfl) (congrArg Value.bool b6_)) rfl (ltb rfl) (X_fieldAddr Tryz.underlying78 rfl Tryz.sizeOf4 rfl rfl) <| L_op (.guard 3 false 6 rfl rfl (ltb rfl) (congrArg Value.bool b6_)) rfl (ltb rfl) (X_loadB Tryz.isAgg4 k6 rfl rfl) <| L_op (.plain rfl) rfl (ltb rfl) (X_pick (b := false) (v := (.bool a0.opq)) (congrArg Value.bool b6_) rfl) <| L_nil <| thn_n ⟨(Kp.upd (Kp.upd (Kp.upd (Kp.refl _ _) rfl) rfl) rfl), (or_f b6_), (Ext.refl w2)⟩
  intro s12 w8 K9 h10 e11
  refine L_op (.plain rfl) rfl (ltb rfl) (X_assign (v := (.bool ((!decide (a0.kind = 3)) || a0.opq))) h10) <| L_nil <| thn_n <| W_ret <| fin_r ?_
  obtain rfl := Option.some.inj H
  exact fin1 rfl (Ext.trans e5 e11)
theorem spec_l06Stops.calls {w : World} {a0 : Rec} :
    Calls Tryz.prog 182 #[.agg (encRec a0).toArray] w (Rt (RP w (.bool (stopsR a0)))) := spec_l06Stops.walk (spec_l06Stops.eq a0)
/-! spec.l06Cuts -/
theorem spec_l06Cuts.walk {k : Nat} {w : World} {a0 : List Rec} {a1 : List UInt8} {v_a0 : Value} (f_a0 : Rd 5 encRec w v_a0 a0) {r : Bool} (H : spec_l06Cuts.sh k a0 a1 = some r) :
    Calls Tryz.prog 130 #[v_a0, S a1] w (Rt (RP w (.bool r))) := by
  unfold spec_l06Cuts.sh at H
  refine calls_of_W Tryz.func130 rfl (Nat.le_of_ble_eq_true rfl) Tryz.ntmps130 rfl ?_
  refine W_seq <| W_reg <| L_op (.plain rfl) rfl (ltb rfl) (X_assign (v := (.bool false)) rfl) <| L_nil <| thn_n <| W_seq <| W_seq <| W_reg <| L_op (.plain rfl) rfl (ltb rfl) (X_move (v := (S a1)) rfl) ?_
  obtain ⟨c1, H⟩ := bif_some H
  refine L_callP (.plain rfl) rfl (ltb rfl) rfl Tryz.call113 (spec_l01Parent.calls (w := w) (a0 := a1) (of_decide_eq_true c1)) rfl <| fun w2 e3 => L_op (.plain rfl) rfl (ltb rfl) (X_assign (v := (S (parentP a1))) rfl) <| L_nil <| thn_n ?_
  obtain ⟨z5, L6, C7⟩ := bind_some H
  clear H
  refine  W_cutQ (fun s0 sQ wQ => Kp [(4, 7), (9, 25)] s0 sQ ∧ Ext w2 wQ ∧ z5 = .inr ()) ?_ ?_
  · refine W_block <| W_loopI (fun s0 kk sQ wQ => ∃ (x5_4 : List UInt8), Kp [(4, 7), (9, 25)] s0 sQ ∧ sQ 5 = S x5_4 ∧ Ext w2 wQ ∧ loopF (spec_l06Cuts.b1 a0) kk x5_4 = some z5) k ⟨(parentP a1), (Kp.refl _ _), rfl, (Ext.refl w2), L6⟩ ?_
    rintro k12 s13 w14 ⟨x5_4, K15, h18, e16, L17⟩
    cases k12 with
    | zero => exact absurd L17 (by simp [loopF])
    | succ k12 =>
      obtain ⟨t19, H, S20⟩ := loopF_succ L17
      clear L17
      unfold spec_l06Cuts.b1 at H
      refine W_seq <| W_seq <| W_reg <| L_op (.plain rfl) rfl (ltb rfl) (X_move (v := (S x5_4)) h18) <| L_op (.plain rfl) rfl (ltb rfl) (X_sne rfl rfl) <| L_nil <| thn_n ?_
      rcases bif_two H with ⟨q21, H⟩ | ⟨q21, H⟩
      · refine W_true (congrArg Value.bool q21) <| W_skip <| thn_n <| W_seq <| W_block <| W_seq <| W_reg <| L_op (.plain rfl) rfl (ltb rfl) (X_move (v := v_a0) (K15 0 rfl)) <| L_op (.plain rfl) rfl (ltb rfl) (X_move (v := (S x5_4)) h18) ?_
        obtain ⟨c22, H⟩ := bif_some H
        refine L_callP (.plain rfl) rfl (ltb rfl) rfl Tryz.call137 (spec_l03At.calls (w := w14) (a0 := a0) (a1 := x5_4) (Rd.ext f_a0 (Ext.trans e3 e16)) (of_decide_eq_true c22)) rfl <| fun w23 e24 => L_op (.plain rfl) rfl (ltb rfl) (X_assign (v := (.int .i64 (findR a0 x5_4))) rfl) <| L_nil <| thn_n <| W_seq <| W_reg <| L_op (.plain rfl) rfl (ltb rfl) (X_move (v := (.int .i64 (findR a0 x5_4))) rfl) <| L_op (.plain rfl) rfl (ltb rfl) (X_geq rfl rfl) <| L_op (.plain rfl) rfl (ltb rfl) (X_move (v := (.bool (decide (0 ≤ (findR a0 x5_4))))) rfl) ?_
        obtain ⟨z26, x27, H⟩ := bind_some H
        refine L_grpE 6 [(19, 25)] 24 (fun q => q = z26) ?_ ?_
        · rcases bif_two x27 with ⟨b24_, H⟩ | ⟨b24_, H⟩
          · refine L_op (.guard 2 true 18 rfl rfl (ltb rfl) (congrArg Value.bool b24_)) rfl (ltb rfl) (X_move (v := v_a0) (K15 0 rfl)) <| L_op (.guard 2 true 18 rfl rfl (ltb rfl) (congrArg Value.bool b24_)) rfl (ltb rfl) (X_move (v := (.int .i64 (findR a0 x5_4))) rfl) ?_
            obtain ⟨c26, H⟩ := bif_some H
            refine L_idx (.guard 2 true 18 rfl rfl (ltb rfl) (congrArg Value.bool b24_)) rfl (ltb rfl) rfl Tryz.underlying28 Tryz.sizeOf78 rfl (Rd.ext f_a0 (Ext.trans (Ext.trans e3 e16) e24)) rfl c26 <| fun p27 h28 => L_op (.guard 2 true 18 rfl rfl (ltb rfl) (congrArg Value.bool b24_)) rfl (ltb rfl) (X_loadS Tryz.isAgg78 Tryz.sizeOf78 rfl rfl h28) <| L_callP (.guard 2 true 18 rfl rfl (ltb rfl) (congrArg Value.bool b24_)) rfl (ltb rfl) rfl Tryz.call182 (spec_l06Stops.calls (w := w23) (a0 := gt a0 (findR a0 x5_4))) rfl <| fun w29 e30 => L_op (.plain rfl) rfl (ltb rfl) (X_pick (b := true) (v := (.bool (stopsR (gt a0 (findR a0 x5_4))))) (congrArg Value.bool b24_) rfl) ?_
            obtain rfl := Option.some.inj H
            exact L_nil <| thn_n ⟨(Kp.upd (Kp.upd (Kp.upd (Kp.upd (Kp.upd (Kp.upd (Kp.refl _ _) rfl) rfl) rfl) rfl) rfl) rfl), ⟨_, rfl, rfl⟩, e30⟩
          · refine L_skip rfl rfl (ltb rfl) (congrArg Value.bool b24_) rfl rfl (ltb rfl) <| L_skip rfl rfl (ltb rfl) (congrArg Value.bool b24_) rfl rfl (ltb rfl) <| L_skip rfl rfl (ltb rfl) (congrArg Value.bool b24_) rfl rfl (ltb rfl) <| L_skip rfl rfl (ltb rfl) (congrArg Value.bool b24_) rfl rfl (ltb rfl) <| L_skip rfl rfl (ltb rfl) (congrArg Value.bool b24_) rfl rfl (ltb rfl) <| L_op (.plain rfl) rfl (ltb rfl) (X_pick (b := false) (v := (.bool false)) (congrArg Value.bool b24_) rfl) ?_
            obtain rfl := Option.some.inj H
            exact L_nil <| thn_n ⟨(Kp.upd (Kp.upd (Kp.upd (Kp.upd (Kp.upd (Kp.upd (Kp.refl _ _) rfl) rfl) rfl) rfl) rfl) rfl), ⟨_, rfl, rfl⟩, (Ext.refl w23)⟩
        intro s32 w28 z33 K29 hq h30 e31
        rw [hq] at h30; clear hq
        refine L_nil <| thn_n ?_
        rcases bif_two H with ⟨q34, H⟩ | ⟨q34, H⟩
        · refine W_true (h30.trans (congrArg Value.bool q34)) <| W_seq <| W_reg <| L_op (.plain rfl) rfl (ltb rfl) (X_assign (v := (.bool true)) rfl) <| L_nil <| thn_n <| W_ret <| blk_r <| thn_r <| thn_r <| blk_r <| thn_r <| thn_r <| fin_r ?_
          obtain rfl := Option.some.inj H
          obtain rfl := Option.some.inj S20
          have H := C7
          obtain rfl := Option.some.inj H
          exact fin1 rfl (Ext.trans (Ext.trans (Ext.trans e3 e16) e24) e31)
        · refine W_false (h30.trans (congrArg Value.bool q34)) <| W_skip <| blk_n <| thn_n <| W_reg <| L_op (.plain rfl) rfl (ltb rfl) (X_move (v := (S x5_4)) ((K29 5 rfl).trans h18)) ?_
          obtain ⟨c35, H⟩ := bif_some H
          refine L_callP (.plain rfl) rfl (ltb rfl) rfl Tryz.call113 (spec_l01Parent.calls (w := w28) (a0 := x5_4) (of_decide_eq_true c35)) rfl <| fun w36 e37 => L_op (.plain rfl) rfl (ltb rfl) (X_assign (v := (S (parentP x5_4))) rfl) <| L_nil <| thn_n ?_
          obtain rfl := Option.some.inj H
          exact ⟨_, Nat.lt_succ_self _, (parentP x5_4), (Kp.upd (Kp.upd (Kp.upd (Kp.cut (Kp.upd (Kp.upd (Kp.upd (Kp.upd (Kp.upd (Kp.upd (Kp.upd (Kp.upd (Kp.upd K15 rfl) rfl) rfl) rfl) rfl) rfl) rfl) rfl) rfl) K29 rfl) rfl) rfl) rfl), rfl, (Ext.trans (Ext.trans (Ext.trans e16 e24) e31) e37), S20⟩
      · refine W_false (congrArg Value.bool q21) <| W_exit <| thn_x <| thn_x <| blk_x <| thn_n ?_
        obtain rfl := Option.some.inj H
        obtain rfl := Option.some.inj S20
        exact ⟨(Kp.upd (Kp.upd K15 rfl) rfl), e16, rfl⟩
  · rintro s9 w8 ⟨K10, e11, y38⟩
    rw [y38] at C7
    have H := C7
    replace H : _ = some _ := H
    refine thn_n <| W_seq <| W_reg <| L_op (.plain rfl) rfl (ltb rfl) (X_assign (v := (.bool false)) rfl) <| L_nil <| thn_n <| W_ret <| fin_r ?_
    obtain rfl := Option.some.inj H
    exact fin1 rfl (Ext.trans e3 e11)
theorem spec_l06Cuts.calls {w : World} {a0 : List Rec} {a1 : List UInt8} {v_a0 : Value} (f_a0 : Rd 5 encRec w v_a0 a0) (h0 : a0.length ≤ 1048576) (h1 : a1.length ≤ 1048576) :
    Calls Tryz.prog 130 #[v_a0, S a1] w (Rt (RP w (.bool (cutsR a0 a1)))) := by
  obtain ⟨k, h⟩ := spec_l06Cuts.eq a0 a1 h0 h1
  exact spec_l06Cuts.walk f_a0 h
/-! impl.stops -/
theorem impl_stops.walk {w : World} {a0 : Rec} {r : Bool} (H : impl_stops.sh a0 = some r) :
    Calls Tryz.prog 133 #[.agg (encRec a0).toArray] w (Rt (RP w (.bool r))) := by
  unfold impl_stops.sh at H
  refine calls_of_W Tryz.func133 rfl (Nat.le_of_ble_eq_true rfl) Tryz.ntmps133 rfl ?_
  refine W_seq <| W_reg <| L_box (.plain rfl) rfl (ltb rfl) rfl rfl <| fun b1 w2 z3 z4 e5 k6 => L_op (.plain rfl) rfl (ltb rfl) (X_assign (v := (.bool false)) rfl) <| L_nil <| thn_n <| W_seq <| W_reg <| L_op (.plain rfl) rfl (ltb rfl) (X_fieldAddr Tryz.underlying78 rfl Tryz.sizeOf3 rfl rfl) <| L_op (.plain rfl) rfl (ltb rfl) (X_loadB Tryz.isAgg3 k6 rfl rfl) <| L_op (.plain rfl) rfl (ltb rfl) (X_neq rfl rfl) <| L_op (.plain rfl) rfl (ltb rfl) (X_move (v := (.bool (!decide (a0.kind = 3)))) rfl) <| L_grp 3 [(7, 10)] 9 (.bool ((!decide (a0.kind = 3)) || a0.opq)) ?_ ?_
  · rcases bool_two (!decide (a0.kind = 3)) with b6_ | b6_
    · exact L_skip rfl rfl (ltb rfl) (congrArg Value.bool b6_) rfl rfl (ltb rfl) <| L_skip rfl rfl (ltb rfl) (congrArg Value.bool b6_) rfl rfl (ltb rfl) <| L_op (.plain rfl) rfl (ltb rfl) (X_pick (b := true) (v := (.bool true)) (congrArg Value.bool b6_) rfl) <| L_nil <| thn_n ⟨(Kp.upd (Kp.upd (Kp.upd (Kp.refl _ _) rfl) rfl) rfl), (or_t b6_), (Ext.refl w2)⟩
    · exact L_op (.guard 3 false 6 rfl rfl (ltb rfl) (congrArg Value.bool b6_)) rfl (ltb rfl) (X_fieldAddr Tryz.underlying78 rfl Tryz.sizeOf4 rfl rfl) <| L_op (.guard 3 false 6 rfl rfl (ltb rfl) (congrArg Value.bool b6_)) rfl (ltb rfl) (X_loadB Tryz.isAgg4 k6 rfl rfl) <| L_op (.plain rfl) rfl (ltb rfl) (X_pick (b := false) (v := (.bool a0.opq)) (congrArg Value.bool b6_) rfl) <| L_nil <| thn_n ⟨(Kp.upd (Kp.upd (Kp.upd (Kp.refl _ _) rfl) rfl) rfl), (or_f b6_), (Ext.refl w2)⟩
  intro s12 w8 K9 h10 e11
  refine L_op (.plain rfl) rfl (ltb rfl) (X_assign (v := (.bool ((!decide (a0.kind = 3)) || a0.opq))) h10) <| L_nil <| thn_n <| W_ret <| fin_r ?_
  obtain rfl := Option.some.inj H
  exact fin1 rfl (Ext.trans e5 e11)
theorem impl_stops.calls {w : World} {a0 : Rec} :
    Calls Tryz.prog 133 #[.agg (encRec a0).toArray] w (Rt (RP w (.bool (stopsR a0)))) := impl_stops.walk (impl_stops.eq a0)
/-! impl.cuts -/
theorem impl_cuts.walk {w : World} {a0 : List Rec} {a1 : List UInt8} {v_a0 : Value} (f_a0 : Rd 5 encRec w v_a0 a0) {r : Bool} (H : impl_cuts.sh a0 a1 = some r) :
    Calls Tryz.prog 134 #[v_a0, S a1] w (Rt (RP w (.bool r))) := by
  unfold impl_cuts.sh at H
  refine calls_of_W Tryz.func134 rfl (Nat.le_of_ble_eq_true rfl) Tryz.ntmps134 rfl ?_
  refine W_seq <| W_reg <| L_op (.plain rfl) rfl (ltb rfl) (X_assign (v := (.bool false)) rfl) <| L_nil <| thn_n <| W_seq <| W_reg <| L_op (.plain rfl) rfl (ltb rfl) (X_move (v := v_a0) rfl) <| L_op (.plain rfl) rfl (ltb rfl) (X_move (v := (S a1)) rfl) ?_
  obtain ⟨c5, H⟩ := bif_some H
  obtain ⟨c6, H⟩ := bif_some H
  obtain ⟨z7, x8, H⟩ := bind_some H
  refine L_callP (.plain rfl) rfl (ltb rfl) rfl Tryz.call184 (impl_above.calls (w := w) (a0 := a0) (a1 := a1) (a2 := (fun (x0_ : Rec) => some (stopsR x0_))) f_a0 (fun x0_ r h => by have h := Option.some.inj h; subst h; exact FnAt.mk Tryz.call133 (by rfl) fun w3 k4 => impl_stops.calls (w := w3) (a0 := x0_)) rfl (of_decide_eq_true c5) (of_decide_eq_true c6) x8) rfl <| fun w9 e10 => L_op (.plain rfl) rfl (ltb rfl) (X_assign (v := (.bool z7)) rfl) <| L_nil <| thn_n <| W_ret <| fin_r ?_
  obtain rfl := Option.some.inj H
  exact fin1 rfl e10
theorem impl_cuts.calls {w : World} {a0 : List Rec} {a1 : List UInt8} {v_a0 : Value} (f_a0 : Rd 5 encRec w v_a0 a0) (h0 : a0.length ≤ 1048576) (h1 : a1.length ≤ 1048576) :
    Calls Tryz.prog 134 #[v_a0, S a1] w (Rt (RP w (.bool (cutsR a0 a1)))) := impl_cuts.walk f_a0 (impl_cuts.eq a0 a1 h0 h1)
/-! laws.szRecordSS -/
theorem laws_szRecordSS.walk {k : Nat} {w : World} {a0 : List (List Rec)} {a1 : Int} {v_a0 : Value} (f_a0 : Rd2 5 encRec w v_a0 a0) {r : Int} (H : laws_szRecordSS.sh k a0 a1 = some r) :
    Calls Tryz.prog 23 #[v_a0, .int .i64 a1] w (Rt (RP w (.int .i64 r))) := by
  unfold laws_szRecordSS.sh at H
  refine calls_of_W Tryz.func23 rfl (Nat.le_of_ble_eq_true rfl) Tryz.ntmps23 rfl ?_
  refine W_seq <| W_reg <| L_op (.plain rfl) rfl (ltb rfl) (X_assign (v := (.int .i64 0)) rfl) <| L_nil <| thn_n <| W_seq <| W_reg <| L_op (.plain rfl) rfl (ltb rfl) (X_move (v := (.int .i64 a1)) rfl) <| L_op (.plain rfl) rfl (ltb rfl) (X_move (v := v_a0) rfl) <| L_op (.plain rfl) rfl (ltb rfl) (X_lenR2 Tryz.underlying35 rfl f_a0) <| L_op (.plain rfl) rfl (ltb rfl) (X_sub rfl rfl) <| L_op (.plain rfl) rfl (ltb rfl) (X_assign (v := (.int .i64 (IntKind.wrap .i64 (a1 - (a0.length : Int))))) rfl) <| L_nil <| thn_n <| W_seq <| W_seq <| W_reg <| L_op (.plain rfl) rfl (ltb rfl) (X_move (v := (.int .i64 (IntKind.wrap .i64 (a1 - (a0.length : Int))))) rfl) <| L_op (.plain rfl) rfl (ltb rfl) (X_lss rfl rfl) <| L_nil <| thn_n ?_
  rcases bif_two H with ⟨q1, H⟩ | ⟨q1, H⟩
  · refine W_true (congrArg Value.bool q1) <| W_seq <| W_reg <| L_op (.plain rfl) rfl (ltb rfl) (X_assign (v := (.int .i64 (-1))) rfl) <| L_nil <| thn_n <| W_ret <| thn_r <| fin_r ?_
    obtain rfl := Option.some.inj H
    exact fin1 rfl (Ext.refl w)
  · refine W_false (congrArg Value.bool q1) <| W_skip <| thn_n <| W_seq <| W_seq <| W_reg <| L_op (.plain rfl) rfl (ltb rfl) (X_assign (v := (.int .i64 0)) rfl) <| L_nil <| thn_n ?_
    obtain ⟨z4, L5, C6⟩ := bind_some H
    clear H
    refine  W_cutQ (fun s0 sQ wQ => ∃ (x1_7 : Int), Kp [(1, 2), (4, 6), (12, 26)] s0 sQ ∧ sQ 1 = .int .i64 x1_7 ∧ Ext w wQ ∧ z4 = .inr x1_7) ?_ ?_
    · refine W_block <| W_loopI (fun s0 kk sQ wQ => ∃ (x1_2 : Int) (x5_3 : Int), Kp [(1, 2), (4, 6), (12, 26)] s0 sQ ∧ sQ 1 = .int .i64 x1_2 ∧ sQ 5 = .int .i64 x5_3 ∧ Ext w wQ ∧ loopF (laws_szRecordSS.b1 a0) kk (x1_2, x5_3) = some z4) k ⟨IntKind.wrap .i64 (a1 - (a0.length : Int)), 0, (Kp.refl _ _), rfl, rfl, (Ext.refl w), L5⟩ ?_
      rintro k12 s13 w14 ⟨x1_2, x5_3, K15, h18, h19, e16, L17⟩
      cases k12 with
      | zero => exact absurd L17 (by simp [loopF])
      | succ k12 =>
        obtain ⟨t20, H, S21⟩ := loopF_succ L17
        clear L17
        unfold laws_szRecordSS.b1 at H
        refine W_seq <| W_seq <| W_reg <| L_op (.plain rfl) rfl (ltb rfl) (X_move (v := (.int .i64 x5_3)) h19) <| L_op (.plain rfl) rfl (ltb rfl) (X_move (v := v_a0) (K15 0 rfl)) <| L_op (.plain rfl) rfl (ltb rfl) (X_lenR2 Tryz.underlying35 rfl (Rd2.ext f_a0 e16)) <| L_op (.plain rfl) rfl (ltb rfl) (X_lss rfl rfl) <| L_nil <| thn_n ?_
        rcases bif_two H with ⟨q22, H⟩ | ⟨q22, H⟩
        · refine W_true (congrArg Value.bool q22) <| W_skip <| thn_n <| W_seq <| W_block <| W_seq <| W_reg <| L_op (.plain rfl) rfl (ltb rfl) (X_move (v := v_a0) (K15 0 rfl)) <| L_op (.plain rfl) rfl (ltb rfl) (X_move (v := (.int .i64 x5_3)) h19) ?_
          obtain ⟨c23, H⟩ := bif_some H
          refine L_idx2 (.plain rfl) rfl (ltb rfl) rfl Tryz.underlying35 Tryz.sizeOf22 rfl (Rd2.ext f_a0 e16) rfl c23 <| fun p24 v26 h25 h27 => L_op (.plain rfl) rfl (ltb rfl) (X_loadAt Tryz.isAgg22 rfl h25 rfl) <| L_op (.plain rfl) rfl (ltb rfl) (X_move (v := (.int .i64 x1_2)) h18) ?_
          obtain ⟨c28, H⟩ := bif_some H
          obtain ⟨c29, H⟩ := bif_some H
          obtain ⟨c30, H⟩ := bif_some H
          obtain ⟨c31, H⟩ := bif_some H
          refine L_callP (.plain rfl) rfl (ltb rfl) rfl Tryz.call15 (laws_szRecordS.calls (w := w14) (a0 := gt a0 x5_3) (a1 := x1_2) h27 (of_decide_eq_true c28) (of_decide_eq_true c29) (of_decide_eq_true c30) (of_decide_eq_true c31)) rfl <| fun w32 e33 => L_op (.plain rfl) rfl (ltb rfl) (X_assign (v := (.int .i64 (szRecS (gt a0 x5_3) x1_2))) rfl) <| L_nil <| thn_n <| W_seq <| W_reg <| L_op (.plain rfl) rfl (ltb rfl) (X_move (v := (.int .i64 (szRecS (gt a0 x5_3) x1_2))) rfl) <| L_op (.plain rfl) rfl (ltb rfl) (X_lss rfl rfl) <| L_nil <| thn_n ?_
          rcases bif_two H with ⟨q34, H⟩ | ⟨q34, H⟩
          · refine W_true (congrArg Value.bool q34) <| W_seq <| W_reg <| L_op (.plain rfl) rfl (ltb rfl) (X_assign (v := (.int .i64 (-1))) rfl) <| L_nil <| thn_n <| W_ret <| blk_r <| thn_r <| thn_r <| blk_r <| thn_r <| thn_r <| fin_r ?_
            obtain rfl := Option.some.inj H
            obtain rfl := Option.some.inj S21
            have H := C6
            obtain rfl := Option.some.inj H
            exact fin1 rfl (Ext.trans e16 e33)
          · refine W_false (congrArg Value.bool q34) <| W_skip <| blk_n <| thn_n <| W_reg <| L_op (.plain rfl) rfl (ltb rfl) (X_move (v := (.int .i64 x5_3)) h19) <| L_op (.plain rfl) rfl (ltb rfl) (X_add rfl rfl) <| L_op (.plain rfl) rfl (ltb rfl) (X_assign (v := (.int .i64 (IntKind.wrap .i64 (x5_3 + 1)))) rfl) <| L_nil <| thn_n ?_
            obtain rfl := Option.some.inj H
            exact ⟨_, Nat.lt_succ_self _, (szRecS (gt a0 x5_3) x1_2), IntKind.wrap .i64 (x5_3 + 1), (Kp.upd (Kp.upd (Kp.upd (Kp.upd (Kp.upd (Kp.upd (Kp.upd (Kp.upd (Kp.upd (Kp.upd (Kp.upd (Kp.upd (Kp.upd (Kp.upd (Kp.upd (Kp.upd K15 rfl) rfl) rfl) rfl) rfl) rfl) rfl) rfl) rfl) rfl) rfl) rfl) rfl) rfl) rfl) rfl), rfl, rfl, (Ext.trans e16 e33), S21⟩
        · refine W_false (congrArg Value.bool q22) <| W_exit <| thn_x <| thn_x <| blk_x <| thn_n ?_
          obtain rfl := Option.some.inj H
          obtain rfl := Option.some.inj S21
          exact ⟨x1_2, (Kp.upd (Kp.upd (Kp.upd (Kp.upd K15 rfl) rfl) rfl) rfl), h18, e16, rfl⟩
    · rintro s9 w8 ⟨x1_7, K10, h35, e11, y36⟩
      rw [y36] at C6
      have H := C6
      replace H : _ = some _ := H
      refine thn_n <| W_seq <| W_reg <| L_op (.plain rfl) rfl (ltb rfl) (X_move (v := (.int .i64 x1_7)) h35) <| L_op (.plain rfl) rfl (ltb rfl) (X_assign (v := (.int .i64 x1_7)) rfl) <| L_nil <| thn_n <| W_ret <| fin_r ?_
      obtain rfl := Option.some.inj H
      exact fin1 rfl e11
theorem laws_szRecordSS.calls {w : World} {a0 : List (List Rec)} {a1 : Int} {v_a0 : Value} (f_a0 : Rd2 5 encRec w v_a0 a0) (h0 : (0 : Int) ≤ a1) (h1 : (a1 : Int) ≤ 1048576) (h2 : a0.length ≤ 9223372036854775807) (h3 : ∀ l ∈ a0, l.length ≤ 9223372036854775807) (h4 : ∀ l ∈ a0, ∀ x ∈ l, okRec x) :
    Calls Tryz.prog 23 #[v_a0, .int .i64 a1] w (Rt (RP w (.int .i64 (szRecSS a0 a1)))) := by
  obtain ⟨k, h⟩ := laws_szRecordSS.eq a0 a1 h0 h1 h2 h3 h4
  exact laws_szRecordSS.walk f_a0 h
/-! laws.toRecordSS -/
theorem laws_toRecordSS.walk {k : Nat} {w : World} {a0 : List (List Rec)} {v_a0 : Value} (f_a0 : Rd2 5 encRec w v_a0 a0) {r : List (List Rec)} (H : laws_toRecordSS.sh k a0 = some r) :
    Calls Tryz.prog 25 #[v_a0] w (Rt (ROS 28 78 5 encRec w r)) := by
  unfold laws_toRecordSS.sh at H
  refine calls_of_W Tryz.func25 rfl (Nat.le_of_ble_eq_true rfl) Tryz.ntmps25 rfl ?_
  refine W_seq <| W_reg <| L_op (.plain rfl) rfl (ltb rfl) (X_assign (v := (.slice none 0 0)) rfl) <| L_nil <| thn_n <| W_seq <| W_reg <| L_op (.plain rfl) rfl (ltb rfl) (X_move (v := v_a0) rfl) <| L_op (.plain rfl) rfl (ltb rfl) (X_lenR2 Tryz.underlying35 rfl f_a0) ?_
  obtain ⟨c1, H⟩ := bif_some H
  refine L_make (enc := encV) (zr := .slice none 0 0) (n := a0.length) (.plain rfl) rfl (ltb rfl) rfl El.t39 rfl rfl rfl (of_decide_eq_true c1) (Nat.le_refl _) <| fun b2 w3 z4 z5 e6 o7 => L_op (.plain rfl) rfl (ltb rfl) (X_assign (v := (.slice (some ⟨b2, 0, none⟩) a0.length a0.length)) rfl) <| L_nil <| thn_n <| W_seq <| W_seq <| W_reg <| L_op (.plain rfl) rfl (ltb rfl) (X_assign (v := (.int .i64 0)) rfl) <| L_nil <| thn_n ?_
  obtain ⟨z10, L11, C12⟩ := bind_some H
  clear H
  refine  W_cutQ (fun s0 sQ wQ => ∃ (y13 : List (List Rec)), Kp [(4, 5), (8, 22)] s0 sQ ∧ Own2 28 78 5 encRec w.heap.size wQ (.slice (some ⟨b2, 0, none⟩) a0.length a0.length) y13 ∧ Ext w wQ ∧ z10 = .inr y13) ?_ ?_
  · refine W_block <| W_loopI (fun s0 kk sQ wQ => ∃ (x4_8 : Int) (y9 : List (List Rec)), Kp [(4, 5), (8, 22)] s0 sQ ∧ sQ 4 = .int .i64 x4_8 ∧ Own2 28 78 5 encRec w.heap.size wQ (.slice (some ⟨b2, 0, none⟩) a0.length a0.length) y9 ∧ Ext w wQ ∧ loopF (laws_toRecordSS.b1 a0) kk (x4_8, y9) = some z10) k ⟨0, List.replicate a0.length ([] : List Rec), (Kp.refl _ _), rfl, (Own2.made o7), e6, L11⟩ ?_
    rintro k18 s19 w20 ⟨x4_8, y9, K21, h24, h25, e22, L23⟩
    cases k18 with
    | zero => exact absurd L23 (by simp [loopF])
    | succ k18 =>
      obtain ⟨t26, H, S27⟩ := loopF_succ L23
      clear L23
      unfold laws_toRecordSS.b1 at H
      refine W_seq <| W_seq <| W_reg <| L_op (.plain rfl) rfl (ltb rfl) (X_move (v := (.int .i64 x4_8)) h24) <| L_op (.plain rfl) rfl (ltb rfl) (X_move (v := v_a0) (K21 0 rfl)) <| L_op (.plain rfl) rfl (ltb rfl) (X_lenR2 Tryz.underlying35 rfl (Rd2.ext f_a0 e22)) <| L_op (.plain rfl) rfl (ltb rfl) (X_lss rfl rfl) <| L_nil <| thn_n ?_
      rcases bif_two H with ⟨q28, H⟩ | ⟨q28, H⟩
      · refine W_true (congrArg Value.bool q28) <| W_skip <| thn_n <| W_seq <| W_block <| W_reg <| L_op (.plain rfl) rfl (ltb rfl) (X_move (v := (.slice (some ⟨b2, 0, none⟩) a0.length a0.length)) (K21 3 rfl)) <| L_op (.plain rfl) rfl (ltb rfl) (X_move (v := (.int .i64 x4_8)) h24) <| L_op (.plain rfl) rfl (ltb rfl) (X_move (v := v_a0) (K21 0 rfl)) <| L_op (.plain rfl) rfl (ltb rfl) (X_move (v := (.int .i64 x4_8)) h24) ?_
        obtain ⟨c29, H⟩ := bif_some H
        refine L_idx2 (.plain rfl) rfl (ltb rfl) rfl Tryz.underlying35 Tryz.sizeOf22 rfl (Rd2.ext f_a0 e22) rfl c29 <| fun p30 v32 h31 h33 => L_op (.plain rfl) rfl (ltb rfl) (X_loadAt Tryz.isAgg22 rfl h31 rfl) ?_
        obtain ⟨c34, H⟩ := bif_some H
        refine L_callO (.plain rfl) rfl (ltb rfl) rfl Tryz.call18 (laws_toRecordS.calls (w := w20) (a0 := gt a0 x4_8) h33 (of_decide_eq_true c34)) rfl <| fun v37 w35 e36 o38 => ?_
        obtain ⟨c39, H⟩ := bif_some H
        refine L_idxO2 (.plain rfl) rfl (ltb rfl) rfl Tryz.underlying39 Tryz.sizeOf28 rfl (Own2.ext h25 e36) rfl c39 <| fun p40 h41 => L_storeO2s (.plain rfl) rfl rfl Tryz.sizeOf28 rfl h41 rfl o38 (e22).size h25 e36 (Nat.le_refl _) <| fun b42 w43 h44 h45 h46 o47 o48 => L_nil <| blk_n <| thn_n <| W_reg <| L_op (.plain rfl) rfl (ltb rfl) (X_move (v := (.int .i64 x4_8)) h24) <| L_op (.plain rfl) rfl (ltb rfl) (X_add rfl rfl) <| L_op (.plain rfl) rfl (ltb rfl) (X_assign (v := (.int .i64 (IntKind.wrap .i64 (x4_8 + 1)))) rfl) <| L_nil <| thn_n ?_
        obtain rfl := Option.some.inj H
        exact ⟨_, Nat.lt_succ_self _, IntKind.wrap .i64 (x4_8 + 1), setI y9 x4_8 (gt a0 x4_8), (Kp.upd (Kp.upd (Kp.upd (Kp.upd (Kp.upd (Kp.upd (Kp.upd (Kp.upd (Kp.upd (Kp.upd (Kp.upd (Kp.upd (Kp.upd (Kp.upd (Kp.upd K21 rfl) rfl) rfl) rfl) rfl) rfl) rfl) rfl) rfl) rfl) rfl) rfl) rfl) rfl) rfl), rfl, o47, (Ext.wr (Ext.trans e22 e36) h46 h45 (Nat.le_refl _)), S27⟩
      · refine W_false (congrArg Value.bool q28) <| W_exit <| thn_x <| thn_x <| blk_x <| thn_n ?_
        obtain rfl := Option.some.inj H
        obtain rfl := Option.some.inj S27
        exact ⟨y9, (Kp.upd (Kp.upd (Kp.upd (Kp.upd K21 rfl) rfl) rfl) rfl), h25, e22, rfl⟩
  · rintro s15 w14 ⟨y13, K16, h49, e17, y50⟩
    rw [y50] at C12
    have H := C12
    replace H : _ = some _ := H
    refine thn_n <| W_seq <| W_reg <| L_op (.plain rfl) rfl (ltb rfl) (X_move (v := (.slice (some ⟨b2, 0, none⟩) a0.length a0.length)) (K16 3 rfl)) <| L_op (.plain rfl) rfl (ltb rfl) (X_assign (v := (.slice (some ⟨b2, 0, none⟩) a0.length a0.length)) rfl) <| L_nil <| thn_n <| W_ret <| fin_r ?_
    obtain rfl := Option.some.inj H
    exact fin1os rfl e17 h49 ((Ext.refl w)).size
theorem laws_toRecordSS.calls {w : World} {a0 : List (List Rec)} {v_a0 : Value} (f_a0 : Rd2 5 encRec w v_a0 a0) (h0 : a0.length ≤ 1048576) (h1 : ∀ l ∈ a0, l.length ≤ 1048576) :
    Calls Tryz.prog 25 #[v_a0] w (Rt (ROS 28 78 5 encRec w a0)) := by
  obtain ⟨k, h⟩ := laws_toRecordSS.eq a0 h0 h1
  exact laws_toRecordSS.walk f_a0 h
/-! spec.l05Stack -/
theorem spec_l05Stack.walk {k : Nat} {w : World} {a0 : List (List Rec)} {v_a0 : Value} (f_a0 : Rd2 5 encRec w v_a0 a0) {r : Bool} (H : spec_l05Stack.sh k a0 = some r) :
    Calls Tryz.prog 77 #[v_a0] w (Rt (RP w (.bool r))) := by
  unfold spec_l05Stack.sh at H
  refine calls_of_W Tryz.func77 rfl (Nat.le_of_ble_eq_true rfl) Tryz.ntmps77 rfl ?_
  refine W_seq <| W_reg <| L_op (.plain rfl) rfl (ltb rfl) (X_assign (v := (.bool false)) rfl) <| L_nil <| thn_n <| W_seq <| W_seq <| W_reg <| L_op (.plain rfl) rfl (ltb rfl) (X_move (v := v_a0) rfl) <| L_op (.plain rfl) rfl (ltb rfl) (X_lenR2 Tryz.underlying39 rfl f_a0) <| L_op (.plain rfl) rfl (ltb rfl) (X_gtr rfl rfl) <| L_nil <| thn_n ?_
  rcases bif_two H with ⟨q1, H⟩ | ⟨q1, H⟩
  · refine W_true (congrArg Value.bool q1) <| W_seq <| W_reg <| L_op (.plain rfl) rfl (ltb rfl) (X_assign (v := (.bool false)) rfl) <| L_nil <| thn_n <| W_ret <| thn_r <| fin_r ?_
    obtain rfl := Option.some.inj H
    exact fin1 rfl (Ext.refl w)
  · refine W_false (congrArg Value.bool q1) <| W_skip <| thn_n <| W_seq <| W_seq <| W_reg <| L_op (.plain rfl) rfl (ltb rfl) (X_assign (v := (.int .i64 0)) rfl) <| L_nil <| thn_n ?_
    obtain ⟨z3, L4, C5⟩ := bind_some H
    clear H
    refine  W_cutQ (fun s0 sQ wQ => Kp [(2, 4), (7, 19)] s0 sQ ∧ Ext w wQ ∧ z3 = .inr ()) ?_ ?_
    · refine W_block <| W_loopI (fun s0 kk sQ wQ => ∃ (x3_2 : Int), Kp [(2, 4), (7, 19)] s0 sQ ∧ sQ 3 = .int .i64 x3_2 ∧ Ext w wQ ∧ loopF (spec_l05Stack.b1 a0) kk x3_2 = some z3) k ⟨0, (Kp.refl _ _), rfl, (Ext.refl w), L4⟩ ?_
      rintro k10 s11 w12 ⟨x3_2, K13, h16, e14, L15⟩
      cases k10 with
      | zero => exact absurd L15 (by simp [loopF])
      | succ k10 =>
        obtain ⟨t17, H, S18⟩ := loopF_succ L15
        clear L15
        unfold spec_l05Stack.b1 at H
        refine W_seq <| W_seq <| W_reg <| L_op (.plain rfl) rfl (ltb rfl) (X_move (v := (.int .i64 x3_2)) h16) <| L_op (.plain rfl) rfl (ltb rfl) (X_move (v := v_a0) (K13 0 rfl)) <| L_op (.plain rfl) rfl (ltb rfl) (X_lenR2 Tryz.underlying39 rfl (Rd2.ext f_a0 e14)) <| L_op (.plain rfl) rfl (ltb rfl) (X_lss rfl rfl) <| L_nil <| thn_n ?_
        rcases bif_two H with ⟨q19, H⟩ | ⟨q19, H⟩
        · refine W_true (congrArg Value.bool q19) <| W_skip <| thn_n <| W_seq <| W_block <| W_seq <| W_reg <| L_op (.plain rfl) rfl (ltb rfl) (X_move (v := v_a0) (K13 0 rfl)) <| L_op (.plain rfl) rfl (ltb rfl) (X_move (v := (.int .i64 x3_2)) h16) ?_
          obtain ⟨c20, H⟩ := bif_some H
          refine L_idx2 (.plain rfl) rfl (ltb rfl) rfl Tryz.underlying39 Tryz.sizeOf28 rfl (Rd2.ext f_a0 e14) rfl c20 <| fun p21 v23 h22 h24 => L_op (.plain rfl) rfl (ltb rfl) (X_loadAt Tryz.isAgg28 rfl h22 rfl) ?_
          obtain ⟨c25, H⟩ := bif_some H
          obtain ⟨c26, H⟩ := bif_some H
          refine L_callP (.plain rfl) rfl (ltb rfl) rfl Tryz.call62 (spec_l03OK.calls (w := w12) (a0 := gt a0 x3_2) h24 (of_decide_eq_true c25) (of_decide_eq_true c26)) rfl <| fun w27 e28 => L_op (.plain rfl) rfl (ltb rfl) (X_not rfl) <| L_nil <| thn_n ?_
          rcases bif_two H with ⟨q29, H⟩ | ⟨q29, H⟩
          · refine W_true (congrArg Value.bool q29) <| W_seq <| W_reg <| L_op (.plain rfl) rfl (ltb rfl) (X_assign (v := (.bool false)) rfl) <| L_nil <| thn_n <| W_ret <| blk_r <| thn_r <| thn_r <| blk_r <| thn_r <| thn_r <| fin_r ?_
            obtain rfl := Option.some.inj H
            obtain rfl := Option.some.inj S18
            have H := C5
            obtain rfl := Option.some.inj H
            exact fin1 rfl (Ext.trans e14 e28)
          · refine W_false (congrArg Value.bool q29) <| W_skip <| blk_n <| thn_n <| W_reg <| L_op (.plain rfl) rfl (ltb rfl) (X_move (v := (.int .i64 x3_2)) h16) <| L_op (.plain rfl) rfl (ltb rfl) (X_add rfl rfl) <| L_op (.plain rfl) rfl (ltb rfl) (X_assign (v := (.int .i64 (IntKind.wrap .i64 (x3_2 + 1)))) rfl) <| L_nil <| thn_n ?_
            obtain rfl := Option.some.inj H
            exact ⟨_, Nat.lt_succ_self _, IntKind.wrap .i64 (x3_2 + 1), (Kp.upd (Kp.upd (Kp.upd (Kp.upd (Kp.upd (Kp.upd (Kp.upd (Kp.upd (Kp.upd (Kp.upd (Kp.upd (Kp.upd (Kp.upd K13 rfl) rfl) rfl) rfl) rfl) rfl) rfl) rfl) rfl) rfl) rfl) rfl) rfl), rfl, (Ext.trans e14 e28), S18⟩
        · refine W_false (congrArg Value.bool q19) <| W_exit <| thn_x <| thn_x <| blk_x <| thn_n ?_
          obtain rfl := Option.some.inj H
          obtain rfl := Option.some.inj S18
          exact ⟨(Kp.upd (Kp.upd (Kp.upd (Kp.upd K13 rfl) rfl) rfl) rfl), e14, rfl⟩
    · rintro s7 w6 ⟨K8, e9, y30⟩
      rw [y30] at C5
      have H := C5
      replace H : _ = some _ := H
      refine thn_n <| W_seq <| W_reg <| L_op (.plain rfl) rfl (ltb rfl) (X_assign (v := (.bool true)) rfl) <| L_nil <| thn_n <| W_ret <| fin_r ?_
      obtain rfl := Option.some.inj H
      exact fin1 rfl e9
theorem spec_l05Stack.calls {w : World} {a0 : List (List Rec)} {v_a0 : Value} (f_a0 : Rd2 5 encRec w v_a0 a0) (h0 : a0.length ≤ 1048576) (h1 : ∀ l ∈ a0, l.length ≤ 1048576) (h2 : ∀ l ∈ a0, ∀ x ∈ l, x.path.length ≤ 1048576) :
    Calls Tryz.prog 77 #[v_a0] w (Rt (RP w (.bool (stackOK a0)))) := by
  obtain ⟨k, h⟩ := spec_l05Stack.eq a0 h0 h1 h2
  exact spec_l05Stack.walk f_a0 h
/-! impl.all(()impl.Record)$1 -/
theorem impl_allSS_1.walk {w : World} {a0 : List Rec} {a1 : List Rec → Option Bool} {v_a0 : Value} (f_a0 : Rd 5 encRec w v_a0 a0) {v_a1 : Value} (f_a1 : ∀ (x0 : List Rec) (r : Bool), a1 x0 = some r → ∀ (u0 : Value) (wR : World), Ext w wR → Rd 5 encRec wR u0 x0 → FnAt Tryz.prog wR v_a1 [u0] (.bool r)) (g_a1 : v_a1.cells = #[v_a1]) {b_a1 : Nat} (k_a1 : Blk w b_a1 #[v_a1] 75) {r : Bool} (H : impl_allSS_1.sh a0 a1 = some r) :
    Calls Tryz.prog 178 #[v_a0, .pointer (some ⟨b_a1, 0, none⟩)] w (Rt (RP w (.bool r))) := by
  unfold impl_allSS_1.sh at H
  refine calls_of_W Tryz.func178 rfl (Nat.le_of_ble_eq_true rfl) Tryz.ntmps178 rfl ?_
  refine W_seq <| W_reg <| L_op (.plain rfl) rfl (ltb rfl) (X_assign (v := (.bool false)) rfl) <| L_nil <| thn_n <| W_seq <| W_reg <| L_op (.plain rfl) rfl (ltb rfl) (X_loadB Tryz.isAgg75 k_a1 rfl rfl) <| L_op (.plain rfl) rfl (ltb rfl) (X_move (v := v_a0) rfl) ?_
  obtain ⟨z1, x2, H⟩ := bind_some H
  refine L_callF (.plain rfl) rfl (ltb rfl) rfl rfl (f_a1 _ _ x2 v_a0 w (Ext.refl w) f_a0) rfl <| fun w3 e4 => L_op (.plain rfl) rfl (ltb rfl) (X_not rfl) <| L_op (.plain rfl) rfl (ltb rfl) (X_assign (v := (.bool (!z1))) rfl) <| L_nil <| thn_n <| W_ret <| fin_r ?_
  obtain rfl := Option.some.inj H
  exact fin1 rfl e4
theorem impl_allSS_1.calls {w : World} {a0 : List Rec} {a1 : List Rec → Option Bool} {r : Bool} {v_a0 : Value} (f_a0 : Rd 5 encRec w v_a0 a0) {v_a1 : Value} (f_a1 : ∀ (x0 : List Rec) (r : Bool), a1 x0 = some r → ∀ (u0 : Value) (wR : World), Ext w wR → Rd 5 encRec wR u0 x0 → FnAt Tryz.prog wR v_a1 [u0] (.bool r)) (g_a1 : v_a1.cells = #[v_a1]) {b_a1 : Nat} (k_a1 : Blk w b_a1 #[v_a1] 75) (H : ((a1 a0).map (!·)) = some r) :
    Calls Tryz.prog 178 #[v_a0, .pointer (some ⟨b_a1, 0, none⟩)] w (Rt (RP w (.bool r))) := impl_allSS_1.walk f_a0 f_a1 g_a1 k_a1 (impl_allSS_1.eq a0 a1 H)
/-! slices.IndexFunc(()()impl.Record,()impl.Record) -/
theorem slices_IndexFuncSS.walk {k : Nat} {w : World} {a0 : List (List Rec)} {a1 : List Rec → Option Bool} {v_a0 : Value} (f_a0 : Rd2 5 encRec w v_a0 a0) {v_a1 : Value} (f_a1 : ∀ (x0 : List Rec) (r : Bool), a1 x0 = some r → ∀ (u0 : Value) (wR : World), Ext w wR → Rd 5 encRec wR u0 x0 → FnAt Tryz.prog wR v_a1 [u0] (.bool r)) (g_a1 : v_a1.cells = #[v_a1]) {r : Int} (H : slices_IndexFuncSS.sh k a0 a1 = some r) :
    Calls Tryz.prog 208 #[v_a0, v_a1] w (Rt (RP w (.int .i64 r))) := by
  unfold slices_IndexFuncSS.sh at H
  refine calls_of_W Tryz.func208 rfl (Nat.le_of_ble_eq_true rfl) Tryz.ntmps208 rfl ?_
  refine W_seq <| W_reg <| L_op (.plain rfl) rfl (ltb rfl) (X_assign (v := (.int .i64 0)) rfl) <| L_nil <| thn_n <| W_seq <| W_seq <| W_reg <| L_op (.plain rfl) rfl (ltb rfl) (X_move (v := v_a0) rfl) <| L_op (.plain rfl) rfl (ltb rfl) (X_lenR2 Tryz.underlying39 rfl f_a0) <| L_op (.plain rfl) rfl (ltb rfl) (X_move (v := (.int .i64 0)) rfl) <| L_nil <| thn_n ?_
  obtain ⟨z2, L3, C4⟩ := bind_some H
  clear H
  refine  W_cutQ (fun s0 sQ wQ => Kp [(4, 6), (8, 19)] s0 sQ ∧ Ext w wQ ∧ z2 = .inr ()) ?_ ?_
  · refine W_block <| W_loopI (fun s0 kk sQ wQ => ∃ (x8_1 : Int), Kp [(4, 6), (8, 19)] s0 sQ ∧ sQ 8 = .int .i64 x8_1 ∧ Ext w wQ ∧ loopF (slices_IndexFuncSS.b1 a0 a1) kk x8_1 = some z2) k ⟨0, (Kp.refl _ _), rfl, (Ext.refl w), L3⟩ ?_
    rintro k9 s10 w11 ⟨x8_1, K12, h15, e13, L14⟩
    cases k9 with
    | zero => exact absurd L14 (by simp [loopF])
    | succ k9 =>
      obtain ⟨t16, H, S17⟩ := loopF_succ L14
      clear L14
      unfold slices_IndexFuncSS.b1 at H
      refine W_seq <| W_reg <| L_op (.plain rfl) rfl (ltb rfl) (X_lss h15 (K12 7 rfl)) <| L_nil <| thn_n <| W_seq ?_
      rcases bif_two H with ⟨q18, H⟩ | ⟨q18, H⟩
      · refine W_true (congrArg Value.bool q18) <| W_skip <| thn_n <| W_seq <| W_block <| W_seq <| W_reg <| L_op (.plain rfl) rfl (ltb rfl) (X_move (v := (.int .i64 x8_1)) h15) <| L_op (.plain rfl) rfl (ltb rfl) (X_assign (v := (.int .i64 x8_1)) rfl) <| L_nil <| thn_n <| W_seq <| W_reg <| L_op (.plain rfl) rfl (ltb rfl) (X_move (v := v_a1) (K12 1 rfl)) <| L_op (.plain rfl) rfl (ltb rfl) (X_move (v := v_a0) (K12 0 rfl)) <| L_op (.plain rfl) rfl (ltb rfl) (X_move (v := (.int .i64 x8_1)) rfl) ?_
        obtain ⟨c19, H⟩ := bif_some H
        refine L_idx2 (.plain rfl) rfl (ltb rfl) rfl Tryz.underlying39 Tryz.sizeOf28 rfl (Rd2.ext f_a0 e13) rfl c19 <| fun p20 v22 h21 h23 => L_op (.plain rfl) rfl (ltb rfl) (X_loadAt Tryz.isAgg28 rfl h21 rfl) ?_
        obtain ⟨z24, x25, H⟩ := bind_some H
        refine L_callF (.plain rfl) rfl (ltb rfl) rfl rfl (f_a1 _ _ x25 v22 w11 e13 h23) rfl <| fun w26 e27 => L_nil <| thn_n ?_
        rcases bif_two H with ⟨q28, H⟩ | ⟨q28, H⟩
        · refine W_true (congrArg Value.bool q28) <| W_seq <| W_reg <| L_op (.plain rfl) rfl (ltb rfl) (X_move (v := (.int .i64 x8_1)) rfl) <| L_op (.plain rfl) rfl (ltb rfl) (X_assign (v := (.int .i64 x8_1)) rfl) <| L_nil <| thn_n <| W_ret <| blk_r <| thn_r <| thn_r <| blk_r <| thn_r <| thn_r <| fin_r ?_
          obtain rfl := Option.some.inj H
          obtain rfl := Option.some.inj S17
          have H := C4
          obtain rfl := Option.some.inj H
          exact fin1 rfl (Ext.trans e13 e27)
        · refine W_false (congrArg Value.bool q28) <| W_skip <| blk_n <| thn_n <| W_reg <| L_op (.plain rfl) rfl (ltb rfl) (X_add h15 rfl) <| L_op (.plain rfl) rfl (ltb rfl) (X_move (v := (.int .i64 (IntKind.wrap .i64 (x8_1 + 1)))) rfl) <| L_nil <| thn_n ?_
          obtain rfl := Option.some.inj H
          exact ⟨_, Nat.lt_succ_self _, IntKind.wrap .i64 (x8_1 + 1), (Kp.upd (Kp.upd (Kp.upd (Kp.upd (Kp.upd (Kp.upd (Kp.upd (Kp.upd (Kp.upd (Kp.upd (Kp.upd K12 rfl) rfl) rfl) rfl) rfl) rfl) rfl) rfl) rfl) rfl) rfl), rfl, (Ext.trans e13 e27), S17⟩
      · refine W_false (congrArg Value.bool q18) <| W_exit <| thn_x <| thn_x <| blk_x <| thn_n ?_
        obtain rfl := Option.some.inj H
        obtain rfl := Option.some.inj S17
        exact ⟨(Kp.upd K12 rfl), e13, rfl⟩
  · rintro s6 w5 ⟨K7, e8, y29⟩
    rw [y29] at C4
    have H := C4
    replace H : _ = some _ := H
    refine thn_n <| W_seq <| W_reg <| L_op (.plain rfl) rfl (ltb rfl) (X_assign (v := (.int .i64 (-1))) rfl) <| L_nil <| thn_n <| W_ret <| fin_r ?_
    obtain rfl := Option.some.inj H
    exact fin1 rfl e8
theorem slices_IndexFuncSS.calls {w : World} {a0 : List (List Rec)} {a1 : List Rec → Option Bool} {r : Int} {v_a0 : Value} (f_a0 : Rd2 5 encRec w v_a0 a0) {v_a1 : Value} (f_a1 : ∀ (x0 : List Rec) (r : Bool), a1 x0 = some r → ∀ (u0 : Value) (wR : World), Ext w wR → Rd 5 encRec wR u0 x0 → FnAt Tryz.prog wR v_a1 [u0] (.bool r)) (g_a1 : v_a1.cells = #[v_a1]) (h0 : a0.length ≤ 4611686018427387904) (H : (idxO a1 a0) = some r) :
    Calls Tryz.prog 208 #[v_a0, v_a1] w (Rt (RP w (.int .i64 r))) := by
  obtain ⟨k, h⟩ := slices_IndexFuncSS.eq a0 a1 h0 H
  exact slices_IndexFuncSS.walk f_a0 f_a1 g_a1 h
/-! slices.ContainsFunc(()()impl.Record,()impl.Record) -/
theorem slices_ContainsFuncSS.walk {w : World} {a0 : List (List Rec)} {a1 : List Rec → Option Bool} {v_a0 : Value} (f_a0 : Rd2 5 encRec w v_a0 a0) {v_a1 : Value} (f_a1 : ∀ (x0 : List Rec) (r : Bool), a1 x0 = some r → ∀ (u0 : Value) (wR : World), Ext w wR → Rd 5 encRec wR u0 x0 → FnAt Tryz.prog wR v_a1 [u0] (.bool r)) (g_a1 : v_a1.cells = #[v_a1]) {r : Bool} (H : slices_ContainsFuncSS.sh a0 a1 = some r) :
    Calls Tryz.prog 177 #[v_a0, v_a1] w (Rt (RP w (.bool r))) := by
  unfold slices_ContainsFuncSS.sh at H
  refine calls_of_W Tryz.func177 rfl (Nat.le_of_ble_eq_true rfl) Tryz.ntmps177 rfl ?_
  refine W_seq <| W_reg <| L_op (.plain rfl) rfl (ltb rfl) (X_assign (v := (.bool false)) rfl) <| L_nil <| thn_n <| W_seq <| W_reg <| L_op (.plain rfl) rfl (ltb rfl) (X_move (v := v_a0) rfl) <| L_op (.plain rfl) rfl (ltb rfl) (X_move (v := v_a1) rfl) ?_
  obtain ⟨c1, H⟩ := bif_some H
  obtain ⟨z2, x3, H⟩ := bind_some H
  refine L_callP (.plain rfl) rfl (ltb rfl) rfl Tryz.call208 (slices_IndexFuncSS.calls (w := w) (a0 := a0) (a1 := a1) f_a0 (fun x0 r h u0 wR kR q0 => f_a1 x0 r h u0 wR (Ext.trans (Ext.refl w) kR) q0) g_a1 (of_decide_eq_true c1) x3) rfl <| fun w4 e5 => L_op (.plain rfl) rfl (ltb rfl) (X_geq rfl rfl) <| L_op (.plain rfl) rfl (ltb rfl) (X_assign (v := (.bool (decide (0 ≤ z2)))) rfl) <| L_nil <| thn_n <| W_ret <| fin_r ?_
  obtain rfl := Option.some.inj H
  exact fin1 rfl e5
theorem slices_ContainsFuncSS.calls {w : World} {a0 : List (List Rec)} {a1 : List Rec → Option Bool} {r : Bool} {v_a0 : Value} (f_a0 : Rd2 5 encRec w v_a0 a0) {v_a1 : Value} (f_a1 : ∀ (x0 : List Rec) (r : Bool), a1 x0 = some r → ∀ (u0 : Value) (wR : World), Ext w wR → Rd 5 encRec wR u0 x0 → FnAt Tryz.prog wR v_a1 [u0] (.bool r)) (g_a1 : v_a1.cells = #[v_a1]) (h0 : a0.length ≤ 4611686018427387904) (H : (anyO a1 a0) = some r) :
    Calls Tryz.prog 177 #[v_a0, v_a1] w (Rt (RP w (.bool r))) := slices_ContainsFuncSS.walk f_a0 f_a1 g_a1 (slices_ContainsFuncSS.eq a0 a1 h0 H)
/-! impl.all(()impl.Record) -/
theorem impl_allSS.walk {w : World} {a0 : List (List Rec)} {a1 : List Rec → Option Bool} {v_a0 : Value} (f_a0 : Rd2 5 encRec w v_a0 a0) {v_a1 : Value} (f_a1 : ∀ (x0 : List Rec) (r : Bool), a1 x0 = some r → ∀ (u0 : Value) (wR : World), Ext w wR → Rd 5 encRec wR u0 x0 → FnAt Tryz.prog wR v_a1 [u0] (.bool r)) (g_a1 : v_a1.cells = #[v_a1]) {r : Bool} (H : impl_allSS.sh a0 a1 = some r) :
    Calls Tryz.prog 126 #[v_a0, v_a1] w (Rt (RP w (.bool r))) := by
  unfold impl_allSS.sh at H
  refine calls_of_W Tryz.func126 rfl (Nat.le_of_ble_eq_true rfl) Tryz.ntmps126 rfl ?_
  refine W_seq <| W_reg <| L_box (.plain rfl) rfl (ltb rfl) rfl rfl <| fun b1 w2 z3 z4 e5 k6 => L_op (.plain rfl) rfl (ltb rfl) (X_assign (v := (.bool false)) rfl) <| L_nil <| thn_n <| W_seq <| W_reg <| L_op (.plain rfl) rfl (ltb rfl) (X_move (v := v_a0) rfl) <| L_op (.plain rfl) rfl (ltb rfl) (X_makeFunc (vs := #[]) (us := #[.pointer (some ⟨b1, 0, none⟩)]) rfl rfl) ?_
  obtain ⟨c11, H⟩ := bif_some H
  obtain ⟨z12, x13, H⟩ := bind_some H
  refine L_callP (.plain rfl) rfl (ltb rfl) rfl Tryz.call177 (slices_ContainsFuncSS.calls (w := w2) (a0 := a0) (a1 := (fun (x0_ : List Rec) => ((a1 x0_).map (!·)))) (Rd2.ext f_a0 e5) (fun x0_ r h ux0_ w7 k8 hx0_ => by exact FnAt.mk Tryz.call178 (by rfl) fun w9 k10 => impl_allSS_1.calls (w := w9) (a0 := x0_) (a1 := a1) (Rd.ext hx0_ k10) (fun x0 r h u0 wR kR q0 => f_a1 x0 r h u0 wR (Ext.trans (Ext.trans (Ext.trans e5 k8) k10) kR) q0) g_a1 (Blk.ext (Blk.cs k6 g_a1) (Ext.trans k8 k10)) h) rfl (of_decide_eq_true c11) x13) rfl <| fun w14 e15 => L_op (.plain rfl) rfl (ltb rfl) (X_not rfl) <| L_op (.plain rfl) rfl (ltb rfl) (X_assign (v := (.bool (!z12))) rfl) <| L_nil <| thn_n <| W_ret <| fin_r ?_
  obtain rfl := Option.some.inj H
  exact fin1 rfl (Ext.trans e5 e15)
theorem impl_allSS.calls {w : World} {a0 : List (List Rec)} {a1 : List Rec → Option Bool} {r : Bool} {v_a0 : Value} (f_a0 : Rd2 5 encRec w v_a0 a0) {v_a1 : Value} (f_a1 : ∀ (x0 : List Rec) (r : Bool), a1 x0 = some r → ∀ (u0 : Value) (wR : World), Ext w wR → Rd 5 encRec wR u0 x0 → FnAt Tryz.prog wR v_a1 [u0] (.bool r)) (g_a1 : v_a1.cells = #[v_a1]) (h0 : a0.length ≤ 4611686018427387904) (H : (allO a1 a0) = some r) :
    Calls Tryz.prog 126 #[v_a0, v_a1] w (Rt (RP w (.bool r))) := impl_allSS.walk f_a0 f_a1 g_a1 (impl_allSS.eq a0 a1 h0 H)
/-! impl.StackOK -/
theorem impl_StackOK.walk {w : World} {a0 : List (List Rec)} (gv : GV 0 w) {v_a0 : Value} (f_a0 : Rd2 5 encRec w v_a0 a0) {r : Bool} (H : impl_StackOK.sh a0 = some r) :
    Calls Tryz.prog 83 #[v_a0] w (Rt (RP w (.bool r))) := by
  unfold impl_StackOK.sh at H
  refine calls_of_W Tryz.func83 rfl (Nat.le_of_ble_eq_true rfl) Tryz.ntmps83 rfl ?_
  refine W_seq <| W_reg <| L_op (.plain rfl) rfl (ltb rfl) (X_assign (v := (.bool false)) rfl) <| L_nil <| thn_n <| W_seq <| W_reg <| L_op (.plain rfl) rfl (ltb rfl) (X_move (v := v_a0) rfl) <| L_op (.plain rfl) rfl (ltb rfl) (X_lenR2 Tryz.underlying39 rfl f_a0) <| L_op (.plain rfl) rfl (ltb rfl) (X_leq rfl rfl) <| L_op (.plain rfl) rfl (ltb rfl) (X_move (v := (.bool (decide ((a0.length : Int) ≤ 5)))) rfl) ?_
  obtain ⟨z2, x3, H⟩ := bind_some H
  refine L_grpE 3 [(7, 10)] 9 (fun q => q = z2) ?_ ?_
  · rcases bif_two x3 with ⟨b0_, H⟩ | ⟨b0_, H⟩
    · refine L_op (.guard 3 true 6 rfl rfl (ltb rfl) (congrArg Value.bool b0_)) rfl (ltb rfl) (X_move (v := v_a0) rfl) ?_
      obtain ⟨c6, H⟩ := bif_some H
      obtain ⟨z7, x8, H⟩ := bind_some H
      refine L_callP (.guard 3 true 6 rfl rfl (ltb rfl) (congrArg Value.bool b0_)) rfl (ltb rfl) rfl Tryz.call126 (impl_allSS.calls (w := w) (a0 := a0) (a1 := (fun (x0_ : List Rec) => bif decide (x0_.length ≤ 1048576) then (bif decide (∀ x ∈ x0_, x.path.length ≤ 1048576) then (some (decide ((layerFaultL x0_).2 = 0))) else none) else none)) f_a0 (fun x0_ r h ux0_ w2 k3 hx0_ => by obtain ⟨q0, h⟩ := bif_some h; obtain ⟨q1, h⟩ := bif_some h; have h := Option.some.inj h; subst h; exact FnAt.mk Tryz.call71 (by rfl) fun w4 k5 => impl_LayerOK.calls (w := w4) (a0 := x0_) (GV.ext gv (Ext.trans k3 k5)) (Rd.ext hx0_ k5) (of_decide_eq_true q0) (of_decide_eq_true q1)) rfl (of_decide_eq_true c6) x8) rfl <| fun w9 e10 => L_op (.plain rfl) rfl (ltb rfl) (X_pick (b := true) (v := (.bool z7)) (congrArg Value.bool b0_) rfl) ?_
      obtain rfl := Option.some.inj H
      exact L_nil <| thn_n ⟨(Kp.upd (Kp.upd (Kp.upd (Kp.refl _ _) rfl) rfl) rfl), ⟨_, rfl, rfl⟩, e10⟩
    · refine L_skip rfl rfl (ltb rfl) (congrArg Value.bool b0_) rfl rfl (ltb rfl) <| L_skip rfl rfl (ltb rfl) (congrArg Value.bool b0_) rfl rfl (ltb rfl) <| L_op (.plain rfl) rfl (ltb rfl) (X_pick (b := false) (v := (.bool false)) (congrArg Value.bool b0_) rfl) ?_
      obtain rfl := Option.some.inj H
      exact L_nil <| thn_n ⟨(Kp.upd (Kp.upd (Kp.upd (Kp.refl _ _) rfl) rfl) rfl), ⟨_, rfl, rfl⟩, (Ext.refl w)⟩
  intro s11 w4 z12 K5 hq h6 e7
  rw [hq] at h6; clear hq
  refine L_op (.plain rfl) rfl (ltb rfl) (X_assign (v := (.bool z2)) h6) <| L_nil <| thn_n <| W_ret <| fin_r ?_
  obtain rfl := Option.some.inj H
  exact fin1 rfl e7
theorem impl_StackOK.calls {w : World} {a0 : List (List Rec)} (gv : GV 0 w) {v_a0 : Value} (f_a0 : Rd2 5 encRec w v_a0 a0) (h0 : a0.length ≤ 1048576) (h1 : ∀ l ∈ a0, l.length ≤ 1048576) (h2 : ∀ l ∈ a0, ∀ x ∈ l, x.path.length ≤ 1048576) :
    Calls Tryz.prog 83 #[v_a0] w (Rt (RP w (.bool (stackOK a0)))) := impl_StackOK.walk gv f_a0 (impl_StackOK.eq a0 h0 h1 h2)
/-! laws.eqRecordSS -/
theorem laws_eqRecordSS.walk {k : Nat} {w : World} {a0 : List (List Rec)} {a1 : List (List Rec)} {v_a0 : Value} (f_a0 : Rd2 5 encRec w v_a0 a0) {v_a1 : Value} (f_a1 : Rd2 5 encRec w v_a1 a1) {r : Bool} (H : laws_eqRecordSS.sh k a0 a1 = some r) :
    Calls Tryz.prog 27 #[v_a0, v_a1] w (Rt (RP w (.bool r))) := by
  unfold laws_eqRecordSS.sh at H
  refine calls_of_W Tryz.func27 rfl (Nat.le_of_ble_eq_true rfl) Tryz.ntmps27 rfl ?_
  refine W_seq <| W_reg <| L_op (.plain rfl) rfl (ltb rfl) (X_assign (v := (.bool false)) rfl) <| L_nil <| thn_n <| W_seq <| W_seq <| W_reg <| L_op (.plain rfl) rfl (ltb rfl) (X_move (v := v_a0) rfl) <| L_op (.plain rfl) rfl (ltb rfl) (X_lenR2 Tryz.underlying39 rfl f_a0) <| L_op (.plain rfl) rfl (ltb rfl) (X_move (v := v_a1) rfl) <| L_op (.plain rfl) rfl (ltb rfl) (X_lenR2 Tryz.underlying39 rfl f_a1) <| L_op (.plain rfl) rfl (ltb rfl) (X_neq rfl rfl) <| L_nil <| thn_n ?_
  rcases bif_two H with ⟨q1, H⟩ | ⟨q1, H⟩
  · refine W_true (congrArg Value.bool q1) <| W_seq <| W_reg <| L_op (.plain rfl) rfl (ltb rfl) (X_assign (v := (.bool false)) rfl) <| L_nil <| thn_n <| W_ret <| thn_r <| fin_r ?_
    obtain rfl := Option.some.inj H
    exact fin1 rfl (Ext.refl w)
  · refine W_false (congrArg Value.bool q1) <| W_skip <| thn_n <| W_seq <| W_seq <| W_reg <| L_op (.plain rfl) rfl (ltb rfl) (X_assign (v := (.int .i64 0)) rfl) <| L_nil <| thn_n ?_
    obtain ⟨z3, L4, C5⟩ := bind_some H
    clear H
    refine  W_cutQ (fun s0 sQ wQ => Kp [(4, 6), (11, 27)] s0 sQ ∧ Ext w wQ ∧ z3 = .inr ()) ?_ ?_
    · refine W_block <| W_loopI (fun s0 kk sQ wQ => ∃ (x5_2 : Int), Kp [(4, 6), (11, 27)] s0 sQ ∧ sQ 5 = .int .i64 x5_2 ∧ Ext w wQ ∧ loopF (laws_eqRecordSS.b1 a0 a1) kk x5_2 = some z3) k ⟨0, (Kp.refl _ _), rfl, (Ext.refl w), L4⟩ ?_
      rintro k10 s11 w12 ⟨x5_2, K13, h16, e14, L15⟩
      cases k10 with
      | zero => exact absurd L15 (by simp [loopF])
      | succ k10 =>
        obtain ⟨t17, H, S18⟩ := loopF_succ L15
        clear L15
        unfold laws_eqRecordSS.b1 at H
        refine W_seq <| W_seq <| W_reg <| L_op (.plain rfl) rfl (ltb rfl) (X_move (v := (.int .i64 x5_2)) h16) <| L_op (.plain rfl) rfl (ltb rfl) (X_move (v := v_a0) (K13 0 rfl)) <| L_op (.plain rfl) rfl (ltb rfl) (X_lenR2 Tryz.underlying39 rfl (Rd2.ext f_a0 e14)) <| L_op (.plain rfl) rfl (ltb rfl) (X_lss rfl rfl) <| L_nil <| thn_n ?_
        rcases bif_two H with ⟨q19, H⟩ | ⟨q19, H⟩
        · refine W_true (congrArg Value.bool q19) <| W_skip <| thn_n <| W_seq <| W_block <| W_seq ?_
          obtain ⟨c20, H⟩ := bif_some H
          obtain ⟨c25, H⟩ := bif_some H
          obtain ⟨c30, H⟩ := bif_some H
          refine W_drawM [LEq v_a0, LEq (.int .i64 x5_2), LAt2 5 encRec (gt a0 x5_2), LRd 5 encRec (gt a0 x5_2), LEq v_a1, LEq (.int .i64 x5_2), LAt2 5 encRec (gt a1 x5_2), LRd 5 encRec (gt a1 x5_2), LEq (.bool (decide ((gt a0 x5_2) = (gt a1 x5_2)))), LEq (.bool (!(decide ((gt a0 x5_2) = (gt a1 x5_2)))))] (by kernel_rfl) (by kernel_rfl) ⟨LEq.mono, LEq.mono, LAt2.mono, LRd.mono, LEq.mono, LEq.mono, LAt2.mono, LRd.mono, LEq.mono, LEq.mono, trivial⟩ ⟨?_, ?_, ?_, ?_, ?_, ?_, ?_, ?_, ?_, ?_, trivial⟩ ?_
          · intro s33 w34 e35 hf36 hd37 hu38
            exact L_op (.plain rfl) rfl (ltb rfl) (X_move (v := v_a0) ((hf36 0 rfl).trans (K13 0 rfl))) <| L_nil <| stepEnd rfl rfl (Ext.refl w34) rfl
          · intro s39 w40 e41 hf42 hd43 hu44
            exact L_op (.plain rfl) rfl (ltb rfl) (X_move (v := (.int .i64 x5_2)) ((hf42 5 rfl).trans h16)) <| L_nil <| stepEnd rfl rfl (Ext.refl w40) rfl
          · intro s45 w46 e47 hf48 hd49 hu50
            have d51 : s45 17 = v_a0 := (hd49 0 rfl)
            have d52 : s45 18 = (.int .i64 x5_2) := (hd49 1 rfl)
            have c53 := c20
            exact L_idx2 (.plain rfl) rfl (ltb rfl) rfl Tryz.underlying39 Tryz.sizeOf28 d51 (Rd2.ext f_a0 (Ext.trans e14 e47)) d52 c53 <| fun p54 v56 h55 h57 => L_nil <| stepEnd rfl rfl (Ext.refl w46) ⟨_, _, rfl, h55, h57⟩
          · intro s58 w59 e60 hf61 hd62 hu63
            obtain ⟨p64, v65, h66, h67, h68⟩ := (hd62 2 rfl)
            exact L_op (.plain rfl) rfl (ltb rfl) (X_loadAt Tryz.isAgg28 h66 h67 rfl) <| L_nil <| stepEnd rfl rfl (Ext.refl w59) h68
          · intro s69 w70 e71 hf72 hd73 hu74
            exact L_op (.plain rfl) rfl (ltb rfl) (X_move (v := v_a1) ((hf72 1 rfl).trans (K13 1 rfl))) <| L_nil <| stepEnd rfl rfl (Ext.refl w70) rfl
          · intro s75 w76 e77 hf78 hd79 hu80
            exact L_op (.plain rfl) rfl (ltb rfl) (X_move (v := (.int .i64 x5_2)) ((hf78 5 rfl).trans h16)) <| L_nil <| stepEnd rfl rfl (Ext.refl w76) rfl
          · intro s81 w82 e83 hf84 hd85 hu86
            have d87 : s81 21 = v_a1 := (hd85 4 rfl)
            have d88 : s81 22 = (.int .i64 x5_2) := (hd85 5 rfl)
            have c89 := c25
            exact L_idx2 (.plain rfl) rfl (ltb rfl) rfl Tryz.underlying39 Tryz.sizeOf28 d87 (Rd2.ext f_a1 (Ext.trans e14 e83)) d88 c89 <| fun p90 v92 h91 h93 => L_nil <| stepEnd rfl rfl (Ext.refl w82) ⟨_, _, rfl, h91, h93⟩
          · intro s94 w95 e96 hf97 hd98 hu99
            obtain ⟨p100, v101, h102, h103, h104⟩ := (hd98 6 rfl)
            exact L_op (.plain rfl) rfl (ltb rfl) (X_loadAt Tryz.isAgg28 h102 h103 rfl) <| L_nil <| stepEnd rfl rfl (Ext.refl w95) h104
          · intro s105 w106 e107 hf108 hd109 hu110
            have d111 : Rd 5 encRec w106 (s105 20) (gt a0 x5_2) := (hd109 3 rfl)
            have d112 : Rd 5 encRec w106 (s105 24) (gt a1 x5_2) := (hd109 7 rfl)
            have c113 := c30
            exact L_callP (.plain rfl) rfl (ltb rfl) rfl Tryz.call21 (laws_eqRecordS.calls (w := w106) (a0 := gt a0 x5_2) (a1 := gt a1 x5_2) d111 d112 (of_decide_eq_true c113)) rfl <| fun w114 e115 => L_nil <| stepEnd rfl rfl e115 rfl
          · intro s116 w117 e118 hf119 hd120 hu121
            have d122 : s116 25 = (.bool (decide ((gt a0 x5_2) = (gt a1 x5_2)))) := (hd120 8 rfl)
            exact L_op (.plain rfl) rfl (ltb rfl) (X_not d122) <| L_nil <| stepEnd rfl rfl (Ext.refl w117) rfl
          intro s123 w124 e125 hf126 ha127
          have K128 := Kp.ofD (kp := [(17, 27)]) rfl hf126
          have d129 : s123 26 = (.bool (!(decide ((gt a0 x5_2) = (gt a1 x5_2))))) := ha127 9 rfl
          clear ha127 hf126
          refine thn_n ?_
          rcases bif_two H with ⟨q130, H⟩ | ⟨q130, H⟩
          · refine W_true (d129.trans (congrArg Value.bool q130)) <| W_seq <| W_reg <| L_op (.plain rfl) rfl (ltb rfl) (X_assign (v := (.bool false)) rfl) <| L_nil <| thn_n <| W_ret <| blk_r <| thn_r <| thn_r <| blk_r <| thn_r <| thn_r <| fin_r ?_
            obtain rfl := Option.some.inj H
            obtain rfl := Option.some.inj S18
            have H := C5
            obtain rfl := Option.some.inj H
            exact fin1 rfl (Ext.trans e14 e125)
          · refine W_false (d129.trans (congrArg Value.bool q130)) <| W_skip <| blk_n <| thn_n <| W_reg <| L_op (.plain rfl) rfl (ltb rfl) (X_move (v := (.int .i64 x5_2)) ((K128 5 rfl).trans h16)) <| L_op (.plain rfl) rfl (ltb rfl) (X_add rfl rfl) <| L_op (.plain rfl) rfl (ltb rfl) (X_assign (v := (.int .i64 (IntKind.wrap .i64 (x5_2 + 1)))) rfl) <| L_nil <| thn_n ?_
            obtain rfl := Option.some.inj H
            exact ⟨_, Nat.lt_succ_self _, IntKind.wrap .i64 (x5_2 + 1), (Kp.upd (Kp.upd (Kp.upd (Kp.cut (Kp.upd (Kp.upd (Kp.upd (Kp.upd K13 rfl) rfl) rfl) rfl) K128 rfl) rfl) rfl) rfl), rfl, (Ext.trans e14 e125), S18⟩
        · refine W_false (congrArg Value.bool q19) <| W_exit <| thn_x <| thn_x <| blk_x <| thn_n ?_
          obtain rfl := Option.some.inj H
          obtain rfl := Option.some.inj S18
          exact ⟨(Kp.upd (Kp.upd (Kp.upd (Kp.upd K13 rfl) rfl) rfl) rfl), e14, rfl⟩
    · rintro s7 w6 ⟨K8, e9, y131⟩
      rw [y131] at C5
      have H := C5
      replace H : _ = some _ := H
      refine thn_n <| W_seq <| W_reg <| L_op (.plain rfl) rfl (ltb rfl) (X_assign (v := (.bool true)) rfl) <| L_nil <| thn_n <| W_ret <| fin_r ?_
      obtain rfl := Option.some.inj H
      exact fin1 rfl e9
theorem laws_eqRecordSS.calls {w : World} {a0 : List (List Rec)} {a1 : List (List Rec)} {v_a0 : Value} (f_a0 : Rd2 5 encRec w v_a0 a0) {v_a1 : Value} (f_a1 : Rd2 5 encRec w v_a1 a1) (h0 : a0.length ≤ 1048576) (h1 : ∀ l ∈ a0, l.length ≤ 1048576) :
    Calls Tryz.prog 27 #[v_a0, v_a1] w (Rt (RP w (.bool (decide (a0 = a1))))) := by
  obtain ⟨k, h⟩ := laws_eqRecordSS.eq a0 a1 h0 h1
  exact laws_eqRecordSS.walk f_a0 f_a1 h
/-! spec.l03Canon -/
theorem spec_l03Canon.walk {k : Nat} {w : World} {a0 : List Rec} {v_a0 : Value} (f_a0 : Rd 5 encRec w v_a0 a0) {r : List Rec} (H : spec_l03Canon.sh k a0 = some r) :
    Calls Tryz.prog 132 #[v_a0] w (Rt (RO 78 5 encRec w r)) := by
  unfold spec_l03Canon.sh at H
  refine calls_of_W Tryz.func132 rfl (Nat.le_of_ble_eq_true rfl) Tryz.ntmps132 rfl ?_
  refine W_seq <| W_reg <| L_op (.plain rfl) rfl (ltb rfl) (X_assign (v := (.slice none 0 0)) rfl) <| L_nil <| thn_n <| W_seq <| W_reg <| L_lit (.plain rfl) rfl (ltb rfl) rfl Tryz.underlying28 Tryz.sizeOf78 Tryz.zeroValue78 rfl rfl rfl (vs := []) rfl (lit_all rfl) <| fun b1 w2 z3 z4 e5 k6 => L_op (.plain rfl) rfl (ltb rfl) (X_assign (v := (.slice (some ⟨b1, 0, none⟩) 0 0)) rfl) <| L_nil <| thn_n <| W_seq <| W_seq <| W_reg <| L_op (.plain rfl) rfl (ltb rfl) (X_assign (v := (.int .i64 0)) rfl) <| L_nil <| thn_n ?_
  obtain ⟨z10, L11, C12⟩ := bind_some H
  clear H
  refine  W_cutQ (fun s0 sQ wQ => ∃ (x3_13 : List Rec) (v14 : Value), Kp [(3, 6), (7, 44)] s0 sQ ∧ sQ 3 = v14 ∧ Ow 78 5 encRec w2.heap.size wQ v14 x3_13 ∧ Ext w2 wQ ∧ z10 = .inr x3_13) ?_ ?_
  · refine W_block <| W_loopI (fun s0 kk sQ wQ => ∃ (x3_7 : List Rec) (v8 : Value) (x4_9 : Int), Kp [(3, 6), (7, 44)] s0 sQ ∧ sQ 3 = v8 ∧ Ow 78 5 encRec w2.heap.size wQ v8 x3_7 ∧ sQ 4 = .int .i64 x4_9 ∧ Ext w2 wQ ∧ loopF (spec_l03Canon.b1 a0) kk (x3_7, x4_9) = some z10) k ⟨([] : List Rec), (.slice (some ⟨b1, 0, none⟩) 0 0), 0, (Kp.refl _ _), rfl, (Ow.zero), rfl, (Ext.refl w2), L11⟩ ?_
    rintro k19 s20 w21 ⟨x3_7, v8, x4_9, K22, h25, h26, h27, e23, L24⟩
    cases k19 with
    | zero => exact absurd L24 (by simp [loopF])
    | succ k19 =>
      obtain ⟨t28, H, S29⟩ := loopF_succ L24
      clear L24
      unfold spec_l03Canon.b1 at H
      refine W_seq <| W_seq <| W_reg <| L_op (.plain rfl) rfl (ltb rfl) (X_move (v := (.int .i64 x4_9)) h27) <| L_op (.plain rfl) rfl (ltb rfl) (X_move (v := v_a0) (K22 0 rfl)) <| L_op (.plain rfl) rfl (ltb rfl) (X_lenR Tryz.underlying28 rfl (Rd.ext f_a0 (Ext.trans e5 e23))) <| L_op (.plain rfl) rfl (ltb rfl) (X_lss rfl rfl) <| L_nil <| thn_n ?_
      rcases bif_two H with ⟨q30, H⟩ | ⟨q30, H⟩
      · refine W_true (congrArg Value.bool q30) <| W_skip <| thn_n <| W_seq <| W_block <| W_seq <| W_reg <| L_op (.plain rfl) rfl (ltb rfl) (X_move (v := v_a0) (K22 0 rfl)) <| L_op (.plain rfl) rfl (ltb rfl) (X_move (v := (.int .i64 x4_9)) h27) ?_
        obtain ⟨c31, H⟩ := bif_some H
        refine L_idx (.plain rfl) rfl (ltb rfl) rfl Tryz.underlying28 Tryz.sizeOf78 rfl (Rd.ext f_a0 (Ext.trans e5 e23)) rfl c31 <| fun p32 h33 => L_op (.plain rfl) rfl (ltb rfl) (X_loadS Tryz.isAgg78 Tryz.sizeOf78 rfl rfl h33) <| L_alloc (.plain rfl) rfl (ltb rfl) rfl Tryz.zeroValue78 <| fun b34 w35 z36 z37 e38 k39 => L_storeA (.plain rfl) rfl rfl Tryz.sizeOf78 rfl rfl rfl rfl rfl k39 <| fun w40 h41 k42 => L_nil <| thn_n <| W_seq <| W_seq <| W_reg <| L_op (.plain rfl) rfl (ltb rfl) (X_move (v := v_a0) (K22 0 rfl)) <| L_op (.plain rfl) rfl (ltb rfl) (X_fieldAddr Tryz.underlying78 rfl Tryz.sizeOf9 rfl rfl) <| L_op (.plain rfl) rfl (ltb rfl) (X_loadB Tryz.isAgg9 k42 rfl rfl) ?_
        obtain ⟨c43, H⟩ := bif_some H
        obtain ⟨c44, H⟩ := bif_some H
        refine L_callP (.plain rfl) rfl (ltb rfl) rfl Tryz.call183 (spec_l03Under.calls (w := w40) (a0 := a0) (a1 := (gt a0 x4_9).path) (Rd.ext f_a0 (Ext.trans (Ext.trans e5 e23) (Below.trans e38 (Wr.below h41 (Nat.le_of_eq z36))))) (of_decide_eq_true c43) (of_decide_eq_true c44)) rfl <| fun w45 e46 => L_op (.plain rfl) rfl (ltb rfl) (X_not rfl) <| L_nil <| thn_n ?_
        rcases bif_two H with ⟨q47, H⟩ | ⟨q47, H⟩
        · refine W_true (congrArg Value.bool q47) <| W_seq <| W_reg <| L_op (.plain rfl) rfl (ltb rfl) (X_fieldAddr Tryz.underlying78 rfl Tryz.sizeOf4 rfl rfl) <| L_op (.plain rfl) rfl (ltb rfl) (X_loadB Tryz.isAgg4 (Blk.ext k42 e46) rfl rfl) <| L_op (.plain rfl) rfl (ltb rfl) (X_move (v := (.bool ((gt a0 x4_9).opq))) rfl) ?_
          obtain ⟨z49, x50, H⟩ := bind_some H
          refine L_grpE 6 [(25, 31)] 30 (fun q => q = z49) ?_ ?_
          · rcases bif_two x50 with ⟨b47_, H⟩ | ⟨b47_, H⟩
            · refine L_op (.guard 2 true 24 rfl rfl (ltb rfl) (congrArg Value.bool b47_)) rfl (ltb rfl) (X_fieldAddr Tryz.underlying78 rfl Tryz.sizeOf9 rfl rfl) <| L_op (.guard 2 true 24 rfl rfl (ltb rfl) (congrArg Value.bool b47_)) rfl (ltb rfl) (X_loadB Tryz.isAgg9 (Blk.ext k42 e46) rfl rfl) ?_
              obtain ⟨c49, H⟩ := bif_some H
              refine L_callO (.guard 2 true 24 rfl rfl (ltb rfl) (congrArg Value.bool b47_)) rfl (ltb rfl) rfl Tryz.call161 (spec_l00Cut.calls (w := w45) (a0 := (gt a0 x4_9).path) (a1 := 47) (of_decide_eq_true c49)) rfl <| fun v52 w50 e51 o53 => L_op (.guard 2 true 24 rfl rfl (ltb rfl) (congrArg Value.bool b47_)) rfl (ltb rfl) (X_lenR Tryz.underlying49 rfl (Ow.rd o53)) <| L_op (.guard 2 true 24 rfl rfl (ltb rfl) (congrArg Value.bool b47_)) rfl (ltb rfl) (X_lss rfl rfl) <| L_op (.plain rfl) rfl (ltb rfl) (X_pick (b := true) (v := (.bool (decide (((cut 47 ((gt a0 x4_9).path)).length : Int) < 4)))) (congrArg Value.bool b47_) rfl) ?_
              obtain rfl := Option.some.inj H
              exact L_nil <| thn_n ⟨(Kp.upd (Kp.upd (Kp.upd (Kp.upd (Kp.upd (Kp.upd (Kp.refl _ _) rfl) rfl) rfl) rfl) rfl) rfl), ⟨_, rfl, rfl⟩, e51⟩
            · refine L_skip rfl rfl (ltb rfl) (congrArg Value.bool b47_) rfl rfl (ltb rfl) <| L_skip rfl rfl (ltb rfl) (congrArg Value.bool b47_) rfl rfl (ltb rfl) <| L_skip rfl rfl (ltb rfl) (congrArg Value.bool b47_) rfl rfl (ltb rfl) <| L_skip rfl rfl (ltb rfl) (congrArg Value.bool b47_) rfl rfl (ltb rfl) <| L_skip rfl rfl (ltb rfl) (congrArg Value.bool b47_) rfl rfl (ltb rfl) <| L_op (.plain rfl) rfl (ltb rfl) (X_pick (b := false) (v := (.bool false)) (congrArg Value.bool b47_) rfl) ?_
              obtain rfl := Option.some.inj H
              exact L_nil <| thn_n ⟨(Kp.upd (Kp.upd (Kp.upd (Kp.upd (Kp.upd (Kp.upd (Kp.refl _ _) rfl) rfl) rfl) rfl) rfl) rfl), ⟨_, rfl, rfl⟩, (Ext.refl w45)⟩
          intro s55 w51 z56 K52 hq h53 e54
          rw [hq] at h53; clear hq
          refine L_op (.plain rfl) rfl (ltb rfl) (X_fieldAddr Tryz.underlying78 rfl Tryz.sizeOf4 rfl (K52 5 rfl)) <| L_store1 (.plain rfl) rfl rfl Tryz.sizeOf4 rfl h53 rfl (Blk.ext k42 (Ext.trans e46 e54)) (ltb rfl) <| fun w57 h58 k59 => L_nil <| thn_n <| W_seq <| W_reg <| L_op (.plain rfl) rfl (ltb rfl) (X_move (v := v8) ((K52 3 rfl).trans h25)) <| L_op (.plain rfl) rfl (ltb rfl) (X_loadS Tryz.isAgg78 Tryz.sizeOf78 rfl (K52 5 rfl) (Blk.at0 k59)) <| L_lit (.plain rfl) rfl (ltb rfl) rfl Tryz.underlying28 Tryz.sizeOf78 Tryz.zeroValue78 rfl rfl rfl (vs := [(.agg #[(.int .i64 ((gt a0 x4_9).kind)), (S ((gt a0 x4_9).path)), (S ((gt a0 x4_9).body)), (.int .i64 ((gt a0 x4_9).mode)), (.bool z49)])]) rfl (lit_all rfl) <| fun b60 w61 z62 z63 e64 k65 => ?_
          obtain ⟨c66, H⟩ := bif_some H
          refine L_append (enc := encRec) (.plain rfl) rfl (ltb rfl) rfl El.t28 rfl rfl (Ow.ext h26 (Ext.trans (Below.trans (Ext.trans (Ext.trans (Below.trans e38 (Wr.below h41 (Nat.le_of_eq z36))) e46) e54) (Wr.below h58 (Nat.le_of_eq z36))) e64)) (Ow.rd (Ow.new (xs := [(⟨(gt a0 x4_9).kind, (gt a0 x4_9).path, (gt a0 x4_9).body, (gt a0 x4_9).mode, z49⟩ : Rec)]) (sz := 5) (enc := encRec) (base := w57.heap.size) k65 (Nat.le_of_eq z62) rfl (fun _ _ => by rfl) (Nat.le_of_ble_eq_true rfl))) (ones_Rec _) (of_decide_eq_true c66) ((Ext.trans (Ext.trans e23 (Below.trans (Ext.trans (Ext.trans (Below.trans e38 (Wr.below h41 (Nat.le_of_eq z36))) e46) e54) (Wr.below h58 (Nat.le_of_eq z36)))) e64)).size <| fun v67 w68 o69 z70 g71 => L_op (.plain rfl) rfl (ltb rfl) (X_assign (v := v67) rfl) <| L_nil <| thn_n <| W_exit <| thn_x <| blk_x <| thn_n <| W_reg <| L_op (.plain rfl) rfl (ltb rfl) (X_move (v := (.int .i64 x4_9)) ((K52 4 rfl).trans h27)) <| L_op (.plain rfl) rfl (ltb rfl) (X_add rfl rfl) <| L_op (.plain rfl) rfl (ltb rfl) (X_assign (v := (.int .i64 (IntKind.wrap .i64 (x4_9 + 1)))) rfl) <| L_nil <| thn_n ?_
          obtain rfl := Option.some.inj H
          exact ⟨_, Nat.lt_succ_self _, x3_7 ++ ([(⟨(gt a0 x4_9).kind, (gt a0 x4_9).path, (gt a0 x4_9).body, (gt a0 x4_9).mode, z49⟩ : Rec)] : List Rec), v67, IntKind.wrap .i64 (x4_9 + 1), (Kp.upd (Kp.upd (Kp.upd (Kp.upd (Kp.upd (Kp.upd (Kp.upd (Kp.upd (Kp.upd (Kp.cut (Kp.upd (Kp.upd (Kp.upd (Kp.upd (Kp.upd (Kp.upd (Kp.upd (Kp.upd (Kp.upd (Kp.upd (Kp.upd (Kp.upd (Kp.upd (Kp.upd (Kp.upd (Kp.upd (Kp.upd K22 rfl) rfl) rfl) rfl) rfl) rfl) rfl) rfl) rfl) rfl) rfl) rfl) rfl) rfl) rfl) rfl) rfl) K52 rfl) rfl) rfl) rfl) rfl) rfl) rfl) rfl) rfl) rfl), rfl, o69, rfl, (g71 _ (Ext.trans (Ext.trans e23 (Below.trans (Ext.trans (Ext.trans (Below.trans e38 (Wr.below h41 (Nat.le_of_eq z36))) e46) e54) (Wr.below h58 (Nat.le_of_eq z36)))) e64)), S29⟩
        · refine W_false (congrArg Value.bool q47) <| W_skip <| thn_n <| W_seq <| W_reg <| L_op (.plain rfl) rfl (ltb rfl) (X_fieldAddr Tryz.underlying78 rfl Tryz.sizeOf4 rfl rfl) <| L_store1 (.plain rfl) rfl rfl Tryz.sizeOf4 rfl rfl rfl (Blk.ext k42 e46) (ltb rfl) <| fun w72 h73 k74 => L_nil <| thn_n <| W_seq <| W_reg <| L_op (.plain rfl) rfl (ltb rfl) (X_fieldAddr Tryz.underlying78 rfl Tryz.sizeOf3 rfl rfl) <| L_op (.plain rfl) rfl (ltb rfl) (X_loadB Tryz.isAgg3 k74 rfl rfl) <| L_op (.plain rfl) rfl (ltb rfl) (X_neq rfl rfl) <| L_nil <| thn_n ?_
          rcases bif_two H with ⟨q75, H⟩ | ⟨q75, H⟩
          · refine W_true (congrArg Value.bool q75) <| W_reg <| L_op (.plain rfl) rfl (ltb rfl) (X_move (v := v8) h25) <| L_op (.plain rfl) rfl (ltb rfl) (X_loadS Tryz.isAgg78 Tryz.sizeOf78 rfl rfl (Blk.at0 k74)) <| L_lit (.plain rfl) rfl (ltb rfl) rfl Tryz.underlying28 Tryz.sizeOf78 Tryz.zeroValue78 rfl rfl rfl (vs := [(.agg #[(.int .i64 ((gt a0 x4_9).kind)), (S ((gt a0 x4_9).path)), (S ((gt a0 x4_9).body)), (.int .i64 ((gt a0 x4_9).mode)), (.bool false)])]) rfl (lit_all rfl) <| fun b76 w77 z78 z79 e80 k81 => ?_
            obtain ⟨c82, H⟩ := bif_some H
            refine L_append (enc := encRec) (.plain rfl) rfl (ltb rfl) rfl El.t28 rfl rfl (Ow.ext h26 (Ext.trans (Below.trans (Ext.trans (Below.trans e38 (Wr.below h41 (Nat.le_of_eq z36))) e46) (Wr.below h73 (Nat.le_of_eq z36))) e80)) (Ow.rd (Ow.new (xs := [(⟨(gt a0 x4_9).kind, (gt a0 x4_9).path, (gt a0 x4_9).body, (gt a0 x4_9).mode, false⟩ : Rec)]) (sz := 5) (enc := encRec) (base := w72.heap.size) k81 (Nat.le_of_eq z78) rfl (fun _ _ => by rfl) (Nat.le_of_ble_eq_true rfl))) (ones_Rec _) (of_decide_eq_true c82) ((Ext.trans (Ext.trans e23 (Below.trans (Ext.trans (Below.trans e38 (Wr.below h41 (Nat.le_of_eq z36))) e46) (Wr.below h73 (Nat.le_of_eq z36)))) e80)).size <| fun v83 w84 o85 z86 g87 => L_op (.plain rfl) rfl (ltb rfl) (X_assign (v := v83) rfl) <| L_nil <| blk_n <| thn_n <| W_reg <| L_op (.plain rfl) rfl (ltb rfl) (X_move (v := (.int .i64 x4_9)) h27) <| L_op (.plain rfl) rfl (ltb rfl) (X_add rfl rfl) <| L_op (.plain rfl) rfl (ltb rfl) (X_assign (v := (.int .i64 (IntKind.wrap .i64 (x4_9 + 1)))) rfl) <| L_nil <| thn_n ?_
            obtain rfl := Option.some.inj H
            exact ⟨_, Nat.lt_succ_self _, x3_7 ++ ([(⟨(gt a0 x4_9).kind, (gt a0 x4_9).path, (gt a0 x4_9).body, (gt a0 x4_9).mode, false⟩ : Rec)] : List Rec), v83, IntKind.wrap .i64 (x4_9 + 1), (Kp.upd (Kp.upd (Kp.upd (Kp.upd (Kp.upd (Kp.upd (Kp.upd (Kp.upd (Kp.upd (Kp.upd (Kp.upd (Kp.upd (Kp.upd (Kp.upd (Kp.upd (Kp.upd (Kp.upd (Kp.upd (Kp.upd (Kp.upd (Kp.upd (Kp.upd (Kp.upd (Kp.upd (Kp.upd (Kp.upd K22 rfl) rfl) rfl) rfl) rfl) rfl) rfl) rfl) rfl) rfl) rfl) rfl) rfl) rfl) rfl) rfl) rfl) rfl) rfl) rfl) rfl) rfl) rfl) rfl) rfl) rfl), rfl, o85, rfl, (g87 _ (Ext.trans (Ext.trans e23 (Below.trans (Ext.trans (Below.trans e38 (Wr.below h41 (Nat.le_of_eq z36))) e46) (Wr.below h73 (Nat.le_of_eq z36)))) e80)), S29⟩
          · refine W_false (congrArg Value.bool q75) <| W_skip <| blk_n <| thn_n <| W_reg <| L_op (.plain rfl) rfl (ltb rfl) (X_move (v := (.int .i64 x4_9)) h27) <| L_op (.plain rfl) rfl (ltb rfl) (X_add rfl rfl) <| L_op (.plain rfl) rfl (ltb rfl) (X_assign (v := (.int .i64 (IntKind.wrap .i64 (x4_9 + 1)))) rfl) <| L_nil <| thn_n ?_
            obtain rfl := Option.some.inj H
            exact ⟨_, Nat.lt_succ_self _, x3_7, v8, IntKind.wrap .i64 (x4_9 + 1), (Kp.upd (Kp.upd (Kp.upd (Kp.upd (Kp.upd (Kp.upd (Kp.upd (Kp.upd (Kp.upd (Kp.upd (Kp.upd (Kp.upd (Kp.upd (Kp.upd (Kp.upd (Kp.upd (Kp.upd (Kp.upd (Kp.upd (Kp.upd (Kp.upd K22 rfl) rfl) rfl) rfl) rfl) rfl) rfl) rfl) rfl) rfl) rfl) rfl) rfl) rfl) rfl) rfl) rfl) rfl) rfl) rfl) rfl), h25, (Ow.ext h26 (Below.trans (Ext.trans (Below.trans e38 (Wr.below h41 (Nat.le_of_eq z36))) e46) (Wr.below h73 (Nat.le_of_eq z36)))), rfl, (Ext.trans e23 (Below.trans (Ext.trans (Below.trans e38 (Wr.below h41 (Nat.le_of_eq z36))) e46) (Wr.below h73 (Nat.le_of_eq z36)))), S29⟩
      · refine W_false (congrArg Value.bool q30) <| W_exit <| thn_x <| thn_x <| blk_x <| thn_n ?_
        obtain rfl := Option.some.inj H
        obtain rfl := Option.some.inj S29
        exact ⟨x3_7, v8, (Kp.upd (Kp.upd (Kp.upd (Kp.upd K22 rfl) rfl) rfl) rfl), h25, h26, e23, rfl⟩
  · rintro s16 w15 ⟨x3_13, v14, K17, h88, h89, e18, y90⟩
    rw [y90] at C12
    have H := C12
    replace H : _ = some _ := H
    refine thn_n <| W_seq <| W_reg <| L_op (.plain rfl) rfl (ltb rfl) (X_move (v := v14) h88) <| L_op (.plain rfl) rfl (ltb rfl) (X_assign (v := v14) rfl) <| L_nil <| thn_n <| W_ret <| fin_r ?_
    obtain rfl := Option.some.inj H
    exact fin1o rfl (Ext.trans e5 e18) h89 (e5).size
theorem spec_l03Canon.calls {w : World} {a0 : List Rec} {v_a0 : Value} (f_a0 : Rd 5 encRec w v_a0 a0) (h0 : a0.length ≤ 1048576) (h1 : ∀ x ∈ a0, pathOK x.path = true) :
    Calls Tryz.prog 132 #[v_a0] w (Rt (RO 78 5 encRec w (canonL a0))) := by
  obtain ⟨k, h⟩ := spec_l03Canon.eq a0 h0 h1
  exact spec_l03Canon.walk f_a0 h
/-! laws.markRecordS -/
abbrev laws_markRecordS.e1 (x1_1 : Int) := (IntKind.wrap .i64 ((IntKind.wrap .i64 (x1_1 + 1)) + 1))
theorem laws_markRecordS.walk {k : Nat} {w : World} {a0 : List Rec} {a1 : Int} {v_a0 : Value} {B_a0 : Nat} {T_a0 : Nat} (o_a0 : Ow 78 5 encRec B_a0 w v_a0 a0) (l_a0 : HB v_a0 T_a0) {r : Int × List Rec} (H : laws_markRecordS.sh k a0 a1 = some r) :
    Calls Tryz.prog 33 #[v_a0, .int .i64 a1] w (Rt (RM 78 5 encRec B_a0 T_a0 w (.int .i64 r.1) v_a0 r.2)) := by
  unfold laws_markRecordS.sh at H
  refine calls_of_W Tryz.func33 rfl (Nat.le_of_ble_eq_true rfl) Tryz.ntmps33 rfl ?_
  refine W_seq <| W_reg <| L_op (.plain rfl) rfl (ltb rfl) (X_assign (v := (.int .i64 0)) rfl) <| L_nil <| thn_n <| W_seq <| W_seq <| W_reg <| L_op (.plain rfl) rfl (ltb rfl) (X_assign (v := (.int .i64 0)) rfl) <| L_nil <| thn_n ?_
  obtain ⟨z4, L5, C6⟩ := bind_some H
  clear H
  refine  W_cutQ (fun s0 sQ wQ => ∃ (x1_7 : Int) (y8 : List Rec), Kp [(1, 2), (5, 51)] s0 sQ ∧ sQ 1 = .int .i64 x1_7 ∧ Ow 78 5 encRec B_a0 wQ v_a0 y8 ∧ Gr B_a0 T_a0 w wQ ∧ z4 = .inr (x1_7, y8)) ?_ ?_
  · refine W_block <| W_loopI (fun s0 kk sQ wQ => ∃ (x1_1 : Int) (x5_2 : Int) (y3 : List Rec), Kp [(1, 2), (5, 51)] s0 sQ ∧ sQ 1 = .int .i64 x1_1 ∧ sQ 5 = .int .i64 x5_2 ∧ Ow 78 5 encRec B_a0 wQ v_a0 y3 ∧ Gr B_a0 T_a0 w wQ ∧ loopF (laws_markRecordS.b1) kk (x1_1, x5_2, y3) = some z4) k ⟨a1, 0, a0, (Kp.refl _ _), rfl, rfl, o_a0, (Gr.refl _ _ _), L5⟩ ?_
    rintro k13 s14 w15 ⟨x1_1, x5_2, y3, K16, h19, h20, h21, e17, L18⟩
    cases k13 with
    | zero => exact absurd L18 (by simp [loopF])
    | succ k13 =>
      obtain ⟨t22, H, S23⟩ := loopF_succ L18
      clear L18
      unfold laws_markRecordS.b1 at H
      refine W_seq <| W_seq <| W_reg <| L_op (.plain rfl) rfl (ltb rfl) (X_move (v := (.int .i64 x5_2)) h20) <| L_op (.plain rfl) rfl (ltb rfl) (X_move (v := v_a0) (K16 0 rfl)) <| L_op (.plain rfl) rfl (ltb rfl) (X_lenR Tryz.underlying28 rfl (Ow.rd h21)) <| L_op (.plain rfl) rfl (ltb rfl) (X_lss rfl rfl) <| L_nil <| thn_n ?_
      rcases bif_two H with ⟨q24, H⟩ | ⟨q24, H⟩
      · refine W_true (congrArg Value.bool q24) <| W_skip <| thn_n <| W_seq <| W_block <| W_seq <| W_reg <| L_op (.plain rfl) rfl (ltb rfl) (X_move (v := v_a0) (K16 0 rfl)) <| L_op (.plain rfl) rfl (ltb rfl) (X_move (v := (.int .i64 x5_2)) h20) <| L_op (.plain rfl) rfl (ltb rfl) (X_move (v := (.int .i64 x1_1)) h19) ?_
        obtain ⟨c27, H⟩ := bif_some H
        refine L_idxO (.plain rfl) rfl (ltb rfl) rfl Tryz.underlying28 Tryz.sizeOf78 rfl h21 rfl c27 <| fun p25 h26 => L_op (.plain rfl) rfl (ltb rfl) (X_fieldAddr Tryz.underlying78 rfl Tryz.sizeOf3 rfl rfl) <| L_storeO (a := (⟨x1_1, (gt y3 x5_2).path, (gt y3 x5_2).body, (gt y3 x5_2).mode, (gt y3 x5_2).opq⟩ : Rec)) (vs := [(.int .i64 x1_1)]) (off := 0) (.plain rfl) rfl rfl Tryz.sizeOf3 rfl h26 rfl rfl rfl rfl rfl rfl <| fun b28 w29 h30 h31 h32 o33 => L_nil <| thn_n <| W_seq <| W_reg <| L_op (.plain rfl) rfl (ltb rfl) (X_move (v := (.int .i64 x1_1)) h19) <| L_op (.plain rfl) rfl (ltb rfl) (X_add rfl rfl) <| L_op (.plain rfl) rfl (ltb rfl) (X_assign (v := (.int .i64 (IntKind.wrap .i64 (x1_1 + 1)))) rfl) <| L_nil <| thn_n <| W_seq <| W_reg <| L_op (.plain rfl) rfl (ltb rfl) (X_move (v := v_a0) (K16 0 rfl)) <| L_op (.plain rfl) rfl (ltb rfl) (X_move (v := (.int .i64 x5_2)) h20) <| L_op (.plain rfl) rfl (ltb rfl) (X_move (v := (.int .i64 (IntKind.wrap .i64 (x1_1 + 1)))) rfl) ?_
        obtain ⟨c34, H⟩ := bif_some H
        refine L_callP (.plain rfl) rfl (ltb rfl) rfl Tryz.call81 (laws_markText.calls (w := w29) (a0 := IntKind.wrap .i64 (x1_1 + 1)) (of_decide_eq_true c34)) rfl <| fun w35 e36 => L_idxO (.plain rfl) rfl (ltb rfl) rfl Tryz.underlying28 Tryz.sizeOf78 rfl (Ow.ext o33 e36) rfl (inR_setI c27) <| fun p37 h38 => L_op (.plain rfl) rfl (ltb rfl) (X_fieldAddr Tryz.underlying78 rfl Tryz.sizeOf9 rfl rfl) <| L_storeO2 (a := (⟨x1_1, (markT (IntKind.wrap .i64 (x1_1 + 1))), (gt y3 x5_2).body, (gt y3 x5_2).mode, (gt y3 x5_2).opq⟩ : Rec)) (vs := [(S (markT (IntKind.wrap .i64 (x1_1 + 1))))]) (off := 1) (.plain rfl) rfl rfl Tryz.sizeOf9 rfl c27 h38 rfl rfl rfl rfl rfl rfl <| fun b39 w40 h41 h42 h43 o44 => L_nil <| thn_n <| W_seq <| W_reg <| L_op (.plain rfl) rfl (ltb rfl) (X_move (v := (.int .i64 (IntKind.wrap .i64 (x1_1 + 1)))) rfl) <| L_op (.plain rfl) rfl (ltb rfl) (X_add rfl rfl) <| L_op (.plain rfl) rfl (ltb rfl) (X_assign (v := (.int .i64 (laws_markRecordS.e1 x1_1))) rfl) <| L_nil <| thn_n <| W_seq <| W_reg <| L_op (.plain rfl) rfl (ltb rfl) (X_move (v := v_a0) (K16 0 rfl)) <| L_op (.plain rfl) rfl (ltb rfl) (X_move (v := (.int .i64 x5_2)) h20) <| L_op (.plain rfl) rfl (ltb rfl) (X_move (v := (.int .i64 (laws_markRecordS.e1 x1_1))) rfl) ?_
        obtain ⟨c45, H⟩ := bif_some H
        refine L_callP (.plain rfl) rfl (ltb rfl) rfl Tryz.call81 (laws_markText.calls (w := w40) (a0 := IntKind.wrap .i64 ((IntKind.wrap .i64 (x1_1 + 1)) + 1)) (of_decide_eq_true c45)) rfl <| fun w46 e47 => L_idxO (.plain rfl) rfl (ltb rfl) rfl Tryz.underlying28 Tryz.sizeOf78 rfl (Ow.ext o44 e47) rfl (inR_setI c27) <| fun p48 h49 => L_op (.plain rfl) rfl (ltb rfl) (X_fieldAddr Tryz.underlying78 rfl Tryz.sizeOf9 rfl rfl) <| L_storeO2 (a := (⟨x1_1, (markT (IntKind.wrap .i64 (x1_1 + 1))), (markT (laws_markRecordS.e1 x1_1)), (gt y3 x5_2).mode, (gt y3 x5_2).opq⟩ : Rec)) (vs := [(S (markT (laws_markRecordS.e1 x1_1)))]) (off := 2) (.plain rfl) rfl rfl Tryz.sizeOf9 rfl c27 h49 rfl rfl rfl rfl rfl rfl <| fun b50 w51 h52 h53 h54 o55 => L_nil <| thn_n <| W_seq <| W_reg <| L_op (.plain rfl) rfl (ltb rfl) (X_move (v := (.int .i64 (laws_markRecordS.e1 x1_1))) rfl) <| L_op (.plain rfl) rfl (ltb rfl) (X_add rfl rfl) <| L_op (.plain rfl) rfl (ltb rfl) (X_assign rfl) <| L_nil <| thn_n <| W_seq <| W_reg <| L_op (.plain rfl) rfl (ltb rfl) (X_move (v := v_a0) (K16 0 rfl)) <| L_op (.plain rfl) rfl (ltb rfl) (X_move (v := (.int .i64 x5_2)) h20) <| L_op (.plain rfl) rfl (ltb rfl) (X_move rfl) <| L_idxO (.plain rfl) rfl (ltb rfl) rfl Tryz.underlying28 Tryz.sizeOf78 rfl o55 rfl (inR_setI c27) <| fun p56 h57 => L_op (.plain rfl) rfl (ltb rfl) (X_fieldAddr Tryz.underlying78 rfl Tryz.sizeOf3 rfl rfl) <| L_storeO2 (a := (⟨x1_1, (markT (IntKind.wrap .i64 (x1_1 + 1))), (markT (laws_markRecordS.e1 x1_1)), IntKind.wrap .i64 ((laws_markRecordS.e1 x1_1) + 1), (gt y3 x5_2).opq⟩ : Rec)) (vs := [(.int .i64 (IntKind.wrap .i64 ((laws_markRecordS.e1 x1_1) + 1)))]) (off := 3) (.plain rfl) rfl rfl Tryz.sizeOf3 rfl c27 h57 rfl rfl rfl rfl rfl rfl <| fun b58 w59 h60 h61 h62 o63 => L_nil <| thn_n <| W_seq <| W_reg <| L_op (.plain rfl) rfl (ltb rfl) (X_move rfl) <| L_op (.plain rfl) rfl (ltb rfl) (X_add rfl rfl) <| L_op (.plain rfl) rfl (ltb rfl) (X_assign rfl) <| L_nil <| thn_n <| W_seq <| W_reg <| L_op (.plain rfl) rfl (ltb rfl) (X_move (v := v_a0) (K16 0 rfl)) <| L_op (.plain rfl) rfl (ltb rfl) (X_move (v := (.int .i64 x5_2)) h20) <| L_op (.plain rfl) rfl (ltb rfl) (X_move rfl) <| L_op (.plain rfl) rfl (ltb rfl) (X_rem rfl rfl (by decide)) <| L_op (.plain rfl) rfl (ltb rfl) (X_eql rfl rfl) <| L_idxO (.plain rfl) rfl (ltb rfl) rfl Tryz.underlying28 Tryz.sizeOf78 rfl o63 rfl (inR_setI c27) <| fun p64 h65 => L_op (.plain rfl) rfl (ltb rfl) (X_fieldAddr Tryz.underlying78 rfl Tryz.sizeOf4 rfl rfl) <| L_storeO2 (a := (⟨x1_1, (markT (IntKind.wrap .i64 (x1_1 + 1))), (markT (laws_markRecordS.e1 x1_1)), IntKind.wrap .i64 ((laws_markRecordS.e1 x1_1) + 1), (decide (((IntKind.wrap .i64 ((IntKind.wrap .i64 ((laws_markRecordS.e1 x1_1) + 1)) + 1)).tmod 3) = 0))⟩ : Rec)) (vs := [(.bool (decide (((IntKind.wrap .i64 ((IntKind.wrap .i64 ((laws_markRecordS.e1 x1_1) + 1)) + 1)).tmod 3) = 0)))]) (off := 4) (.plain rfl) rfl rfl Tryz.sizeOf4 rfl c27 h65 rfl rfl rfl rfl rfl rfl <| fun b66 w67 h68 h69 h70 o71 => L_nil <| thn_n <| W_reg <| L_op (.plain rfl) rfl (ltb rfl) (X_move rfl) <| L_op (.plain rfl) rfl (ltb rfl) (X_add rfl rfl) <| L_op (.plain rfl) rfl (ltb rfl) (X_assign rfl) <| L_nil <| blk_n <| thn_n <| W_reg <| L_op (.plain rfl) rfl (ltb rfl) (X_move (v := (.int .i64 x5_2)) h20) <| L_op (.plain rfl) rfl (ltb rfl) (X_add rfl rfl) <| L_op (.plain rfl) rfl (ltb rfl) (X_assign (v := (.int .i64 (IntKind.wrap .i64 (x5_2 + 1)))) rfl) <| L_nil <| thn_n ?_
        obtain rfl := Option.some.inj H
        exact ⟨_, Nat.lt_succ_self _, IntKind.wrap .i64 ((IntKind.wrap .i64 ((IntKind.wrap .i64 ((laws_markRecordS.e1 x1_1) + 1)) + 1)) + 1), IntKind.wrap .i64 (x5_2 + 1), setI y3 x5_2 (⟨x1_1, (markT (IntKind.wrap .i64 (x1_1 + 1))), (markT (laws_markRecordS.e1 x1_1)), IntKind.wrap .i64 ((laws_markRecordS.e1 x1_1) + 1), (decide (((IntKind.wrap .i64 ((IntKind.wrap .i64 ((laws_markRecordS.e1 x1_1) + 1)) + 1)).tmod 3) = 0))⟩ : Rec), (Kp.upd (Kp.upd (Kp.upd (Kp.upd (Kp.upd (Kp.upd (Kp.upd (Kp.upd (Kp.upd (Kp.upd (Kp.upd (Kp.upd (Kp.upd (Kp.upd (Kp.upd (Kp.upd (Kp.upd (Kp.upd (Kp.upd (Kp.upd (Kp.upd (Kp.upd (Kp.upd (Kp.upd (Kp.upd (Kp.upd (Kp.upd (Kp.upd (Kp.upd (Kp.upd (Kp.upd (Kp.upd (Kp.upd (Kp.upd (Kp.upd (Kp.upd (Kp.upd (Kp.upd (Kp.upd (Kp.upd (Kp.upd (Kp.upd (Kp.upd (Kp.upd (Kp.upd (Kp.upd (Kp.upd (Kp.upd (Kp.upd (Kp.upd (Kp.upd K16 rfl) rfl) rfl) rfl) rfl) rfl) rfl) rfl) rfl) rfl) rfl) rfl) rfl) rfl) rfl) rfl) rfl) rfl) rfl) rfl) rfl) rfl) rfl) rfl) rfl) rfl) rfl) rfl) rfl) rfl) rfl) rfl) rfl) rfl) rfl) rfl) rfl) rfl) rfl) rfl) rfl) rfl) rfl) rfl) rfl) rfl) rfl) rfl) rfl) rfl) rfl), rfl, rfl, o71, (Gr.trans (Gr.trans (Gr.trans (Gr.trans (Gr.trans (Gr.trans (Gr.trans e17 (Gr.wr h32 h31 (HB.own l_a0 h30 (OP.own0 h26) (inR_pos c27)))) (Gr.ext e36)) (Gr.wr h43 h42 (HB.own l_a0 h41 (OP.own0 h38) (inR_pos (inR_setI c27))))) (Gr.ext e47)) (Gr.wr h54 h53 (HB.own l_a0 h52 (OP.own0 h49) (inR_pos (inR_setI c27))))) (Gr.wr h62 h61 (HB.own l_a0 h60 (OP.own0 h57) (inR_pos (inR_setI c27))))) (Gr.wr h70 h69 (HB.own l_a0 h68 (OP.own0 h65) (inR_pos (inR_setI c27))))), S23⟩
      · refine W_false (congrArg Value.bool q24) <| W_exit <| thn_x <| thn_x <| blk_x <| thn_n ?_
        obtain rfl := Option.some.inj H
        obtain rfl := Option.some.inj S23
        exact ⟨x1_1, y3, (Kp.upd (Kp.upd (Kp.upd (Kp.upd K16 rfl) rfl) rfl) rfl), h19, h21, e17, rfl⟩
  · rintro s10 w9 ⟨x1_7, y8, K11, h72, h73, e12, y74⟩
    rw [y74] at C6
    have H := C6
    replace H : _ = some _ := H
    refine thn_n <| W_seq <| W_reg <| L_op (.plain rfl) rfl (ltb rfl) (X_move (v := (.int .i64 x1_7)) h72) <| L_op (.plain rfl) rfl (ltb rfl) (X_assign (v := (.int .i64 x1_7)) rfl) <| L_nil <| thn_n <| W_ret <| fin_r ?_
    obtain rfl := Option.some.inj H
    exact fin1m rfl e12 h73
theorem laws_markRecordS.calls {w : World} {a0 : List Rec} {a1 : Int} {v_a0 : Value} {B_a0 : Nat} {T_a0 : Nat} (o_a0 : Ow 78 5 encRec B_a0 w v_a0 a0) (l_a0 : HB v_a0 T_a0) (h0 : a0.length ≤ 576460752303423488) (h1 : (0 : Int) ≤ a1) (h2 : (a1 : Int) ≤ 4611686018427387904 - 5 * (a0.length : Int)) :
    Calls Tryz.prog 33 #[v_a0, .int .i64 a1] w (Rt (RM 78 5 encRec B_a0 T_a0 w (.int .i64 (a1 + 5 * (a0.length : Int))) v_a0 (marksR a0.length a1))) := by
  obtain ⟨k, h⟩ := laws_markRecordS.eq a0 a1 h0 h1 h2
  exact laws_markRecordS.walk o_a0 l_a0 h
/-! spec.l07Cut -/
theorem spec_l07Cut.walk {k : Nat} {w : World} {a0 : List (List Rec)} {a1 : List UInt8} {v_a0 : Value} (f_a0 : Rd2 5 encRec w v_a0 a0) {r : Int} (H : spec_l07Cut.sh k a0 a1 = some r) :
    Calls Tryz.prog 187 #[v_a0, S a1] w (Rt (RP w (.int .i64 r))) := by
  unfold spec_l07Cut.sh at H
  refine calls_of_W Tryz.func187 rfl (Nat.le_of_ble_eq_true rfl) Tryz.ntmps187 rfl ?_
  refine W_seq <| W_reg <| L_op (.plain rfl) rfl (ltb rfl) (X_assign (v := (.int .i64 0)) rfl) <| L_nil <| thn_n <| W_seq <| W_seq <| W_reg <| L_op (.plain rfl) rfl (ltb rfl) (X_move (v := v_a0) rfl) <| L_op (.plain rfl) rfl (ltb rfl) (X_lenR2 Tryz.underlying39 rfl f_a0) <| L_op (.plain rfl) rfl (ltb rfl) (X_sub rfl rfl) <| L_op (.plain rfl) rfl (ltb rfl) (X_assign (v := (.int .i64 (IntKind.wrap .i64 ((a0.length : Int) - 1)))) rfl) <| L_nil <| thn_n ?_
  obtain ⟨z2, L3, C4⟩ := bind_some H
  clear H
  refine  W_cutQ (fun s0 sQ wQ => Kp [(4, 6), (9, 21)] s0 sQ ∧ Ext w wQ ∧ z2 = .inr ()) ?_ ?_
  · refine W_block <| W_loopI (fun s0 kk sQ wQ => ∃ (x5_1 : Int), Kp [(4, 6), (9, 21)] s0 sQ ∧ sQ 5 = .int .i64 x5_1 ∧ Ext w wQ ∧ loopF (spec_l07Cut.b1 a0 a1) kk x5_1 = some z2) k ⟨IntKind.wrap .i64 ((a0.length : Int) - 1), (Kp.refl _ _), rfl, (Ext.refl w), L3⟩ ?_
    rintro k9 s10 w11 ⟨x5_1, K12, h15, e13, L14⟩
    cases k9 with
    | zero => exact absurd L14 (by simp [loopF])
    | succ k9 =>
      obtain ⟨t16, H, S17⟩ := loopF_succ L14
      clear L14
      unfold spec_l07Cut.b1 at H
      refine W_seq <| W_seq <| W_reg <| L_op (.plain rfl) rfl (ltb rfl) (X_move (v := (.int .i64 x5_1)) h15) <| L_op (.plain rfl) rfl (ltb rfl) (X_geq rfl rfl) <| L_nil <| thn_n ?_
      rcases bif_two H with ⟨q18, H⟩ | ⟨q18, H⟩
      · refine W_true (congrArg Value.bool q18) <| W_skip <| thn_n <| W_seq <| W_block <| W_seq <| W_reg <| L_op (.plain rfl) rfl (ltb rfl) (X_move (v := v_a0) (K12 0 rfl)) <| L_op (.plain rfl) rfl (ltb rfl) (X_move (v := (.int .i64 x5_1)) h15) ?_
        obtain ⟨c19, H⟩ := bif_some H
        refine L_idx2 (.plain rfl) rfl (ltb rfl) rfl Tryz.underlying39 Tryz.sizeOf28 rfl (Rd2.ext f_a0 e13) rfl c19 <| fun p20 v22 h21 h23 => L_op (.plain rfl) rfl (ltb rfl) (X_loadAt Tryz.isAgg28 rfl h21 rfl) <| L_op (.plain rfl) rfl (ltb rfl) (X_move (v := (S a1)) (K12 1 rfl)) ?_
        obtain ⟨c24, H⟩ := bif_some H
        obtain ⟨c25, H⟩ := bif_some H
        refine L_callP (.plain rfl) rfl (ltb rfl) rfl Tryz.call130 (spec_l06Cuts.calls (w := w11) (a0 := gt a0 x5_1) (a1 := a1) h23 (of_decide_eq_true c24) (of_decide_eq_true c25)) rfl <| fun w26 e27 => L_nil <| thn_n ?_
        rcases bif_two H with ⟨q28, H⟩ | ⟨q28, H⟩
        · refine W_true (congrArg Value.bool q28) <| W_seq <| W_reg <| L_op (.plain rfl) rfl (ltb rfl) (X_move (v := (.int .i64 x5_1)) h15) <| L_op (.plain rfl) rfl (ltb rfl) (X_add rfl rfl) <| L_op (.plain rfl) rfl (ltb rfl) (X_assign (v := (.int .i64 (IntKind.wrap .i64 (x5_1 + 1)))) rfl) <| L_nil <| thn_n <| W_ret <| blk_r <| thn_r <| thn_r <| blk_r <| thn_r <| thn_r <| fin_r ?_
          obtain rfl := Option.some.inj H
          obtain rfl := Option.some.inj S17
          have H := C4
          obtain rfl := Option.some.inj H
          exact fin1 rfl (Ext.trans e13 e27)
        · refine W_false (congrArg Value.bool q28) <| W_skip <| blk_n <| thn_n <| W_reg <| L_op (.plain rfl) rfl (ltb rfl) (X_move (v := (.int .i64 x5_1)) h15) <| L_op (.plain rfl) rfl (ltb rfl) (X_sub rfl rfl) <| L_op (.plain rfl) rfl (ltb rfl) (X_assign (v := (.int .i64 (IntKind.wrap .i64 (x5_1 - 1)))) rfl) <| L_nil <| thn_n ?_
          obtain rfl := Option.some.inj H
          exact ⟨_, Nat.lt_succ_self _, IntKind.wrap .i64 (x5_1 - 1), (Kp.upd (Kp.upd (Kp.upd (Kp.upd (Kp.upd (Kp.upd (Kp.upd (Kp.upd (Kp.upd (Kp.upd (Kp.upd K12 rfl) rfl) rfl) rfl) rfl) rfl) rfl) rfl) rfl) rfl) rfl), rfl, (Ext.trans e13 e27), S17⟩
      · refine W_false (congrArg Value.bool q18) <| W_exit <| thn_x <| thn_x <| blk_x <| thn_n ?_
        obtain rfl := Option.some.inj H
        obtain rfl := Option.some.inj S17
        exact ⟨(Kp.upd (Kp.upd K12 rfl) rfl), e13, rfl⟩
  · rintro s6 w5 ⟨K7, e8, y29⟩
    rw [y29] at C4
    have H := C4
    replace H : _ = some _ := H
    refine thn_n <| W_seq <| W_reg <| L_op (.plain rfl) rfl (ltb rfl) (X_assign (v := (.int .i64 0)) rfl) <| L_nil <| thn_n <| W_ret <| fin_r ?_
    obtain rfl := Option.some.inj H
    exact fin1 rfl e8
theorem spec_l07Cut.calls {w : World} {a0 : List (List Rec)} {a1 : List UInt8} {v_a0 : Value} (f_a0 : Rd2 5 encRec w v_a0 a0) (h0 : a0.length ≤ 1048576) (h1 : a1.length ≤ 1048576) (h2 : ∀ l ∈ a0, l.length ≤ 1048576) :
    Calls Tryz.prog 187 #[v_a0, S a1] w (Rt (RP w (.int .i64 (cutD a0 a1)))) := by
  obtain ⟨k, h⟩ := spec_l07Cut.eq a0 a1 h0 h1 h2
  exact spec_l07Cut.walk f_a0 h
/-! impl.isLongList(()impl.Record) -/
theorem impl_isLongListSS.walk {w : World} {a0 : List (List Rec)} {v_a0 : Value} (f_a0 : Rd2 5 encRec w v_a0 a0) {r : Bool} (H : impl_isLongListSS.sh a0 = some r) :
    Calls Tryz.prog 82 #[v_a0] w (Rt (RP w (.bool r))) := by
  unfold impl_isLongListSS.sh at H
  refine calls_of_W Tryz.func82 rfl (Nat.le_of_ble_eq_true rfl) Tryz.ntmps82 rfl ?_
  refine W_seq <| W_reg <| L_op (.plain rfl) rfl (ltb rfl) (X_assign (v := (.bool false)) rfl) <| L_nil <| thn_n <| W_seq <| W_reg <| L_op (.plain rfl) rfl (ltb rfl) (X_move (v := v_a0) rfl) <| L_op (.plain rfl) rfl (ltb rfl) (X_lenR2 Tryz.underlying39 rfl f_a0) <| L_op (.plain rfl) rfl (ltb rfl) (X_gtr rfl rfl) <| L_op (.plain rfl) rfl (ltb rfl) (X_assign (v := (.bool (decide (4096 < (a0.length : Int))))) rfl) <| L_nil <| thn_n <| W_ret <| fin_r ?_
  obtain rfl := Option.some.inj H
  exact fin1 rfl (Ext.refl w)
theorem impl_isLongListSS.calls {w : World} {a0 : List (List Rec)} {v_a0 : Value} (f_a0 : Rd2 5 encRec w v_a0 a0) :
    Calls Tryz.prog 82 #[v_a0] w (Rt (RP w (.bool (decide (4096 < a0.length))))) := impl_isLongListSS.walk f_a0 (impl_isLongListSS.eq a0)
/-! impl.stackCode -/
theorem impl_stackCode.walk {w : World} {a0 : List (List Rec)} (gv : GV 0 w) {v_a0 : Value} (f_a0 : Rd2 5 encRec w v_a0 a0) {r : Int} (H : impl_stackCode.sh a0 = some r) :
    Calls Tryz.prog 79 #[v_a0] w (Rt (RP w (.int .i64 r))) := by
  unfold impl_stackCode.sh at H
  refine calls_of_W Tryz.func79 rfl (Nat.le_of_ble_eq_true rfl) Tryz.ntmps79 rfl ?_
  refine W_seq <| W_reg <| L_op (.plain rfl) rfl (ltb rfl) (X_assign (v := (.int .i64 0)) rfl) <| L_nil <| thn_n <| W_seq <| W_reg <| L_op (.plain rfl) rfl (ltb rfl) (X_move (v := v_a0) rfl) <| L_callP (.plain rfl) rfl (ltb rfl) rfl Tryz.call82 (impl_isLongListSS.calls (w := w) (a0 := a0) f_a0) rfl <| fun w1 e2 => L_op (.plain rfl) rfl (ltb rfl) (X_mkiface Tryz.underlying4 rfl rfl) <| L_op (.plain rfl) rfl (ltb rfl) (X_mkiface Tryz.underlying3 rfl rfl) <| L_op (.plain rfl) rfl (ltb rfl) (X_move (v := v_a0) rfl) ?_
  obtain ⟨c3, H⟩ := bif_some H
  obtain ⟨c4, H⟩ := bif_some H
  obtain ⟨c5, H⟩ := bif_some H
  refine L_callP (.plain rfl) rfl (ltb rfl) rfl Tryz.call83 (impl_StackOK.calls (w := w1) (a0 := a0) (GV.ext gv e2) (Rd2.ext f_a0 e2) (of_decide_eq_true c3) (of_decide_eq_true c4) (of_decide_eq_true c5)) rfl <| fun w6 e7 => L_op (.plain rfl) rfl (ltb rfl) (X_not rfl) <| L_op (.plain rfl) rfl (ltb rfl) (X_mkiface Tryz.underlying4 rfl rfl) <| L_op (.plain rfl) rfl (ltb rfl) (X_mkiface Tryz.underlying3 rfl rfl) <| L_lit (.plain rfl) rfl (ltb rfl) rfl Tryz.underlying119 Tryz.sizeOf20 Tryz.zeroValue20 rfl rfl rfl (vs := [(.iface 4 (.bool (decide (4096 < a0.length)))), (.iface 3 (.int .i64 2)), (.iface 4 (.bool (!(stackOK a0)))), (.iface 3 (.int .i64 1))]) rfl (lit_all rfl) <| fun b8 w9 z10 z11 e12 k13 => ?_
  obtain ⟨c14, H⟩ := bif_some H
  obtain ⟨z17, x18, H⟩ := bind_some H
  replace x18 := Option.some.inj x18
  refine L_callP (.plain rfl) rfl (ltb rfl) rfl Tryz.call68 (impl_first.calls (w := w9) (a0 := ([.inl (decide (4096 < a0.length)), .inr 2, .inl (!(stackOK a0)), .inr 1] : List (Bool ⊕ Int))) (Ow.rd (Ow.new (xs := [.inl (decide (4096 < a0.length)), .inr 2, .inl (!(stackOK a0)), .inr 1]) (sz := 1) (enc := (encAny 4 3)) (base := w6.heap.size) k13 (Nat.le_of_eq z10) rfl (fun _ _ => by first | rfl | exact encAny_len _ _ _) (Nat.le_of_ble_eq_true rfl))) (of_decide_eq_true c14)) rfl <| fun w15 e16 => L_op (.plain rfl) rfl (ltb rfl) (X_assign (v := (.int .i64 z17)) (congrArg (Value.int .i64) x18)) <| L_nil <| thn_n <| W_ret <| fin_r ?_
  obtain rfl := Option.some.inj H
  exact fin1 rfl (Ext.trans (Ext.trans (Ext.trans e2 e7) e12) e16)
theorem impl_stackCode.calls {w : World} {a0 : List (List Rec)} (gv : GV 0 w) {v_a0 : Value} (f_a0 : Rd2 5 encRec w v_a0 a0) (h0 : a0.length ≤ 1048576) (h1 : ∀ l ∈ a0, l.length ≤ 1048576) (h2 : ∀ l ∈ a0, ∀ x ∈ l, x.path.length ≤ 1048576) :
    Calls Tryz.prog 79 #[v_a0] w (Rt (RP w (.int .i64 (stackCode a0)))) := impl_stackCode.walk gv f_a0 (impl_stackCode.eq a0 h0 h1 h2)
/-! slices.Backward(()()impl.Record,()impl.Record), by text -/
theorem slices_BackwardSS_it.stops {w0 : World} {v : Value} {b0 : Nat} {vs : List Value} (hlen : vs.length ≤ 4611686018427387904) {Kp : World → World → Prop} {H : World → Prop}
    (hH : ∀ W, Below w0.heap.size w0 W → H W) (hK : ∀ W W', H W → Kp W W' → H W') (hHB : ∀ W, H W → Blk W b0 #[v] 39) (hHR : ∀ W, H W → Rd 1 encV W v vs) {n : Nat} :
    SeqStopsK Fence.wide n Tryz.prog 230 #[.pointer (some ⟨b0, 0, none⟩)] (fun i : Fin vs.length => #[.int .i64 (i.val : Int), vs.getD i.val undef]) Kp (fun l => l = downTo vs.length) (fun l => l <+: downTo vs.length) vs.length w0 := by
  letI : Inhabited Value := ⟨undef⟩
  intro l J Jx W hW hJ hJx hY h0
  have hH1 := hH W hW
  have hB1 := hHB W hH1
  have hR1 := hHR W hH1
  refine callsIn_of_WI Tryz.func230 rfl (Nat.le_of_ble_eq_true rfl) Tryz.ntmps230 ?_
  refine WI_seq <| WI_reg <| LI_op openWide rfl rfl rfl (ltb rfl) (X_loadB (v := v) Tryz.isAgg39 hB1 rfl rfl) <| LI_op openWide rfl rfl rfl (ltb rfl) (X_lenR Tryz.underlying39 rfl hR1) <| LI_op openWide rfl rfl rfl (ltb rfl) (X_sub rfl rfl) <|
    LI_op openWide rfl rfl rfl (ltb rfl) (X_assign (v := .int .i64 ((vs.length : Int) - 1)) (congrArg (Value.int .i64) (Go.UL.wrap_small (by omega) (by omega)))) <| LI_nil ?_
  refine WI_block <| WI_loop (fun m σ W' => σ 3 = .int .i64 ((m : Int) - 1) ∧ σ 0 = .func (.yield l) #[] #[] ∧ σ 1 = .pointer (some ⟨b0, 0, none⟩) ∧ m ≤ vs.length ∧ J ((downTo vs.length).take (vs.length - m)) W' ∧ H W') vs.length ⟨rfl, rfl, rfl, Nat.le_refl _, by simpa using h0, hH1⟩ ?_
  rintro m σ W' ⟨h3, h00, h1, hm, hj, hH2⟩
  have hB2 := hHB _ hH2
  have hR2 := hHR _ hH2
  refine WI_seq <| WI_seq <| WI_reg <| LI_op openWide rfl rfl rfl (ltb rfl) (X_move h3) <| LI_op openWide rfl rfl rfl (ltb rfl) (X_geq rfl rfl) <| LI_nil ?_
  refine WI_cond (decide ((0 : Int) ≤ (m : Int) - 1)) rfl (fun hm1 => WI_skip ?_) (fun hm1 => WI_exit ?_)
  · have hm2 : (0 : Int) ≤ (m : Int) - 1 := of_decide_eq_true hm1
    obtain ⟨m, rfl⟩ : ∃ j, m = j + 1 := ⟨m - 1, by omega⟩
    have e1 : ((m + 1 : Nat) : Int) - 1 = (m : Int) := by omega
    have hlt : m < vs.length := by omega
    have hin : inR (((m + 1 : Nat) : Int) - 1) vs.length = true := by rw [e1]; exact inR_nat hlt
    have hg : gt vs (((m + 1 : Nat) : Int) - 1) = vs.getD m undef := by rw [e1]; rfl
    refine WI_seq <| WI_block <| WI_seq <| WI_reg <| LI_op openWide rfl rfl rfl (ltb rfl) (X_move h00) <| LI_op openWide rfl rfl rfl (ltb rfl) (X_move h3) <| LI_op openWide rfl rfl rfl (ltb rfl) (X_loadB (v := v) Tryz.isAgg39 hB2 h1 rfl) <| LI_op openWide rfl rfl rfl (ltb rfl) (X_move h3) <|
      LI_idx openWide rfl rfl rfl (ltb rfl) rfl Tryz.underlying39 Tryz.sizeOf28 rfl hR2 rfl hin <| fun p hA => LI_op openWide rfl rfl rfl (ltb rfl) (X_loadAt (v := vs.getD m undef) Tryz.isAgg28 rfl hA (by rw [hg]; rfl)) <| ?_
    have hpre : ((downTo vs.length).take (vs.length - (m + 1))).length < vs.length := by simp [downTo]; omega
    refine LI_yield openWide (vs := #[.int .i64 (((m + 1 : Nat) : Int) - 1), vs.getD m undef]) (A := fun b w1 => (b = true ∧ J ((downTo vs.length).take (vs.length - m)) w1 ∧ Kp W' w1) ∨ (b = false ∧ Jx ((downTo vs.length).take (vs.length - m)) w1)) rfl rfl (ltb rfl) rfl rfl rfl rfl ?_ ?_
    · obtain ⟨fn, tmps, assign, body, hy, hRd⟩ := hY _ ⟨m, hlt⟩ W' hj hpre
      rw [e1]
      refine ⟨fn, tmps, assign, body, hy, RoundIn.mono hRd fun e w1 hr => ?_⟩
      rw [downTo_take vs.length m hlt] at hr
      rcases hr with ⟨rfl, hj', hk⟩ | ⟨rfl, hj'⟩
      · exact ⟨true, rfl, .inl ⟨rfl, hj', hk⟩⟩
      · exact ⟨false, rfl, .inr ⟨rfl, hj'⟩⟩
    · intro b w1 hb
      refine LI_op openWide rfl rfl rfl (ltb rfl) (X_not rfl) <| LI_nil ?_
      rcases hb with ⟨rfl, hj', hk⟩ | ⟨rfl, hj'⟩
      · have hH3 := hK _ _ hH2 hk
        refine WI_cond false rfl (fun h => by cases h) (fun _ => WI_skip ?_)
        refine WI_reg <| LI_op openWide rfl rfl rfl (ltb rfl) (X_move h3) <| LI_op openWide rfl rfl rfl (ltb rfl) (X_sub rfl rfl) <| LI_op openWide rfl rfl rfl (ltb rfl) (X_assign (v := .int .i64 ((m : Int) - 1)) (congrArg (Value.int .i64) (by rw [e1]; exact Go.UL.wrap_small (by omega) (by omega)))) <| LI_nil ?_
        exact ⟨rfl, m, by omega, rfl, h00, h1, by omega, hj', hH3⟩
      · refine WI_cond true rfl (fun _ => WI_ret ?_) (fun h => by cases h)
        exact ⟨.inr rfl, .inl ⟨rfl, .tuple #[], fun tmps _ => results_none (fn := Tryz.f230) rfl tmps _ _, ⟨_, rfl⟩, .inr ⟨_, downTo_pre _ _, hj'⟩⟩⟩
  · have hm2 : ¬ (0 : Int) ≤ (m : Int) - 1 := of_decide_eq_false hm1
    have hm0 : m = 0 := by omega
    subst hm0
    have hf : (downTo vs.length).take (vs.length - 0) = downTo vs.length := by rw [Nat.sub_zero]; exact List.take_of_length_le (by simp [downTo])
    rw [hf] at hj
    exact ⟨.inl rfl, .inl ⟨rfl, .tuple #[], fun tmps _ => results_none (fn := Tryz.f230) rfl tmps _ _, ⟨_, rfl⟩, .inl ⟨_, rfl, hj⟩⟩⟩
theorem slices_BackwardSS.calls {w : World} {v : Value} {A : Option Addr} {len cap : Nat} (hv : v = .slice A len cap) :
    Calls Tryz.prog 188 #[v] w (Rt (fun u w' => Ext w w' ∧ ∃ b, w.heap.size ≤ b ∧ Blk w' b #[v] 39 ∧ u = .func (.func 230) #[] #[.pointer (some ⟨b, 0, none⟩)])) := by
  refine calls_of_W Tryz.func188 rfl (Nat.le_of_ble_eq_true rfl) Tryz.ntmps188 rfl ?_
  refine W_seq <| W_reg <| L_box (.plain rfl) rfl (ltb rfl) rfl rfl <| fun b w1 hb hb1 he hB => L_op (.plain rfl) rfl (ltb rfl) (X_assign rfl) <| L_nil <| thn_n <| W_seq <| W_reg <| L_op (.plain rfl) rfl (ltb rfl) (X_makeFunc (vs := #[]) (us := #[.pointer (some ⟨b, 0, none⟩)]) rfl rfl) <|
    L_op (.plain rfl) rfl (ltb rfl) (X_assign rfl) <| L_nil <| thn_n <| W_ret <| fin_r ?_
  refine ⟨_, rfl, he, b, by omega, ?_, rfl⟩
  subst hv
  exact hB

/-! impl.cutDepth, by text -/
theorem impl_cutDepth.calls {w : World} {a0 : List (List Rec)} {a1 : List UInt8} {v_a0 : Value} (f_a0 : Rd2 5 encRec w v_a0 a0) (h0 : a0.length ≤ 1048576) (h1 : a1.length ≤ 1048576) (h2 : ∀ l ∈ a0, l.length ≤ 1048576) :
    Calls Tryz.prog 147 #[v_a0, S a1] w (Rt (RP w (.int .i64 (cutD a0 a1)))) := by
  letI : Inhabited Value := ⟨undef⟩
  have hcs := f_a0.shape
  obtain ⟨vs, hl, hR, hi⟩ := f_a0
  obtain ⟨A0, c0, hv0⟩ := hcs
  refine callsIn_wide.1 (callsIn_of_WI (n := 3) Tryz.func147 rfl (Nat.le_of_ble_eq_true rfl) Tryz.ntmps147 ?_)
  refine WI_seq <| WI_reg <| LI_box openWide rfl rfl rfl (ltb rfl) rfl rfl <| fun b3 w1 hz1 hz1' e1 k3 => LI_alloc openWide rfl rfl rfl (ltb rfl) rfl Tryz.zeroValue3 <| fun b4 w2 hz2 hz2' e2 k4 => LI_nil ?_
  refine WI_seq <| WI_seq <| WI_reg <| LI_op openWide rfl rfl rfl (ltb rfl) (X_move (v := v_a0) rfl) <| LI_callA openWide (vs := #[v_a0]) rfl rfl (ltb rfl) rfl Tryz.call188 (slices_BackwardSS.calls hv0) rfl <| fun u w3 hA => ?_
  obtain ⟨e3, b8, hb8, k8, rfl⟩ := hA
  refine LI_nil ?_
  have eA : Ext w w3 := Ext.trans (Ext.trans e1 e2) e3
  have k3' : Blk w3 b3 #[S a1] 9 := k3.ext (Ext.trans e2 e3)
  have k4' : Blk w3 b4 #[.int .i64 0] 3 := k4.ext e3
  have hne : w.heap.size ≤ b4 := by have := e1.size; omega
  refine WI_block <| WI_range (n := 3) (α := Fin vs.length) (by omega) (gf := 230) rfl Tryz.call230
    (slices_BackwardSS_it.stops (w0 := w3) (v := v_a0) (b0 := b8) (vs := vs) (by omega) (Kp := Below w3.heap.size) (H := Below w3.heap.size w3) (fun _ h => h) (fun _ _ h k => h.trans k) (fun W h => k8.ext h) (fun W h => (hR.ext eA).ext h) (n := 3 - 1))
    (fun h k => h.trans k) (belowK_b (Nat.le_refl _)) (Below.refl _ _) (fun _ => rfl)
    (fun pre W => Ext w3 W ∧ ∀ i ∈ pre, cutsR (a0.getD i.val default) a1 = false)
    (fun c pre W => c = .ret ∧ ∃ i p, pre = p ++ [i] ∧ (∀ j ∈ p, cutsR (a0.getD j.val default) a1 = false) ∧ cutsR (a0.getD i.val default) a1 = true ∧ Ext w W ∧ Blk W b4 #[.int .i64 ((i.val : Int) + 1)] 3)
    ?_ ?_ ⟨Ext.refl _, by simp⟩
    (fun i => upd (upd (upd (upd (upd (upd (upd (upd (fun t => (#[v_a0, S a1] : Array Value).getD t undef) 3 (.pointer (some ⟨b3, 0, none⟩))) 4 (.pointer (some ⟨b4, 0, none⟩))) 7 v_a0) 8 (.func (.func 230) #[] #[.pointer (some ⟨b8, 0, none⟩)])) 9 (.int .i64 (i.val : Int))) 10 (vs.getD i.val undef)) 5 (.int .i64 (i.val : Int))) 6 (vs.getD i.val undef))
    ?_ ?_ ?_ ?_ ?_
  · intro s W W' row hs hg hr
    exact ⟨hs.1.grow hg (Nat.le_refl _) hr, hs.2⟩
  · intro c s W W' row hs hg hr
    obtain ⟨hc, i, p, h1, h2, h3, h4, h5⟩ := hs
    exact ⟨hc, i, p, h1, h2, h3, h4.grow hg eA.size hr, h5.grow hg hr⟩
  · intro hf x
    exact upd_far (by decide) (upd_far (by decide) (upd_far (by decide) (upd_far (by decide) hf)))
  · intro l x W a K ha hK
    refine ⟨_, ha.two 9 10 (by decide) (by decide) (.int .i64 (x.val : Int)) (vs.getD x.val undef), ?_⟩
    refine WI_seq <| WI_reg <| LI_op (openRound l) rfl rfl rfl (ltb rfl) (X_assign rfl) <| LI_nil <| ?_
    exact WI_reg <| LI_op (openRound l) rfl rfl rfl (ltb rfl) (X_assign rfl) <| LI_nil hK
  · rintro l pre x W ⟨eW, hpre⟩ hlen
    have hx : x.val < a0.length := by have := x.isLt; omega
    have hu : Rd 5 encRec W (vs.getD x.val undef) (a0.getD x.val default) := by
      have := hi x.val vs[x.val] a0[x.val] (List.getElem?_eq_getElem x.isLt) (List.getElem?_eq_getElem hx)
      have e : vs.getD x.val undef = vs[x.val] := by simp [List.getD_eq_getElem?_getD]
      rw [e, getD_el hx]
      exact (this.ext eA).ext eW
    have hlx : (a0.getD x.val default).length ≤ 1048576 := by rw [getD_el hx]; exact h2 _ (List.getElem_mem hx)
    refine WI_block <| WI_seq <| WI_reg <| LI_op (openRound l) rfl rfl rfl (ltb rfl) (X_move (v := vs.getD x.val undef) rfl) <| LI_op (openRound l) rfl rfl rfl (ltb rfl) (X_loadB (v := S a1) Tryz.isAgg9 (k3'.ext eW) rfl rfl) <|
      LI_callA (openRound l) (vs := #[vs.getD x.val undef, S a1]) rfl rfl (ltb rfl) rfl Tryz.call134 (impl_cuts.calls (w := W) (a0 := a0.getD x.val default) (a1 := a1) hu hlx h1) rfl <| fun u w5 hA => ?_
    obtain ⟨e5, rfl⟩ := hA
    refine LI_nil ?_
    refine WI_cond (cutsR (a0.getD x.val default) a1) rfl (fun hc => ?_) (fun hc => WI_skip ?_)
    · refine WI_seq <| WI_reg <| LI_op (openRound l) rfl rfl rfl (ltb rfl) (X_move (v := .int .i64 (x.val : Int)) rfl) <| LI_op (openRound l) rfl rfl rfl (ltb rfl) (X_add rfl rfl) <|
        LI_store1 (openRound l) rfl rfl rfl Tryz.sizeOf3 rfl rfl rfl ((k4'.ext eW).ext e5) (ltb rfl) <| fun w6 hw6 k6 => LI_nil <| WI_ret ?_
      refine ⟨(keeps_ext e5).trans (keeps_wr hw6 ((k4'.ext eW).ext e5)), rfl, x, pre, rfl, hpre, hc, Ext.wr (Ext.trans (Ext.trans eA eW) e5) hw6 hne (Nat.le_refl _), ?_⟩
      have e : IntKind.wrap .i64 ((x.val : Int) + 1) = (x.val : Int) + 1 := Go.UL.wrap_small (by omega) (by omega)
      rw [← e]; exact k6
    · refine ⟨keeps_ext e5, e5.mono eW.size, Ext.trans eW e5, ?_⟩
      intro i hi
      rcases List.mem_append.1 hi with h | h
      · exact hpre i h
      · obtain rfl := List.mem_singleton.1 h; exact hc
  · rintro D xs W hD hS ⟨eW, hpre⟩ hk
    refine WI_seq <| WI_reg <| LI_store1 openWide rfl rfl rfl Tryz.sizeOf3 rfl rfl rfl (k4'.ext eW) (ltb rfl) <| fun w6 hw6 k6 => LI_nil <| WI_ret ?_
    have hz : cutD a0 a1 = 0 := cutDN_none a0.length fun j hj => hpre ⟨j, by omega⟩ (by rw [hS]; exact downTo_all _)
    have hk6 : w6.heap[D]? = some (.deferred (some [])) := (keeps_wr hw6 (k4'.ext eW)).same D _ hk rfl
    have e6 : Ext w w6 := Ext.wr (Ext.trans eA eW) hw6 hne (Nat.le_refl _)
    refine ⟨.inr rfl, .inr ⟨D, rfl, hk6, .int .i64 0, fun tmps hg => res_cell1 rfl Tryz.isAgg3 (putD_blk k6 _ hk6) tmps (hg 4), ⟨_, rfl, putD_ext e6 (by have := eA.size; omega) _ hk6, by rw [hz]⟩⟩⟩
  · rintro D c pre W hD hS ⟨rfl, i, p, rfl, h3, h4, h5, h6⟩ hk
    refine WI_ret ?_
    have hz : cutD a0 a1 = (i.val : Int) + 1 := cutDN_some a0.length (by have := i.isLt; omega) h4 fun j hj1 hj2 => h3 ⟨j, by omega⟩ (downTo_split hS ⟨j, by omega⟩ hj1)
    exact ⟨.inr rfl, .inr ⟨D, rfl, hk, _, fun tmps hg => res_cell1 rfl Tryz.isAgg3 (putD_blk h6 _ hk) tmps (hg 4), ⟨_, rfl, putD_ext h5 (by have := eA.size; omega) _ hk, by rw [hz]⟩⟩⟩

/-! spec.l07Winner -/
theorem spec_l07Winner.walk {k : Nat} {w : World} {a0 : List (List Rec)} {a1 : List UInt8} {v_a0 : Value} (f_a0 : Rd2 5 encRec w v_a0 a0) {r : Rec × Int} (H : spec_l07Winner.sh k a0 a1 = some r) :
    Calls Tryz.prog 146 #[v_a0, S a1] w (Rt (RP w (.tuple #[.agg (encRec r.1).toArray, .int .i64 r.2]))) := by
  unfold spec_l07Winner.sh at H
  refine calls_of_WG Tryz.func146 rfl (Nat.le_of_ble_eq_true rfl) Tryz.ntmps146 ?_
  refine W_seq <| W_reg <| L_alloc (.plain rfl) rfl (ltb rfl) rfl Tryz.zeroValue78 <| fun b1 w2 z3 z4 e5 k6 => L_op (.plain rfl) rfl (ltb rfl) (X_assign (v := (.int .i64 0)) rfl) <| L_nil <| thn_n <| W_seq <| W_reg <| L_op (.plain rfl) rfl (ltb rfl) (X_move (v := v_a0) rfl) <| L_op (.plain rfl) rfl (ltb rfl) (X_move (v := (S a1)) rfl) ?_
  obtain ⟨c7, H⟩ := bif_some H
  obtain ⟨c8, H⟩ := bif_some H
  obtain ⟨c9, H⟩ := bif_some H
  refine L_callP (.plain rfl) rfl (ltb rfl) rfl Tryz.call187 (spec_l07Cut.calls (w := w2) (a0 := a0) (a1 := a1) (Rd2.ext f_a0 e5) (of_decide_eq_true c7) (of_decide_eq_true c8) (of_decide_eq_true c9)) rfl <| fun w10 e11 => L_op (.plain rfl) rfl (ltb rfl) (X_max rfl rfl) <| L_op (.plain rfl) rfl (ltb rfl) (X_assign (v := (.int .i64 (if ((cutD a0 a1) < 1 : Prop) then 1 else (cutD a0 a1)))) rfl) <| L_nil <| thn_n <| W_seq <| W_reg <| L_op (.plain rfl) rfl (ltb rfl) (X_build1 (vs := []) (pl := #[(0, 1), (1, 1), (2, 1), (3, 1), (4, 1)]) Tryz.underlying78 Tryz.zeroValue78 rfl (fun _ => by kernel_rfl) rfl rfl rfl) <| L_alloc (.plain rfl) rfl (ltb rfl) rfl Tryz.zeroValue78 <| fun b12 w13 z14 z15 e16 k17 => L_storeA (.plain rfl) rfl rfl Tryz.sizeOf78 rfl rfl rfl rfl rfl k17 <| fun w18 h19 k20 => L_nil <| thn_n <| W_seq <| W_reg <| L_op (.plain rfl) rfl (ltb rfl) (X_assign (v := (.int .i64 0)) rfl) <| L_nil <| thn_n <| W_seq <| W_seq <| W_reg <| L_op (.plain rfl) rfl (ltb rfl) (X_move (v := v_a0) rfl) <| L_op (.plain rfl) rfl (ltb rfl) (X_lenR2 Tryz.underlying39 rfl (Rd2.ext f_a0 (Ext.trans (Ext.trans e5 e11) (Below.trans e16 (Wr.below h19 (Nat.le_of_eq z14)))))) <| L_op (.plain rfl) rfl (ltb rfl) (X_assign (v := (.int .i64 (a0.length : Int))) rfl) <| L_nil <| thn_n ?_
  obtain ⟨z24, L25, C26⟩ := bind_some H
  clear H
  refine  W_cutQ (fun s0 sQ wQ => ∃ (x8_27 : Int) (y28 : Rec), Kp [(5, 6), (8, 12), (19, 53)] s0 sQ ∧ sQ 8 = .int .i64 x8_27 ∧ Blk wQ b12 (encRec y28).toArray 78 ∧ Ext w10 wQ ∧ z24 = .inr (x8_27, y28)) ?_ ?_
  · refine W_block <| W_loopI (fun s0 kk sQ wQ => ∃ (x8_21 : Int) (x9_22 : Int) (y23 : Rec), Kp [(5, 6), (8, 12), (19, 53)] s0 sQ ∧ sQ 8 = .int .i64 x8_21 ∧ sQ 9 = .int .i64 x9_22 ∧ Blk wQ b12 (encRec y23).toArray 78 ∧ Ext w10 wQ ∧ loopF (spec_l07Winner.b1 a0 a1) kk (x8_21, x9_22, y23) = some z24) k ⟨0, (a0.length : Int), (⟨0, ([] : List UInt8), ([] : List UInt8), 0, false⟩ : Rec), (Kp.refl _ _), rfl, rfl, k20, (Below.trans e16 (Wr.below h19 (Nat.le_of_eq z14))), L25⟩ ?_
    rintro k33 s34 w35 ⟨x8_21, x9_22, y23, K36, h39, h40, h41, e37, L38⟩
    cases k33 with
    | zero => exact absurd L38 (by simp [loopF])
    | succ k33 =>
      obtain ⟨t42, H, S43⟩ := loopF_succ L38
      clear L38
      unfold spec_l07Winner.b1 at H
      refine W_seq <| W_seq <| W_reg <| L_op (.plain rfl) rfl (ltb rfl) (X_move (v := (.int .i64 x9_22)) h40) <| L_op (.plain rfl) rfl (ltb rfl) (X_move (v := (.int .i64 (if ((cutD a0 a1) < 1 : Prop) then 1 else (cutD a0 a1)))) (K36 6 rfl)) <| L_op (.plain rfl) rfl (ltb rfl) (X_geq rfl rfl) <| L_nil <| thn_n ?_
      rcases bif_two H with ⟨q44, H⟩ | ⟨q44, H⟩
      · refine W_true (congrArg Value.bool q44) <| W_skip <| thn_n <| W_seq <| W_block <| W_seq <| W_reg <| L_op (.plain rfl) rfl (ltb rfl) (X_move (v := v_a0) (K36 0 rfl)) <| L_op (.plain rfl) rfl (ltb rfl) (X_move (v := (.int .i64 x9_22)) h40) <| L_op (.plain rfl) rfl (ltb rfl) (X_sub rfl rfl) ?_
        obtain ⟨c45, H⟩ := bif_some H
        refine L_idx2 (.plain rfl) rfl (ltb rfl) rfl Tryz.underlying39 Tryz.sizeOf28 rfl (Rd2.ext f_a0 (Ext.trans (Ext.trans e5 e11) e37)) rfl c45 <| fun p46 v48 h47 h49 => L_op (.plain rfl) rfl (ltb rfl) (X_loadAt Tryz.isAgg28 rfl h47 rfl) <| L_op (.plain rfl) rfl (ltb rfl) (X_move (v := (S a1)) (K36 1 rfl)) ?_
        obtain ⟨c50, H⟩ := bif_some H
        refine L_callP (.plain rfl) rfl (ltb rfl) rfl Tryz.call137 (spec_l03At.calls (w := w35) (a0 := gt a0 (IntKind.wrap .i64 (x9_22 - 1))) (a1 := a1) h49 (of_decide_eq_true c50)) rfl <| fun w51 e52 => L_op (.plain rfl) rfl (ltb rfl) (X_assign (v := (.int .i64 (findR (gt a0 (IntKind.wrap .i64 (x9_22 - 1))) a1))) rfl) <| L_nil <| thn_n <| W_seq <| W_seq <| W_reg <| L_op (.plain rfl) rfl (ltb rfl) (X_move (v := (.int .i64 (findR (gt a0 (IntKind.wrap .i64 (x9_22 - 1))) a1))) rfl) <| L_op (.plain rfl) rfl (ltb rfl) (X_lss rfl rfl) <| L_nil <| thn_n ?_
        rcases bif_two H with ⟨q53, H⟩ | ⟨q53, H⟩
        · refine W_true (congrArg Value.bool q53) <| W_exit <| thn_x <| blk_x <| thn_n <| W_reg <| L_op (.plain rfl) rfl (ltb rfl) (X_move (v := (.int .i64 x9_22)) h40) <| L_op (.plain rfl) rfl (ltb rfl) (X_sub rfl rfl) <| L_op (.plain rfl) rfl (ltb rfl) (X_assign (v := (.int .i64 (IntKind.wrap .i64 (x9_22 - 1)))) rfl) <| L_nil <| thn_n ?_
          obtain rfl := Option.some.inj H
          exact ⟨_, Nat.lt_succ_self _, x8_21, IntKind.wrap .i64 (x9_22 - 1), y23, (Kp.upd (Kp.upd (Kp.upd (Kp.upd (Kp.upd (Kp.upd (Kp.upd (Kp.upd (Kp.upd (Kp.upd (Kp.upd (Kp.upd (Kp.upd (Kp.upd (Kp.upd (Kp.upd K36 rfl) rfl) rfl) rfl) rfl) rfl) rfl) rfl) rfl) rfl) rfl) rfl) rfl) rfl) rfl) rfl), h39, rfl, (Blk.ext h41 e52), (Ext.trans e37 e52), S43⟩
        · refine W_false (congrArg Value.bool q53) <| W_skip <| thn_n <| W_seq <| W_reg <| L_op (.plain rfl) rfl (ltb rfl) (X_move (v := v_a0) (K36 0 rfl)) <| L_op (.plain rfl) rfl (ltb rfl) (X_move (v := (.int .i64 x9_22)) h40) <| L_op (.plain rfl) rfl (ltb rfl) (X_sub rfl rfl) ?_
          obtain ⟨c54, H⟩ := bif_some H
          refine L_idx2 (.plain rfl) rfl (ltb rfl) rfl Tryz.underlying39 Tryz.sizeOf28 rfl (Rd2.ext f_a0 (Ext.trans (Ext.trans (Ext.trans e5 e11) e37) e52)) rfl c54 <| fun p55 v57 h56 h58 => L_op (.plain rfl) rfl (ltb rfl) (X_loadAt Tryz.isAgg28 rfl h56 rfl) <| L_op (.plain rfl) rfl (ltb rfl) (X_move (v := (.int .i64 (findR (gt a0 (IntKind.wrap .i64 (x9_22 - 1))) a1))) rfl) ?_
          obtain ⟨c59, H⟩ := bif_some H
          refine L_idx (.plain rfl) rfl (ltb rfl) rfl Tryz.underlying28 Tryz.sizeOf78 rfl h58 rfl c59 <| fun p60 h61 => L_op (.plain rfl) rfl (ltb rfl) (X_loadS Tryz.isAgg78 Tryz.sizeOf78 rfl rfl h61) <| L_alloc (.plain rfl) rfl (ltb rfl) rfl Tryz.zeroValue78 <| fun b62 w63 z64 z65 e66 k67 => L_storeA (.plain rfl) rfl rfl Tryz.sizeOf78 rfl rfl rfl rfl rfl k67 <| fun w68 h69 k70 => L_nil <| thn_n <| W_seq <| W_seq <| W_reg <| L_op (.plain rfl) rfl (ltb rfl) (X_move (v := (.int .i64 x8_21)) h39) <| L_op (.plain rfl) rfl (ltb rfl) (X_eql rfl rfl) <| L_nil <| thn_n ?_
          rcases bif_two H with ⟨q71, H⟩ | ⟨q71, H⟩
          · refine W_true (congrArg Value.bool q71) <| W_seq <| W_reg <| L_op (.plain rfl) rfl (ltb rfl) (X_loadS Tryz.isAgg78 Tryz.sizeOf78 rfl rfl (Blk.at0 k70)) <| L_storeA (.plain rfl) rfl rfl Tryz.sizeOf78 (K36 7 rfl) rfl rfl rfl rfl (Blk.ext h41 (Ext.trans e52 (Below.trans e66 (Wr.below h69 (Nat.le_of_eq z64))))) <| fun w72 h73 k74 => L_nil <| thn_n <| W_reg <| L_op (.plain rfl) rfl (ltb rfl) (X_move (v := (.int .i64 x9_22)) h40) <| L_op (.plain rfl) rfl (ltb rfl) (X_assign (v := (.int .i64 x9_22)) rfl) <| L_nil <| thn_n <| W_seq <| W_reg <| L_op (.plain rfl) rfl (ltb rfl) (X_loadS Tryz.isAgg78 Tryz.sizeOf78 rfl rfl (Blk.at0 (Wr.blk h73 k70 (fun e9 => by have e8 : b62 = b12 := e9; clear e9; have h9 := Blk.lt (Blk.ext h41 e52); have h8 := z64; omega)))) ?_
            obtain ⟨z77, x78, H⟩ := bind_some H
            replace x78 := Option.some.inj x78
            refine L_callP (.plain rfl) rfl (ltb rfl) rfl Tryz.call182 (spec_l06Stops.calls (w := w72) (a0 := (gt (gt a0 (IntKind.wrap .i64 (x9_22 - 1))) (findR (gt a0 (IntKind.wrap .i64 (x9_22 - 1))) a1)))) rfl <| fun w75 e76 => L_nil <| thn_n ?_
            rcases bif_two H with ⟨q79, H⟩ | ⟨q79, H⟩
            · refine W_true ((congrArg Value.bool x78).trans (congrArg Value.bool q79)) <| W_seq <| W_reg <| L_op (.plain rfl) rfl (ltb rfl) (X_fieldAddr Tryz.underlying78 rfl Tryz.sizeOf3 rfl (K36 7 rfl)) <| L_op (.plain rfl) rfl (ltb rfl) (X_loadB Tryz.isAgg3 (Blk.ext k74 e76) rfl rfl) <| L_op (.plain rfl) rfl (ltb rfl) (X_eql rfl rfl) <| L_op (.plain rfl) rfl (ltb rfl) (X_fieldAddr Tryz.underlying78 rfl Tryz.sizeOf4 rfl (K36 7 rfl)) <| L_store1 (.plain rfl) rfl rfl Tryz.sizeOf4 rfl rfl rfl (Blk.ext k74 e76) (ltb rfl) <| fun w80 h81 k82 => L_nil <| thn_n <| W_seq <| W_reg <| L_op (.plain rfl) rfl (ltb rfl) (X_loadS Tryz.isAgg78 Tryz.sizeOf78 rfl (K36 7 rfl) (Blk.at0 k82)) <| L_op (.plain rfl) rfl (ltb rfl) (X_move (v := (.int .i64 x9_22)) rfl) <| L_storeA (.plain rfl) rfl rfl Tryz.sizeOf78 (K36 4 rfl) rfl rfl rfl rfl (Blk.ext k6 (Ext.trans e11 (Below.trans (Ext.trans (Below.trans (Ext.trans (Ext.trans e37 e52) (Below.trans e66 (Wr.below h69 (Nat.le_of_eq z64)))) (Wr.below h73 (Nat.le_of_eq z14))) e76) (Wr.below h81 (Nat.le_of_eq z14))))) <| fun w83 h84 k85 => L_op (.plain rfl) rfl (ltb rfl) (X_assign (v := (.int .i64 x9_22)) rfl) <| L_nil <| thn_n <| W_ret <| blk_r <| thn_r <| thn_r <| blk_r <| thn_r <| thn_r <| finG_r ?_
              obtain rfl := Option.some.inj H
              obtain rfl := Option.some.inj S43
              have H := C26
              obtain rfl := Option.some.inj H
              exact finC2 rfl (K36 4 rfl) k85 Tryz.isAgg78 Tryz.sizeOf78 rfl rfl (Below.trans (Ext.trans (Ext.trans e5 e11) (Below.trans (Ext.trans (Below.trans (Ext.trans (Ext.trans e37 e52) (Below.trans e66 (Wr.below h69 (Nat.le_of_eq z64)))) (Wr.below h73 (Nat.le_of_eq z14))) e76) (Wr.below h81 (Nat.le_of_eq z14)))) (Wr.below h84 (Nat.le_of_eq z3)))
            · refine W_false ((congrArg Value.bool x78).trans (congrArg Value.bool q79)) <| W_skip <| blk_n <| thn_n <| W_reg <| L_op (.plain rfl) rfl (ltb rfl) (X_move (v := (.int .i64 x9_22)) h40) <| L_op (.plain rfl) rfl (ltb rfl) (X_sub rfl rfl) <| L_op (.plain rfl) rfl (ltb rfl) (X_assign (v := (.int .i64 (IntKind.wrap .i64 (x9_22 - 1)))) rfl) <| L_nil <| thn_n ?_
              obtain rfl := Option.some.inj H
              exact ⟨_, Nat.lt_succ_self _, x9_22, IntKind.wrap .i64 (x9_22 - 1), (gt (gt a0 (IntKind.wrap .i64 (x9_22 - 1))) (findR (gt a0 (IntKind.wrap .i64 (x9_22 - 1))) a1)), (Kp.upd (Kp.upd (Kp.upd (Kp.upd (Kp.upd (Kp.upd (Kp.upd (Kp.upd (Kp.upd (Kp.upd (Kp.upd (Kp.upd (Kp.upd (Kp.upd (Kp.upd (Kp.upd (Kp.upd (Kp.upd (Kp.upd (Kp.upd (Kp.upd (Kp.upd (Kp.upd (Kp.upd (Kp.upd (Kp.upd (Kp.upd (Kp.upd (Kp.upd (Kp.upd (Kp.upd (Kp.upd K36 rfl) rfl) rfl) rfl) rfl) rfl) rfl) rfl) rfl) rfl) rfl) rfl) rfl) rfl) rfl) rfl) rfl) rfl) rfl) rfl) rfl) rfl) rfl) rfl) rfl) rfl) rfl) rfl) rfl) rfl) rfl) rfl), rfl, rfl, (Blk.ext k74 e76), (Ext.trans (Below.trans (Ext.trans (Ext.trans e37 e52) (Below.trans e66 (Wr.below h69 (Nat.le_of_eq z64)))) (Wr.below h73 (Nat.le_of_eq z14))) e76), S43⟩
          · refine W_false (congrArg Value.bool q71) <| W_skip <| thn_n <| W_seq <| W_reg <| L_op (.plain rfl) rfl (ltb rfl) (X_loadS Tryz.isAgg78 Tryz.sizeOf78 rfl rfl (Blk.at0 k70)) ?_
            obtain ⟨z88, x89, H⟩ := bind_some H
            replace x89 := Option.some.inj x89
            refine L_callP (.plain rfl) rfl (ltb rfl) rfl Tryz.call182 (spec_l06Stops.calls (w := w68) (a0 := (gt (gt a0 (IntKind.wrap .i64 (x9_22 - 1))) (findR (gt a0 (IntKind.wrap .i64 (x9_22 - 1))) a1)))) rfl <| fun w86 e87 => L_nil <| thn_n ?_
            rcases bif_two H with ⟨q90, H⟩ | ⟨q90, H⟩
            · refine W_true ((congrArg Value.bool x89).trans (congrArg Value.bool q90)) <| W_seq <| W_reg <| L_op (.plain rfl) rfl (ltb rfl) (X_fieldAddr Tryz.underlying78 rfl Tryz.sizeOf3 rfl (K36 7 rfl)) <| L_op (.plain rfl) rfl (ltb rfl) (X_loadB Tryz.isAgg3 (Blk.ext h41 (Ext.trans (Ext.trans e52 (Below.trans e66 (Wr.below h69 (Nat.le_of_eq z64)))) e87)) rfl rfl) <| L_op (.plain rfl) rfl (ltb rfl) (X_eql rfl rfl) <| L_op (.plain rfl) rfl (ltb rfl) (X_fieldAddr Tryz.underlying78 rfl Tryz.sizeOf4 rfl (K36 7 rfl)) <| L_store1 (.plain rfl) rfl rfl Tryz.sizeOf4 rfl rfl rfl (Blk.ext h41 (Ext.trans (Ext.trans e52 (Below.trans e66 (Wr.below h69 (Nat.le_of_eq z64)))) e87)) (ltb rfl) <| fun w91 h92 k93 => L_nil <| thn_n <| W_seq <| W_reg <| L_op (.plain rfl) rfl (ltb rfl) (X_loadS Tryz.isAgg78 Tryz.sizeOf78 rfl (K36 7 rfl) (Blk.at0 k93)) <| L_op (.plain rfl) rfl (ltb rfl) (X_move (v := (.int .i64 x8_21)) h39) <| L_storeA (.plain rfl) rfl rfl Tryz.sizeOf78 (K36 4 rfl) rfl rfl rfl rfl (Blk.ext k6 (Ext.trans e11 (Below.trans (Ext.trans (Ext.trans (Ext.trans e37 e52) (Below.trans e66 (Wr.below h69 (Nat.le_of_eq z64)))) e87) (Wr.below h92 (Nat.le_of_eq z14))))) <| fun w94 h95 k96 => L_op (.plain rfl) rfl (ltb rfl) (X_assign (v := (.int .i64 x8_21)) rfl) <| L_nil <| thn_n <| W_ret <| blk_r <| thn_r <| thn_r <| blk_r <| thn_r <| thn_r <| finG_r ?_
              obtain rfl := Option.some.inj H
              obtain rfl := Option.some.inj S43
              have H := C26
              obtain rfl := Option.some.inj H
              exact finC2 rfl (K36 4 rfl) k96 Tryz.isAgg78 Tryz.sizeOf78 rfl rfl (Below.trans (Ext.trans (Ext.trans e5 e11) (Below.trans (Ext.trans (Ext.trans (Ext.trans e37 e52) (Below.trans e66 (Wr.below h69 (Nat.le_of_eq z64)))) e87) (Wr.below h92 (Nat.le_of_eq z14)))) (Wr.below h95 (Nat.le_of_eq z3)))
            · refine W_false ((congrArg Value.bool x89).trans (congrArg Value.bool q90)) <| W_skip <| blk_n <| thn_n <| W_reg <| L_op (.plain rfl) rfl (ltb rfl) (X_move (v := (.int .i64 x9_22)) h40) <| L_op (.plain rfl) rfl (ltb rfl) (X_sub rfl rfl) <| L_op (.plain rfl) rfl (ltb rfl) (X_assign (v := (.int .i64 (IntKind.wrap .i64 (x9_22 - 1)))) rfl) <| L_nil <| thn_n ?_
              obtain rfl := Option.some.inj H
              exact ⟨_, Nat.lt_succ_self _, x8_21, IntKind.wrap .i64 (x9_22 - 1), y23, (Kp.upd (Kp.upd (Kp.upd (Kp.upd (Kp.upd (Kp.upd (Kp.upd (Kp.upd (Kp.upd (Kp.upd (Kp.upd (Kp.upd (Kp.upd (Kp.upd (Kp.upd (Kp.upd (Kp.upd (Kp.upd (Kp.upd (Kp.upd (Kp.upd (Kp.upd (Kp.upd (Kp.upd (Kp.upd (Kp.upd (Kp.upd (Kp.upd (Kp.upd K36 rfl) rfl) rfl) rfl) rfl) rfl) rfl) rfl) rfl) rfl) rfl) rfl) rfl) rfl) rfl) rfl) rfl) rfl) rfl) rfl) rfl) rfl) rfl) rfl) rfl) rfl) rfl) rfl) rfl), h39, rfl, (Blk.ext h41 (Ext.trans (Ext.trans e52 (Below.trans e66 (Wr.below h69 (Nat.le_of_eq z64)))) e87)), (Ext.trans (Ext.trans (Ext.trans e37 e52) (Below.trans e66 (Wr.below h69 (Nat.le_of_eq z64)))) e87), S43⟩
      · refine W_false (congrArg Value.bool q44) <| W_exit <| thn_x <| thn_x <| blk_x <| thn_n ?_
        obtain rfl := Option.some.inj H
        obtain rfl := Option.some.inj S43
        exact ⟨x8_21, y23, (Kp.upd (Kp.upd (Kp.upd K36 rfl) rfl) rfl), h39, h41, e37, rfl⟩
  · rintro s30 w29 ⟨x8_27, y28, K31, h97, h98, e32, y99⟩
    rw [y99] at C26
    have H := C26
    replace H : _ = some _ := H
    refine thn_n <| W_seq <| W_reg <| L_op (.plain rfl) rfl (ltb rfl) (X_loadS Tryz.isAgg78 Tryz.sizeOf78 rfl (K31 7 rfl) (Blk.at0 h98)) <| L_op (.plain rfl) rfl (ltb rfl) (X_move (v := (.int .i64 x8_27)) h97) <| L_storeA (.plain rfl) rfl rfl Tryz.sizeOf78 (K31 4 rfl) rfl rfl rfl rfl (Blk.ext k6 (Ext.trans e11 e32)) <| fun w100 h101 k102 => L_op (.plain rfl) rfl (ltb rfl) (X_assign (v := (.int .i64 x8_27)) rfl) <| L_nil <| thn_n <| W_ret <| finG_r ?_
    obtain rfl := Option.some.inj H
    exact finC2 rfl (K31 4 rfl) k102 Tryz.isAgg78 Tryz.sizeOf78 rfl rfl (Below.trans (Ext.trans (Ext.trans e5 e11) e32) (Wr.below h101 (Nat.le_of_eq z3)))
theorem spec_l07Winner.calls {w : World} {a0 : List (List Rec)} {a1 : List UInt8} {v_a0 : Value} (f_a0 : Rd2 5 encRec w v_a0 a0) (h0 : stackOK a0 = true) (h1 : a0.length ≤ 1048576) (h2 : a1.length ≤ 1048576) (h3 : ∀ l ∈ a0, l.length ≤ 1048576) :
    Calls Tryz.prog 146 #[v_a0, S a1] w (Rt (RP w (.tuple #[.agg (encRec ((winner a0 a1).1)).toArray, .int .i64 ((winner a0 a1).2)]))) := by
  obtain ⟨k, h⟩ := spec_l07Winner.eq a0 a1 h0 h1 h2 h3
  exact spec_l07Winner.walk f_a0 h
end Go.Proofs.YthpjkenkbfkdhaaGreatDoor
