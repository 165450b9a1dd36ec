/- The walks, by program (wip/tools). -/
import Derived.Test.YthpjkenkbfkdhaaGreatDoorProg
import Derived.Test.YthpjkenkbfkdhaaGreatDoorKJ
import Derived.Test.YthpjkenkbfkdhaaGreatDoorKL
import Derived.Test.YthpjkenkbfkdhaaGreatDoorVWB
set_option linter.unusedVariables false
set_option maxRecDepth 10000
namespace Go.Proofs.YthpjkenkbfkdhaaGreatDoor
open Go.UL Go.RowKit
/-! slices.BinarySearchFunc(()impl.Node,impl.Node,impl.Node) -/
abbrev slices_BinSearchN.e1 (x10_8 : Int) (x9_7 : Int) := (IntKind.wrap .i64 ((IntKind.wrap .u64 (IntKind.wrap .i64 (x9_7 + x10_8))).fdiv (2 ^ 1)))
theorem slices_BinSearchN.walk {k : Nat} {w : World} {a0 : List Nd} {a1 : Nd} {a2 : Nd → Nd → Option Int} {v_a0 : Value} (f_a0 : Rd 4 encNd w v_a0 a0) {v_a2 : Value} (f_a2 : ∀ (x0 : Nd) (x1 : Nd) (r : Int), a2 x0 x1 = some r → FnAt Tryz.prog w v_a2 [(.agg (encNd x0).toArray), (.agg (encNd x1).toArray)] (.int .i64 r)) (g_a2 : v_a2.cells = #[v_a2]) {r : Int × Bool} (H : slices_BinSearchN.sh k a0 a1 a2 = some r) :
    Calls Tryz.prog 174 #[v_a0, .agg (encNd a1).toArray, v_a2] w (Rt (RP w (.tuple #[.int .i64 r.1, .bool r.2]))) := by
  unfold slices_BinSearchN.sh at H
  refine calls_of_W Tryz.func174 rfl (Nat.le_of_ble_eq_true rfl) Tryz.ntmps174 rfl ?_
  refine W_seq <| W_reg <| L_box (.plain rfl) rfl (ltb rfl) rfl rfl <| fun b1 w2 z3 z4 e5 k6 => L_op (.plain rfl) rfl (ltb rfl) (X_assign (v := (.int .i64 0)) rfl) <| L_op (.plain rfl) rfl (ltb rfl) (X_assign (v := (.bool false)) rfl) <| L_nil <| thn_n <| W_seq <| W_reg <| L_op (.plain rfl) rfl (ltb rfl) (X_move (v := v_a0) rfl) <| L_op (.plain rfl) rfl (ltb rfl) (X_lenR Tryz.underlying30 rfl (Rd.ext f_a0 e5)) <| L_op (.plain rfl) rfl (ltb rfl) (X_assign (v := (.int .i64 (a0.length : Int))) rfl) <| L_nil <| thn_n <| W_seq <| W_reg <| L_op (.plain rfl) rfl (ltb rfl) (X_move (v := (.int .i64 (a0.length : Int))) rfl) <| L_op (.plain rfl) rfl (ltb rfl) (X_assign (v := (.int .i64 0)) rfl) <| L_op (.plain rfl) rfl (ltb rfl) (X_assign (v := (.int .i64 (a0.length : Int))) rfl) <| L_nil <| thn_n <| W_seq ?_
  obtain ⟨z9, L10, C11⟩ := bind_some H
  clear H
  refine  W_cutQ (fun s0 sQ wQ => ∃ (x9_12 : Int), Kp [(9, 12), (15, 35)] s0 sQ ∧ sQ 9 = .int .i64 x9_12 ∧ Ext w2 wQ ∧ z9 = .inr x9_12) ?_ ?_
  · refine W_block <| W_loopI (fun s0 kk sQ wQ => ∃ (x9_7 : Int) (x10_8 : Int), Kp [(9, 12), (15, 35)] s0 sQ ∧ sQ 9 = .int .i64 x9_7 ∧ sQ 10 = .int .i64 x10_8 ∧ Ext w2 wQ ∧ loopF (slices_BinSearchN.b1 a0 a1 a2) kk (x9_7, x10_8) = some z9) k ⟨0, (a0.length : Int), (Kp.refl _ _), rfl, rfl, (Ext.refl w2), L10⟩ ?_
    rintro k17 s18 w19 ⟨x9_7, x10_8, K20, h23, h24, e21, L22⟩
    cases k17 with
    | zero => exact absurd L22 (by simp [loopF])
    | succ k17 =>
      obtain ⟨t25, H, S26⟩ := loopF_succ L22
      clear L22
      unfold slices_BinSearchN.b1 at H
      refine W_seq <| W_seq <| W_reg <| L_op (.plain rfl) rfl (ltb rfl) (X_move (v := (.int .i64 x9_7)) h23) <| L_op (.plain rfl) rfl (ltb rfl) (X_move (v := (.int .i64 x10_8)) h24) <| L_op (.plain rfl) rfl (ltb rfl) (X_lss rfl rfl) <| L_nil <| thn_n ?_
      rcases bif_two H with ⟨q27, H⟩ | ⟨q27, H⟩
      · refine W_true (congrArg Value.bool q27) <| W_skip <| thn_n <| W_block <| W_seq <| W_reg <| L_op (.plain rfl) rfl (ltb rfl) (X_move (v := (.int .i64 x9_7)) h23) <| L_op (.plain rfl) rfl (ltb rfl) (X_move (v := (.int .i64 x10_8)) h24) <| L_op (.plain rfl) rfl (ltb rfl) (X_add rfl rfl) <| L_op (.plain rfl) rfl (ltb rfl) (X_convInt Tryz.underlying3 Tryz.underlying167 rfl) <| L_op (.plain rfl) rfl (ltb rfl) (X_shr (n := 1) rfl rfl rfl) <| L_op (.plain rfl) rfl (ltb rfl) (X_convInt Tryz.underlying167 Tryz.underlying3 rfl) <| L_op (.plain rfl) rfl (ltb rfl) (X_assign rfl) <| L_nil <| thn_n <| W_seq ?_
        obtain ⟨c28, H⟩ := bif_some H
        obtain ⟨z31, x32, H⟩ := bind_some H
        refine W_drawM [LEq v_a2, LEq v_a0, LEq (.int .i64 (slices_BinSearchN.e1 x10_8 x9_7)), LAt0 (encNd (gt a0 (slices_BinSearchN.e1 x10_8 x9_7))), LEq (.agg (encNd (gt a0 (slices_BinSearchN.e1 x10_8 x9_7))).toArray), LEq (.agg #[(.int .i64 a1.kind), (S a1.path), (S a1.body), (.int .i64 a1.mode)]), LEq (.int .i64 z31), LEq (.bool (decide (z31 < 0)))] (by kernel_rfl) (by kernel_rfl) ⟨LEq.mono, LEq.mono, LEq.mono, LAt0.mono, LEq.mono, LEq.mono, LEq.mono, LEq.mono, trivial⟩ ⟨?_, ?_, ?_, ?_, ?_, ?_, ?_, ?_, trivial⟩ ?_
        · intro s35 w36 e37 hf38 hd39 hu40
          exact L_op (.plain rfl) rfl (ltb rfl) (X_move (v := v_a2) ((hf38 2 rfl).trans (K20 2 rfl))) <| L_nil <| stepEnd rfl rfl (Ext.refl w36) rfl
        · intro s41 w42 e43 hf44 hd45 hu46
          exact L_op (.plain rfl) rfl (ltb rfl) (X_move (v := v_a0) ((hf44 0 rfl).trans (K20 0 rfl))) <| L_nil <| stepEnd rfl rfl (Ext.refl w42) rfl
        · intro s47 w48 e49 hf50 hd51 hu52
          exact L_op (.plain rfl) rfl (ltb rfl) (X_move (hf50 11 rfl)) <| L_nil <| stepEnd rfl rfl (Ext.refl w48) rfl
        · intro s53 w54 e55 hf56 hd57 hu58
          have d59 : s53 25 = v_a0 := (hd57 1 rfl)
          have d60 : s53 26 = (.int .i64 (slices_BinSearchN.e1 x10_8 x9_7)) := (hd57 2 rfl)
          have c61 := c28
          exact L_idx (.plain rfl) rfl (ltb rfl) rfl Tryz.underlying30 Tryz.sizeOf80 d59 (Rd.ext f_a0 (Ext.trans (Ext.trans e5 e21) e55)) d60 c61 <| fun p62 h63 => L_nil <| stepEnd rfl rfl (Ext.refl w54) ⟨_, rfl, h63⟩
        · intro s64 w65 e66 hf67 hd68 hu69
          obtain ⟨p70, h71, h72⟩ := (hd68 3 rfl)
          exact L_op (.plain rfl) rfl (ltb rfl) (X_loadS Tryz.isAgg80 Tryz.sizeOf80 rfl h71 h72) <| L_nil <| stepEnd rfl rfl (Ext.refl w65) rfl
        · intro s73 w74 e75 hf76 hd77 hu78
          exact L_op (.plain rfl) rfl (ltb rfl) (X_loadS Tryz.isAgg80 Tryz.sizeOf80 rfl ((hf76 4 rfl).trans (K20 4 rfl)) (Blk.at0 (Blk.ext k6 (Ext.trans e21 e75)))) <| L_nil <| stepEnd rfl rfl (Ext.refl w74) rfl
        · intro s79 w80 e81 hf82 hd83 hu84
          have d85 : s79 24 = v_a2 := (hd83 0 rfl)
          have d86 : s79 28 = (.agg (encNd (gt a0 (slices_BinSearchN.e1 x10_8 x9_7))).toArray) := (hd83 4 rfl)
          have d87 : s79 29 = (.agg #[(.int .i64 a1.kind), (S a1.path), (S a1.body), (.int .i64 a1.mode)]) := (hd83 5 rfl)
          exact L_callF (.plain rfl) rfl (ltb rfl) rfl d85 (FnAt.ext (f_a2 _ _ _ x32) (Ext.trans (Ext.trans e5 e21) e81)) (cons2 d86 (cons2 d87 rfl)) <| fun w90 e91 => L_nil <| stepEnd rfl rfl e91 rfl
        · intro s92 w93 e94 hf95 hd96 hu97
          have d98 : s92 30 = (.int .i64 z31) := (hd96 6 rfl)
          exact L_op (.plain rfl) rfl (ltb rfl) (X_lss d98 rfl) <| L_nil <| stepEnd rfl rfl (Ext.refl w93) rfl
        intro s99 w100 e101 hf102 ha103
        have K104 := Kp.ofD (kp := [(24, 32)]) rfl hf102
        have d105 : s99 31 = (.bool (decide (z31 < 0))) := ha103 7 rfl
        clear ha103 hf102
        refine thn_n ?_
        rcases bif_two H with ⟨q106, H⟩ | ⟨q106, H⟩
        · refine W_true (d105.trans (congrArg Value.bool q106)) <| W_reg <| L_op (.plain rfl) rfl (ltb rfl) (X_move (K104 11 rfl)) <| L_op (.plain rfl) rfl (ltb rfl) (X_add rfl rfl) <| L_op (.plain rfl) rfl (ltb rfl) (X_assign rfl) <| L_nil <| blk_n <| thn_n ?_
          obtain rfl := Option.some.inj H
          exact ⟨_, Nat.lt_succ_self _, IntKind.wrap .i64 ((slices_BinSearchN.e1 x10_8 x9_7) + 1), x10_8, (Kp.upd (Kp.upd (Kp.upd (Kp.cut (Kp.upd (Kp.upd (Kp.upd (Kp.upd (Kp.upd (Kp.upd (Kp.upd (Kp.upd (Kp.upd (Kp.upd K20 rfl) rfl) rfl) rfl) rfl) rfl) rfl) rfl) rfl) rfl) K104 rfl) rfl) rfl) rfl), rfl, ((K104 10 rfl).trans h24), (Ext.trans e21 e101), S26⟩
        · refine W_false (d105.trans (congrArg Value.bool q106)) <| W_reg <| L_op (.plain rfl) rfl (ltb rfl) (X_move (K104 11 rfl)) <| L_op (.plain rfl) rfl (ltb rfl) (X_assign rfl) <| L_nil <| blk_n <| thn_n ?_
          obtain rfl := Option.some.inj H
          exact ⟨_, Nat.lt_succ_self _, x9_7, IntKind.wrap .i64 ((IntKind.wrap .u64 (IntKind.wrap .i64 (x9_7 + x10_8))).fdiv (2 ^ 1)), (Kp.upd (Kp.upd (Kp.cut (Kp.upd (Kp.upd (Kp.upd (Kp.upd (Kp.upd (Kp.upd (Kp.upd (Kp.upd (Kp.upd (Kp.upd K20 rfl) rfl) rfl) rfl) rfl) rfl) rfl) rfl) rfl) rfl) K104 rfl) rfl) rfl), ((K104 9 rfl).trans h23), rfl, (Ext.trans e21 e101), S26⟩
      · refine W_false (congrArg Value.bool q27) <| W_exit <| thn_x <| thn_x <| blk_x <| thn_n ?_
        obtain rfl := Option.some.inj H
        obtain rfl := Option.some.inj S26
        exact ⟨x9_7, (Kp.upd (Kp.upd (Kp.upd K20 rfl) rfl) rfl), h23, e21, rfl⟩
  · rintro s14 w13 ⟨x9_12, K15, h107, e16, y108⟩
    rw [y108] at C11
    have H := C11
    replace H : _ = some _ := H
    refine thn_n <| W_seq ?_
    obtain ⟨c109, H⟩ := bif_some H
    obtain ⟨z112, x113, H⟩ := bind_some H
    refine W_drawM [LEq (.int .i64 x9_12), LEq (.int .i64 x9_12), LEq (.int .i64 (a0.length : Int)), LEq (.bool (decide (x9_12 < (a0.length : Int)))), LEq (.bool (decide (x9_12 < (a0.length : Int)))), LIf (decide (x9_12 < (a0.length : Int))) (LEq v_a2), LIf (decide (x9_12 < (a0.length : Int))) (LEq v_a0), LIf (decide (x9_12 < (a0.length : Int))) (LEq (.int .i64 x9_12)), LIf (decide (x9_12 < (a0.length : Int))) (LAt0 (encNd (gt a0 x9_12))), LIf (decide (x9_12 < (a0.length : Int))) (LEq (.agg (encNd (gt a0 x9_12)).toArray)), LIf (decide (x9_12 < (a0.length : Int))) (LEq (.agg #[(.int .i64 a1.kind), (S a1.path), (S a1.body), (.int .i64 a1.mode)])), LIf (decide (x9_12 < (a0.length : Int))) (LEq (.int .i64 z112)), LIf (decide (x9_12 < (a0.length : Int))) (LEq (.bool (decide (z112 = 0)))), LEq (.bool ((decide (x9_12 < (a0.length : Int))) && (decide (z112 = 0)))), LEq (.int .i64 x9_12), LEq (.bool ((decide (x9_12 < (a0.length : Int))) && (decide (z112 = 0))))] (by kernel_rfl) (by kernel_rfl) ⟨LEq.mono, LEq.mono, LEq.mono, LEq.mono, LEq.mono, (LIf.mono LEq.mono), (LIf.mono LEq.mono), (LIf.mono LEq.mono), (LIf.mono LAt0.mono), (LIf.mono LEq.mono), (LIf.mono LEq.mono), (LIf.mono LEq.mono), (LIf.mono LEq.mono), LEq.mono, LEq.mono, LEq.mono, trivial⟩ ⟨?_, ?_, ?_, ?_, ?_, ?_, ?_, ?_, ?_, ?_, ?_, ?_, ?_, ?_, ?_, ?_, trivial⟩ ?_
    · intro s116 w117 e118 hf119 hd120 hu121
      exact L_op (.plain rfl) rfl (ltb rfl) (X_move (v := (.int .i64 x9_12)) ((hf119 9 rfl).trans h107)) <| L_nil <| stepEnd rfl rfl (Ext.refl w117) rfl
    · intro s122 w123 e124 hf125 hd126 hu127
      exact L_op (.plain rfl) rfl (ltb rfl) (X_move (v := (.int .i64 x9_12)) ((hf125 9 rfl).trans h107)) <| L_nil <| stepEnd rfl rfl (Ext.refl w123) rfl
    · intro s128 w129 e130 hf131 hd132 hu133
      exact L_op (.plain rfl) rfl (ltb rfl) (X_move (v := (.int .i64 (a0.length : Int))) ((hf131 8 rfl).trans (K15 8 rfl))) <| L_nil <| stepEnd rfl rfl (Ext.refl w129) rfl
    · intro s134 w135 e136 hf137 hd138 hu139
      have d140 : s134 36 = (.int .i64 x9_12) := (hd138 1 rfl)
      have d141 : s134 37 = (.int .i64 (a0.length : Int)) := (hd138 2 rfl)
      exact L_op (.plain rfl) rfl (ltb rfl) (X_lss d140 d141) <| L_nil <| stepEnd rfl rfl (Ext.refl w135) rfl
    · intro s142 w143 e144 hf145 hd146 hu147
      have d148 : s142 38 = (.bool (decide (x9_12 < (a0.length : Int)))) := (hd146 3 rfl)
      exact L_op (.plain rfl) rfl (ltb rfl) (X_move (v := (.bool (decide (x9_12 < (a0.length : Int))))) d148) <| L_nil <| stepEnd rfl rfl (Ext.refl w143) rfl
    · intro s149 w150 e151 hf152 hd153 hu154
      rcases bool_two (decide (x9_12 < (a0.length : Int))) with b155 | b155
      · have g156 : (decide (x9_12 < (a0.length : Int))) = true := b155
        have d157 : s149 39 = (.bool (decide (x9_12 < (a0.length : Int)))) := (hd153 4 rfl)
        have d158 : s149 39 = (.bool (decide (x9_12 < (a0.length : Int)))) := (hd153 4 rfl)
        exact L_op (.guard 4 true 39 rfl rfl (ltb rfl) (d157.trans (congrArg Value.bool g156))) rfl (ltb rfl) (X_move (v := v_a2) ((hf152 2 rfl).trans (K15 2 rfl))) <| L_nil <| stepEnd rfl rfl (Ext.refl w150) ⟨fun _ => rfl, fun h => absurd (b155.symm.trans h) (by decide)⟩
      · have d159 : s149 39 = (.bool (decide (x9_12 < (a0.length : Int)))) := (hd153 4 rfl)
        have g160 : (decide (x9_12 < (a0.length : Int))) = false := b155
        exact L_skip rfl rfl (ltb rfl) (d159.trans (congrArg Value.bool g160)) rfl rfl (ltb rfl) <| L_nil <| stepEnd rfl rfl (Ext.refl w150) ⟨fun h => absurd (b155.symm.trans h) (by decide), fun _ => rfl⟩
    · intro s161 w162 e163 hf164 hd165 hu166
      rcases bool_two (decide (x9_12 < (a0.length : Int))) with b167 | b167
      · have g168 : (decide (x9_12 < (a0.length : Int))) = true := b167
        have d169 : s161 39 = (.bool (decide (x9_12 < (a0.length : Int)))) := (hd165 4 rfl)
        have d170 : s161 39 = (.bool (decide (x9_12 < (a0.length : Int)))) := (hd165 4 rfl)
        exact L_op (.guard 4 true 39 rfl rfl (ltb rfl) (d169.trans (congrArg Value.bool g168))) rfl (ltb rfl) (X_move (v := v_a0) ((hf164 0 rfl).trans (K15 0 rfl))) <| L_nil <| stepEnd rfl rfl (Ext.refl w162) ⟨fun _ => rfl, fun h => absurd (b167.symm.trans h) (by decide)⟩
      · have d171 : s161 39 = (.bool (decide (x9_12 < (a0.length : Int)))) := (hd165 4 rfl)
        have g172 : (decide (x9_12 < (a0.length : Int))) = false := b167
        exact L_skip rfl rfl (ltb rfl) (d171.trans (congrArg Value.bool g172)) rfl rfl (ltb rfl) <| L_nil <| stepEnd rfl rfl (Ext.refl w162) ⟨fun h => absurd (b167.symm.trans h) (by decide), fun _ => rfl⟩
    · intro s173 w174 e175 hf176 hd177 hu178
      rcases bool_two (decide (x9_12 < (a0.length : Int))) with b179 | b179
      · have g180 : (decide (x9_12 < (a0.length : Int))) = true := b179
        have d181 : s173 39 = (.bool (decide (x9_12 < (a0.length : Int)))) := (hd177 4 rfl)
        have d182 : s173 39 = (.bool (decide (x9_12 < (a0.length : Int)))) := (hd177 4 rfl)
        exact L_op (.guard 4 true 39 rfl rfl (ltb rfl) (d181.trans (congrArg Value.bool g180))) rfl (ltb rfl) (X_move (v := (.int .i64 x9_12)) ((hf176 9 rfl).trans h107)) <| L_nil <| stepEnd rfl rfl (Ext.refl w174) ⟨fun _ => rfl, fun h => absurd (b179.symm.trans h) (by decide)⟩
      · have d183 : s173 39 = (.bool (decide (x9_12 < (a0.length : Int)))) := (hd177 4 rfl)
        have g184 : (decide (x9_12 < (a0.length : Int))) = false := b179
        exact L_skip rfl rfl (ltb rfl) (d183.trans (congrArg Value.bool g184)) rfl rfl (ltb rfl) <| L_nil <| stepEnd rfl rfl (Ext.refl w174) ⟨fun h => absurd (b179.symm.trans h) (by decide), fun _ => rfl⟩
    · intro s185 w186 e187 hf188 hd189 hu190
      rcases bool_two (decide (x9_12 < (a0.length : Int))) with b191 | b191
      · have g192 : (decide (x9_12 < (a0.length : Int))) = true := b191
        have d193 : s185 39 = (.bool (decide (x9_12 < (a0.length : Int)))) := (hd189 4 rfl)
        have d194 : s185 39 = (.bool (decide (x9_12 < (a0.length : Int)))) := (hd189 4 rfl)
        have d195 : s185 41 = v_a0 := ((hd189 6 rfl).1 b191)
        have d196 : s185 42 = (.int .i64 x9_12) := ((hd189 7 rfl).1 b191)
        have c197 := imp_take b191 c109
        exact L_idx (.guard 4 true 39 rfl rfl (ltb rfl) (d193.trans (congrArg Value.bool g192))) rfl (ltb rfl) rfl Tryz.underlying30 Tryz.sizeOf80 d195 (Rd.ext f_a0 (Ext.trans (Ext.trans e5 e16) e187)) d196 c197 <| fun p198 h199 => L_nil <| stepEnd rfl rfl (Ext.refl w186) ⟨fun _ => ⟨_, rfl, h199⟩, fun h => absurd (b191.symm.trans h) (by decide)⟩
      · have d200 : s185 39 = (.bool (decide (x9_12 < (a0.length : Int)))) := (hd189 4 rfl)
        have g201 : (decide (x9_12 < (a0.length : Int))) = false := b191
        exact L_skip rfl rfl (ltb rfl) (d200.trans (congrArg Value.bool g201)) rfl rfl (ltb rfl) <| L_nil <| stepEnd rfl rfl (Ext.refl w186) ⟨fun h => absurd (b191.symm.trans h) (by decide), fun _ => rfl⟩
    · intro s202 w203 e204 hf205 hd206 hu207
      rcases bool_two (decide (x9_12 < (a0.length : Int))) with b208 | b208
      · have g209 : (decide (x9_12 < (a0.length : Int))) = true := b208
        have d210 : s202 39 = (.bool (decide (x9_12 < (a0.length : Int)))) := (hd206 4 rfl)
        have d211 : s202 39 = (.bool (decide (x9_12 < (a0.length : Int)))) := (hd206 4 rfl)
        obtain ⟨p212, h213, h214⟩ := ((hd206 8 rfl).1 b208)
        exact L_op (.guard 4 true 39 rfl rfl (ltb rfl) (d210.trans (congrArg Value.bool g209))) rfl (ltb rfl) (X_loadS Tryz.isAgg80 Tryz.sizeOf80 rfl h213 h214) <| L_nil <| stepEnd rfl rfl (Ext.refl w203) ⟨fun _ => rfl, fun h => absurd (b208.symm.trans h) (by decide)⟩
      · have d215 : s202 39 = (.bool (decide (x9_12 < (a0.length : Int)))) := (hd206 4 rfl)
        have g216 : (decide (x9_12 < (a0.length : Int))) = false := b208
        exact L_skip rfl rfl (ltb rfl) (d215.trans (congrArg Value.bool g216)) rfl rfl (ltb rfl) <| L_nil <| stepEnd rfl rfl (Ext.refl w203) ⟨fun h => absurd (b208.symm.trans h) (by decide), fun _ => rfl⟩
    · intro s217 w218 e219 hf220 hd221 hu222
      rcases bool_two (decide (x9_12 < (a0.length : Int))) with b223 | b223
      · have g224 : (decide (x9_12 < (a0.length : Int))) = true := b223
        have d225 : s217 39 = (.bool (decide (x9_12 < (a0.length : Int)))) := (hd221 4 rfl)
        have d226 : s217 39 = (.bool (decide (x9_12 < (a0.length : Int)))) := (hd221 4 rfl)
        exact L_op (.guard 4 true 39 rfl rfl (ltb rfl) (d225.trans (congrArg Value.bool g224))) rfl (ltb rfl) (X_loadS Tryz.isAgg80 Tryz.sizeOf80 rfl ((hf220 4 rfl).trans (K15 4 rfl)) (Blk.at0 (Blk.ext k6 (Ext.trans e16 e219)))) <| L_nil <| stepEnd rfl rfl (Ext.refl w218) ⟨fun _ => rfl, fun h => absurd (b223.symm.trans h) (by decide)⟩
      · have d227 : s217 39 = (.bool (decide (x9_12 < (a0.length : Int)))) := (hd221 4 rfl)
        have g228 : (decide (x9_12 < (a0.length : Int))) = false := b223
        exact L_skip rfl rfl (ltb rfl) (d227.trans (congrArg Value.bool g228)) rfl rfl (ltb rfl) <| L_nil <| stepEnd rfl rfl (Ext.refl w218) ⟨fun h => absurd (b223.symm.trans h) (by decide), fun _ => rfl⟩
    · intro s229 w230 e231 hf232 hd233 hu234
      rcases bool_two (decide (x9_12 < (a0.length : Int))) with b235 | b235
      · have g236 : (decide (x9_12 < (a0.length : Int))) = true := b235
        have d237 : s229 39 = (.bool (decide (x9_12 < (a0.length : Int)))) := (hd233 4 rfl)
        have d238 : s229 39 = (.bool (decide (x9_12 < (a0.length : Int)))) := (hd233 4 rfl)
        have d239 : s229 40 = v_a2 := ((hd233 5 rfl).1 b235)
        have d240 : s229 44 = (.agg (encNd (gt a0 x9_12)).toArray) := ((hd233 9 rfl).1 b235)
        have d241 : s229 45 = (.agg #[(.int .i64 a1.kind), (S a1.path), (S a1.body), (.int .i64 a1.mode)]) := ((hd233 10 rfl).1 b235)
        exact L_callF (.guard 4 true 39 rfl rfl (ltb rfl) (d237.trans (congrArg Value.bool g236))) rfl (ltb rfl) rfl d239 (FnAt.ext (f_a2 _ _ _ x113) (Ext.trans (Ext.trans e5 e16) e231)) (cons2 d240 (cons2 d241 rfl)) <| fun w244 e245 => L_nil <| stepEnd rfl rfl e245 ⟨fun _ => rfl, fun h => absurd (b235.symm.trans h) (by decide)⟩
      · have d246 : s229 39 = (.bool (decide (x9_12 < (a0.length : Int)))) := (hd233 4 rfl)
        have g247 : (decide (x9_12 < (a0.length : Int))) = false := b235
        exact L_skip rfl rfl (ltb rfl) (d246.trans (congrArg Value.bool g247)) rfl rfl (ltb rfl) <| L_nil <| stepEnd rfl rfl (Ext.refl w230) ⟨fun h => absurd (b235.symm.trans h) (by decide), fun _ => rfl⟩
    · intro s248 w249 e250 hf251 hd252 hu253
      rcases bool_two (decide (x9_12 < (a0.length : Int))) with b254 | b254
      · have g255 : (decide (x9_12 < (a0.length : Int))) = true := b254
        have d256 : s248 39 = (.bool (decide (x9_12 < (a0.length : Int)))) := (hd252 4 rfl)
        have d257 : s248 39 = (.bool (decide (x9_12 < (a0.length : Int)))) := (hd252 4 rfl)
        have d258 : s248 46 = (.int .i64 z112) := ((hd252 11 rfl).1 b254)
        exact L_op (.guard 4 true 39 rfl rfl (ltb rfl) (d256.trans (congrArg Value.bool g255))) rfl (ltb rfl) (X_eql d258 rfl) <| L_nil <| stepEnd rfl rfl (Ext.refl w249) ⟨fun _ => rfl, fun h => absurd (b254.symm.trans h) (by decide)⟩
      · have d259 : s248 39 = (.bool (decide (x9_12 < (a0.length : Int)))) := (hd252 4 rfl)
        have g260 : (decide (x9_12 < (a0.length : Int))) = false := b254
        exact L_skip rfl rfl (ltb rfl) (d259.trans (congrArg Value.bool g260)) rfl rfl (ltb rfl) <| L_nil <| stepEnd rfl rfl (Ext.refl w249) ⟨fun h => absurd (b254.symm.trans h) (by decide), fun _ => rfl⟩
    · intro s261 w262 e263 hf264 hd265 hu266
      rcases bool_two (decide (x9_12 < (a0.length : Int))) with b267 | b267
      · have d268 : s261 39 = (.bool (decide (x9_12 < (a0.length : Int)))) := (hd265 4 rfl)
        have d269 : s261 47 = (.bool (decide (z112 = 0))) := ((hd265 12 rfl).1 b267)
        exact L_op (.plain rfl) rfl (ltb rfl) (X_pick (b := true) (v := (.bool (decide (z112 = 0)))) (d268.trans (congrArg Value.bool b267)) d269) <| L_nil <| stepEnd rfl rfl (Ext.refl w262) (and_t b267)
      · have d270 : s261 39 = (.bool (decide (x9_12 < (a0.length : Int)))) := (hd265 4 rfl)
        exact L_op (.plain rfl) rfl (ltb rfl) (X_pick (b := false) (v := (.bool false)) (d270.trans (congrArg Value.bool b267)) rfl) <| L_nil <| stepEnd rfl rfl (Ext.refl w262) (and_f b267)
    · intro s271 w272 e273 hf274 hd275 hu276
      have d277 : s271 35 = (.int .i64 x9_12) := (hd275 0 rfl)
      exact L_op (.plain rfl) rfl (ltb rfl) (X_assign (v := (.int .i64 x9_12)) d277) <| L_nil <| stepEnd rfl rfl (Ext.refl w272) rfl
    · intro s278 w279 e280 hf281 hd282 hu283
      have d284 : s278 48 = (.bool ((decide (x9_12 < (a0.length : Int))) && (decide (z112 = 0)))) := (hd282 13 rfl)
      exact L_op (.plain rfl) rfl (ltb rfl) (X_assign (v := (.bool ((decide (x9_12 < (a0.length : Int))) && (decide (z112 = 0))))) d284) <| L_nil <| stepEnd rfl rfl (Ext.refl w279) rfl
    intro s285 w286 e287 hf288 ha289
    have K290 := Kp.ofD (kp := [(6, 8), (35, 49)]) rfl hf288
    have d291 : s285 6 = (.int .i64 x9_12) := ha289 14 rfl
    have d292 : s285 7 = (.bool ((decide (x9_12 < (a0.length : Int))) && (decide (z112 = 0)))) := ha289 15 rfl
    clear ha289 hf288
    refine thn_n <| W_ret <| fin_r ?_
    obtain rfl := Option.some.inj H
    exact fin2 d291 d292 (Ext.trans (Ext.trans e5 e16) e287)
theorem slices_BinSearchN.calls {w : World} {a0 : List Nd} {a1 : Nd} {a2 : Nd → Nd → Option Int} {r : Int × Bool} {v_a0 : Value} (f_a0 : Rd 4 encNd w v_a0 a0) {v_a2 : Value} (f_a2 : ∀ (x0 : Nd) (x1 : Nd) (r : Int), a2 x0 x1 = some r → FnAt Tryz.prog w v_a2 [(.agg (encNd x0).toArray), (.agg (encNd x1).toArray)] (.int .i64 r)) (g_a2 : v_a2.cells = #[v_a2]) (H : (slices_BinSearchN.sh 64 a0 a1 a2) = some r) :
    Calls Tryz.prog 174 #[v_a0, .agg (encNd a1).toArray, v_a2] w (Rt (RP w (.tuple #[.int .i64 r.1, .bool r.2]))) := by
  obtain ⟨k, h⟩ := slices_BinSearchN.eq a0 a1 a2 H
  exact slices_BinSearchN.walk f_a0 f_a2 g_a2 h
/-! impl.place$1 -/
theorem impl_place_1.walk {w : World} {a0 : Nd} {a1 : Nd} (gv : GV 0 w) {r : Int} (H : impl_place_1.sh a0 a1 = some r) :
    Calls Tryz.prog 175 #[.agg (encNd a0).toArray, .agg (encNd a1).toArray] w (Rt (RP w (.int .i64 r))) := by
  unfold impl_place_1.sh at H
  refine calls_of_W Tryz.func175 rfl (Nat.le_of_ble_eq_true rfl) Tryz.ntmps175 rfl ?_
  refine W_seq <| W_reg <| L_box (.plain rfl) rfl (ltb rfl) rfl rfl <| fun b1 w2 z3 z4 e5 k6 => L_box (.plain rfl) rfl (ltb rfl) rfl rfl <| fun b7 w8 z9 z10 e11 k12 => L_op (.plain rfl) rfl (ltb rfl) (X_assign (v := (.int .i64 0)) rfl) <| L_nil <| thn_n <| W_seq <| W_reg <| L_op (.plain rfl) rfl (ltb rfl) (X_fieldAddr Tryz.underlying80 rfl Tryz.sizeOf9 rfl rfl) <| L_op (.plain rfl) rfl (ltb rfl) (X_loadB Tryz.isAgg9 (Blk.ext k6 e11) rfl rfl) <| L_op (.plain rfl) rfl (ltb rfl) (X_fieldAddr Tryz.underlying80 rfl Tryz.sizeOf9 rfl rfl) <| L_op (.plain rfl) rfl (ltb rfl) (X_loadB Tryz.isAgg9 k12 rfl rfl) ?_
  obtain ⟨c13, H⟩ := bif_some H
  obtain ⟨c14, H⟩ := bif_some H
  refine L_callP (.plain rfl) rfl (ltb rfl) rfl Tryz.call128 (impl_compare.calls (w := w8) (a0 := a0.path) (a1 := a1.path) (GV.ext gv (Ext.trans e5 e11)) (of_decide_eq_true c13) (of_decide_eq_true c14)) rfl <| fun w15 e16 => L_op (.plain rfl) rfl (ltb rfl) (X_assign (v := (.int .i64 (cmpL (cut 47 a0.path) (cut 47 a1.path)))) rfl) <| L_nil <| thn_n <| W_ret <| fin_r ?_
  obtain rfl := Option.some.inj H
  exact fin1 rfl (Ext.trans (Ext.trans e5 e11) e16)
theorem impl_place_1.calls {w : World} {a0 : Nd} {a1 : Nd} (gv : GV 0 w) (h0 : a0.path.length ≤ 1048576) (h1 : a1.path.length ≤ 1048576) :
    Calls Tryz.prog 175 #[.agg (encNd a0).toArray, .agg (encNd a1).toArray] w (Rt (RP w (.int .i64 (cmpL (cut 47 a0.path) (cut 47 a1.path))))) := impl_place_1.walk gv (impl_place_1.eq a0 a1 h0 h1)
/-! slices.Insert(()impl.Node,impl.Node), by text -/
theorem slices_InsertN.calls {w : World} {B : Nat} {v : Value} {xs : List Nd} {x : Nd} {i b9 : Nat} (hO : Ow 80 4 encNd B w v xs) (hi : i ≤ xs.length) (hB : B ≤ w.heap.size) (k9 : Blk w b9 (encNd x).toArray 80) (hne : (∃ A, v = .slice A 0 0) ∨ ∀ g, v.ownBlock = some g → b9 ≠ g) (hn : xs.length ≤ 1048576) :
    Calls Tryz.prog 176 #[v, .int .i64 i, .slice (some ⟨b9, 0, none⟩) 1 1] w (Rt (fun r w' => (∀ W, Below B W w → Below B W w') ∧ Ow 80 4 encNd B w' r (insAt xs i x))) := by
  obtain ⟨A0, c0, hv0⟩ := hO.rd.shape
  have hcap : xs.length ≤ c0 := by obtain ⟨A', c', hv', ⟨hn', _⟩, _⟩ := hO.rd; rw [hv0] at hv'; injection hv' with _ _ e9; omega
  have hxl : (encNd x).length = 4 := rfl
  have hR1 : Rd 4 encNd w (.slice (some ⟨b9, 0, none⟩) 1 1) [x] := (Ow.new (xs := [x]) (sz := 4) (enc := encNd) (base := 0) k9 (Nat.zero_le _) (by simp) (fun _ _ => rfl) (Nat.le_of_ble_eq_true rfl)).rd
  refine calls_of_W Tryz.func176 rfl (Nat.le_of_ble_eq_true rfl) Tryz.ntmps176 rfl ?_
  refine W_seq <| W_reg <| L_op (.plain rfl) rfl (ltb rfl) (X_assign rfl) <| L_nil <| thn_n <| W_seq <| W_reg <| L_op (.plain rfl) rfl (ltb rfl) (X_move (v := v) rfl) <| L_op (.plain rfl) rfl (ltb rfl) (X_move (v := .int .i64 (i : Int)) rfl) <|
    L_op (.plain rfl) rfl (ltb rfl) (X_sliceSl (A := A0) (n := xs.length) (c := c0) (l := (i : Int)) (h := (xs.length : Int)) Tryz.underlying30 Tryz.sizeOf80 hv0 ⟨_, rfl⟩ rfl (by omega) (by omega) (by omega)) <| L_nil <| thn_n <|
    W_seq <| W_reg <| L_op (.plain rfl) rfl (ltb rfl) (X_move (v := .slice (some ⟨b9, 0, none⟩) 1 1) rfl) <| L_op (.plain rfl) rfl (ltb rfl) (X_len Tryz.underlying30 rfl) <| L_op (.plain rfl) rfl (ltb rfl) (X_assign rfl) <| L_nil <| thn_n <|
    W_seq <| W_seq <| W_reg <| L_op (.plain rfl) rfl (ltb rfl) (X_move (v := .int .i64 ((1 : Nat) : Int)) rfl) <| L_op (.plain rfl) rfl (ltb rfl) (X_eql rfl rfl) <| L_nil <| thn_n <| W_false (congrArg Value.bool (decide_eq_false (by decide))) <| W_skip <| thn_n <|
    W_seq <| W_reg <| L_op (.plain rfl) rfl (ltb rfl) (X_move (v := v) rfl) <| L_op (.plain rfl) rfl (ltb rfl) (X_len (A := A0) (n := xs.length) (c := c0) Tryz.underlying30 hv0) <| L_op (.plain rfl) rfl (ltb rfl) (X_assign rfl) <| L_nil <| thn_n <|
    W_seq <| W_seq <| W_reg <| L_op (.plain rfl) rfl (ltb rfl) (X_move (v := .int .i64 (i : Int)) rfl) <| L_op (.plain rfl) rfl (ltb rfl) (X_move (v := .int .i64 (xs.length : Int)) rfl) <| L_op (.plain rfl) rfl (ltb rfl) (X_eql rfl rfl) <| L_nil <| thn_n ?_
  by_cases hie : i = xs.length
  · refine W_true (congrArg Value.bool (decide_eq_true (by omega))) <| W_seq <| W_reg <| L_op (.plain rfl) rfl (ltb rfl) (X_move (v := v) rfl) <| L_op (.plain rfl) rfl (ltb rfl) (X_move (v := .slice (some ⟨b9, 0, none⟩) 1 1) rfl) <|
      L_append (enc := encNd) (.plain rfl) rfl (ltb rfl) rfl El.t30 rfl rfl hO hR1 (ones_Nd _) (by simp; omega) hB <| fun v1 w1 o1 z1 g1 => L_op (.plain rfl) rfl (ltb rfl) (X_assign (v := v1) rfl) <| L_nil <| thn_n <| W_ret <| thn_r <| fin_r ?_
    refine ⟨_, rfl, g1, ?_⟩
    have : insAt xs i x = xs ++ [x] := by simp [insAt, hie]
    rw [this]; exact o1
  obtain ⟨g, cap, cur, hv, hBg, hh, hnc, hcm, hsz, htk⟩ := hO.row (by omega)
  have hcc : A0 = some ⟨g, 0, none⟩ ∧ c0 = cap := by rw [hv] at hv0; injection hv0 with e1 _ e3; exact ⟨e1.symm, e3.symm⟩
  obtain ⟨rfl, rfl⟩ := hcc
  have hlen := hO.2.1
  have hT : ((xs.take i).flatMap encNd).length = i * 4 := by rw [flat_len encNd 4 _ (fun y hy => hlen y (List.mem_of_mem_take hy))]; simp; omega
  have hDl : ((xs.drop i).flatMap encNd).length = (xs.length - i) * 4 := by rw [flat_len encNd 4 _ (fun y hy => hlen y (List.mem_of_mem_drop hy))]; simp
  have hcur : cur.toList = (xs.take i).flatMap encNd ++ (xs.drop i).flatMap encNd ++ cur.toList.drop (xs.length * 4) := by
    rw [← List.flatMap_append, List.take_append_drop, ← htk, List.take_append_drop]
  have hcl : cur.toList.length = c0 * 4 := by simpa using hsz
  have hone1 : ∀ c ∈ encNd x, c.oneCell' = true := fun c hc => ones_Nd [x] x (by simp) c hc
  have honeD : ∀ c ∈ (xs.drop i).flatMap encNd, c.oneCell' = true := fun c hc => by
    obtain ⟨y, hy, hc⟩ := List.mem_flatMap.1 hc
    exact ones_Nd _ y hy c hc
  have hil : (insAt xs i x).length = xs.length + 1 := insAt_len xs i x hi
  have hlen2 : ∀ y ∈ insAt xs i x, (encNd y).length = 4 := fun y _ => rfl
  have hsrcX : ∀ {W : World}, Blk W b9 (encNd x).toArray 80 → ∀ j u, (encNd x)[j]? = some u → W.cell? ((⟨b9, 0, none⟩ : Addr).add j) = some u := fun {W} k j u hj => by
    rw [add_none, Nat.zero_add, k.cell]; simpa using hj
  have hgetD : ∀ j u, ((xs.drop i).flatMap encNd)[j]? = some u → cur.toList[i * 4 + j]? = some u := fun j u hj => by
    have hj' : j < ((xs.drop i).flatMap encNd).length := (List.getElem?_eq_some_iff.1 hj).1
    rw [hcur, List.append_assoc, List.getElem?_append_right (by omega), hT, Nat.add_sub_cancel_left, List.getElem?_append_left hj', hj]
  have hsrcD : ∀ {W : World}, Blk W g cur 80 → ∀ j u, ((xs.drop i).flatMap encNd)[j]? = some u → W.cell? ((⟨g, 0 + i * 4, none⟩ : Addr).add j) = some u := fun {W} k j u hj => by
    rw [add_none, k.cell, Nat.zero_add]
    have := hgetD j u hj
    simpa using this
  have hw : IntKind.wrap .i64 ((xs.length : Int) + ((1 : Nat) : Int)) = ((xs.length + 1 : Nat) : Int) := by rw [Int.natCast_add]; exact Go.UL.wrap_small (by omega) (by omega)
  have hwi : IntKind.wrap .i64 ((i : Int) + ((1 : Nat) : Int)) = ((i + 1 : Nat) : Int) := by rw [Int.natCast_add]; exact Go.UL.wrap_small (by omega) (by omega)
  have hgw : g < w.heap.size := (Array.getElem?_eq_some_iff.1 hh).1
  refine W_false (congrArg Value.bool (decide_eq_false (by omega))) <| W_skip <| thn_n <| W_seq <| W_seq <| W_reg <| L_op (.plain rfl) rfl (ltb rfl) (X_move (v := .int .i64 (xs.length : Int)) rfl) <| L_op (.plain rfl) rfl (ltb rfl) (X_move (v := .int .i64 ((1 : Nat) : Int)) rfl) <|
    L_op (.plain rfl) rfl (ltb rfl) (Ex.cast (X_add rfl rfl) (congrArg (Value.int .i64) hw)) <| L_op (.plain rfl) rfl (ltb rfl) (X_move (v := v) rfl) <| L_op (.plain rfl) rfl (ltb rfl) (X_cap Tryz.underlying30 hv) <| L_op (.plain rfl) rfl (ltb rfl) (X_gtr rfl rfl) <| L_nil <| thn_n ?_
  by_cases hroom : c0 < xs.length + 1
  · -- no room: a new block
    obtain ⟨k, hk⟩ : ∃ k, i + k = xs.length + 1 := ⟨xs.length + 1 - i, by omega⟩
    have hw2 : IntKind.wrap .i64 (((xs.length + 1 : Nat) : Int) - (i : Int)) = (k : Int) := by rw [Go.UL.wrap_small (by omega) (by omega)]; omega
    have hc0 : c0 = xs.length := by omega
    refine W_true (congrArg Value.bool (decide_eq_true (by omega))) <| W_seq <| W_reg <| L_op (.plain rfl) rfl (ltb rfl) (X_move (v := v) rfl) <| L_op (.plain rfl) rfl (ltb rfl) (X_move (v := .int .i64 (i : Int)) rfl) <|
      L_op (.plain rfl) rfl (ltb rfl) (Ex.cast (v' := .slice (some ⟨g, 0, none⟩) i c0) (X_sliceG (l := 0) (h := i) Tryz.underlying30 Tryz.sizeOf80 hv rfl ⟨_, rfl⟩ (.inr rfl) (Nat.zero_le _) (by omega)) (by simp)) <|
      L_op (.plain rfl) rfl (ltb rfl) (X_move (v := .int .i64 (xs.length : Int)) rfl) <| L_op (.plain rfl) rfl (ltb rfl) (X_move (v := .int .i64 ((1 : Nat) : Int)) rfl) <| L_op (.plain rfl) rfl (ltb rfl) (Ex.cast (X_add rfl rfl) (congrArg (Value.int .i64) hw)) <| L_op (.plain rfl) rfl (ltb rfl) (X_move (v := .int .i64 (i : Int)) rfl) <|
      L_op (.plain rfl) rfl (ltb rfl) (Ex.cast (X_sub rfl rfl) (congrArg (Value.int .i64) hw2)) <|
      L_appendZ (olds := (xs.take i).flatMap encNd) (.plain rfl) rfl (ltb rfl) rfl El.t30 Tryz.underlying3 rfl rfl (run_firstCells_some w.drew 4 i ⟨g, 0, none⟩ i c0 _ hT (fun j u hj => ?_)) hT (by omega) (by omega) (by omega) <| fun b w1 C zs hb e1 hC1 hC2 hCl k1 => L_op (.plain rfl) rfl (ltb rfl) (X_assign rfl) <| L_nil <| thn_n ?_
    · have hj' : j < ((xs.take i).flatMap encNd).length := (List.getElem?_eq_some_iff.1 hj).1
      have kd : Blk w.drew g cur 80 := Blk.ext hh (Ext.drew w)
      rw [add_none, kd.cell, Nat.zero_add]
      have : cur.toList[j]? = some u := by rw [hcur, List.append_assoc, List.getElem?_append_left hj', hj]
      simpa using this
    have hBb : B ≤ b := by omega
    have hgb : g ≠ b := by omega
    have hzl : zs.length = C * 4 - i * 4 := by simp only [List.length_append, hT] at hCl; omega
    have hCs : (xs.length + 1) * 4 ≤ C * 4 := Nat.mul_le_mul_right _ (by omega)
    have hmin1 : Nat.min 1 (i + k - i) = 1 := Nat.min_eq_left (by omega)
    refine W_seq <| W_reg <| L_op (.plain rfl) rfl (ltb rfl) (X_move (v := .slice (some ⟨b, 0, none⟩) (i + k) C) rfl) <| L_op (.plain rfl) rfl (ltb rfl) (X_move (v := .int .i64 (i : Int)) rfl) <|
      L_op (.plain rfl) rfl (ltb rfl) (X_sliceG (l := i) (h := i + k) Tryz.underlying30 Tryz.sizeOf80 rfl ⟨_, rfl⟩ rfl (.inl (by omega)) (by omega) hC1) <| L_op (.plain rfl) rfl (ltb rfl) (X_move (v := .slice (some ⟨b9, 0, none⟩) 1 1) rfl) <|
      L_copyB (cs := encNd x) (.plain rfl) rfl (ltb rfl) rfl Tryz.underlying30 Tryz.sizeOf80 k1 rfl rfl (by rw [hmin1]; rfl) (hsrcX (k9.ext e1)) (by simp only [List.size_toArray, hCl, hxl]; omega) hone1 <| fun w2 hw2' k2 => L_nil <| thn_n ?_
    have e2 : Ext w w2 := Ext.wr e1 hw2' (Nat.le_of_eq hb) (Nat.le_refl _)
    have hh2 : Blk w2 g cur 80 := Blk.ext hh e2
    have hlr : ((List.take (0 + i * 4) ((List.flatMap encNd (List.take i xs)) ++ zs)) ++ encNd x ++ List.drop (0 + i * 4 + (encNd x).length) ((List.flatMap encNd (List.take i xs)) ++ zs)).length = C * 4 := by
      simp only [List.length_append, List.length_take, List.length_drop, hT, hxl, hzl]; omega
    have hmin2 : Nat.min (xs.length - i) (i + k - (i + 1)) = xs.length - i := Nat.min_eq_left (by omega)
    refine W_seq <| W_drawR (B := B) [LEq (.slice (some ⟨b, 0, none⟩) (i + k) C), LEq (.int .i64 (i : Int)), LEq (.int .i64 ((1 : Nat) : Int)), LEq (.int .i64 ((i + 1 : Nat) : Int)), LEq (.slice (some ⟨b, 0 + (i + 1) * 4, none⟩) (i + k - (i + 1)) (C - (i + 1))), LEq v, LEq (.int .i64 (i : Int)), LEq (.slice (some ⟨g, 0 + i * 4, none⟩) (xs.length - i) (c0 - i)),
        fun _ W => ∃ row, Blk W b row 80 ∧ row.toList = (xs.take i).flatMap encNd ++ (encNd x ++ (xs.drop i).flatMap encNd) ++ zs.drop (4 + ((xs.drop i).flatMap encNd).length)]
      [⟨true, true, true, false, []⟩, ⟨true, true, true, false, []⟩, ⟨true, true, true, false, []⟩, ⟨true, true, true, false, [1, 2]⟩, ⟨true, true, true, false, [0, 3]⟩, ⟨true, true, true, false, []⟩, ⟨true, true, true, false, []⟩, ⟨true, true, true, false, [5, 6]⟩, ⟨false, false, true, true, [4, 7]⟩]
      [(8, 0, [4]), (8, 1, [4, 3]), (8, 2, [4, 3]), (8, 3, [4]), (8, 4, []), (8, 5, [7]), (8, 6, [7]), (8, 7, [])] (by kernel_rfl) (by kernel_rfl) (Nat.le_trans hB e2.size)
      ⟨⟨LEq.rig.mono, fun _ => LEq.rig⟩, ⟨LEq.rig.mono, fun _ => LEq.rig⟩, ⟨LEq.rig.mono, fun _ => LEq.rig⟩, ⟨LEq.rig.mono, fun _ => LEq.rig⟩, ⟨LEq.rig.mono, fun _ => LEq.rig⟩, ⟨LEq.rig.mono, fun _ => LEq.rig⟩, ⟨LEq.rig.mono, fun _ => LEq.rig⟩, ⟨LEq.rig.mono, fun _ => LEq.rig⟩, ⟨fun _ _ _ k9 ⟨row, h1, h2⟩ => ⟨row, h1.ext k9, h2⟩, noR⟩, trivial⟩
      ⟨?_, ?_, ?_, ?_, ?_, ?_, ?_, ?_, ?_, trivial⟩ ?_
    · intro s9 w9 hb9 hx9 hf9 hd9 hu9
      exact L_op (.plain rfl) rfl (ltb rfl) (X_move (hf9 9 rfl)) <| L_nil <| stepS rfl rfl rfl (Ext.refl _) rfl
    · intro s9 w9 hb9 hx9 hf9 hd9 hu9
      exact L_op (.plain rfl) rfl (ltb rfl) (X_move (hf9 1 rfl)) <| L_nil <| stepS rfl rfl rfl (Ext.refl _) rfl
    · intro s9 w9 hb9 hx9 hf9 hd9 hu9
      exact L_op (.plain rfl) rfl (ltb rfl) (X_move (hf9 7 rfl)) <| L_nil <| stepS rfl rfl rfl (Ext.refl _) rfl
    · intro s9 w9 hb9 hx9 hf9 hd9 hu9
      exact L_op (.plain rfl) rfl (ltb rfl) (Ex.cast (X_add (hd9 1 rfl) (hd9 2 rfl)) (congrArg (Value.int .i64) hwi)) <| L_nil <| stepS rfl rfl rfl (Ext.refl _) rfl
    · intro s9 w9 hb9 hx9 hf9 hd9 hu9
      exact L_op (.plain rfl) rfl (ltb rfl) (X_sliceG (l := i + 1) (h := i + k) Tryz.underlying30 Tryz.sizeOf80 (hd9 0 rfl) ⟨_, hd9 3 rfl⟩ rfl (.inl (by omega)) (by omega) hC1) <| L_nil <| stepS rfl rfl rfl (Ext.refl _) rfl
    · intro s9 w9 hb9 hx9 hf9 hd9 hu9
      exact L_op (.plain rfl) rfl (ltb rfl) (X_move (hf9 0 rfl)) <| L_nil <| stepS rfl rfl rfl (Ext.refl _) rfl
    · intro s9 w9 hb9 hx9 hf9 hd9 hu9
      exact L_op (.plain rfl) rfl (ltb rfl) (X_move (hf9 1 rfl)) <| L_nil <| stepS rfl rfl rfl (Ext.refl _) rfl
    · intro s9 w9 hb9 hx9 hf9 hd9 hu9
      exact L_op (.plain rfl) rfl (ltb rfl) (X_sliceG (l := i) (h := xs.length) Tryz.underlying30 Tryz.sizeOf80 ((hd9 5 rfl).trans hv) ⟨_, hd9 6 rfl⟩ rfl (.inl (by omega)) hi (by omega)) <| L_nil <| stepS rfl rfl rfl (Ext.refl _) rfl
    · intro s9 w9 hb9 hx9 hf9 hd9 hu9
      have e9 : Ext w2 w9 := hx9 rfl
      refine L_copyB (cs := (xs.drop i).flatMap encNd) (.plain rfl) rfl (ltb rfl) rfl Tryz.underlying30 Tryz.sizeOf80 (k2.ext e9) (hd9 4 rfl) (hd9 7 rfl) (by rw [hmin2, hDl]) (hsrcD (hh2.ext e9)) (by simp only [List.size_toArray, hlr, hDl]; omega) honeD <| fun w3 hw3 k3 => L_nil <| stepH rfl rfl rfl (hw3.below hBb) ⟨_, k3, ?_⟩
      have hz : 4 ≤ zs.length := by omega
      have := ins_grow (T := (xs.take i).flatMap encNd) (X := encNd x) (D := (xs.drop i).flatMap encNd) (Z := zs) hT hxl hz
      simp only [Nat.zero_add] at this ⊢
      rw [show (i + 1) * 4 = i * 4 + 4 by omega]
      exact this
    · intro s3 w3 hb3 hf3 ha3
      obtain ⟨row, k3, hrow⟩ := ha3 8 rfl rfl
      refine thn_n <| W_seq <| W_reg <| L_op (.plain rfl) rfl (ltb rfl) (X_move (v := .slice (some ⟨b, 0, none⟩) (i + k) C) (hf3 9 rfl)) <| L_op (.plain rfl) rfl (ltb rfl) (X_assign rfl) <| L_nil <| thn_n <| W_ret <| thn_r <| fin_r ?_
      refine ⟨_, rfl, fun W hW => ?_, ?_⟩
      · exact Below.trans (Below.trans (Below.trans hW (e1.mono hB)) (hw2'.below hBb)) hb3
      · have hrl : row.toList.length = C * 4 := by
          rw [hrow]; simp only [List.length_append, List.length_drop, hT, hxl, hDl, hzl]; omega
        have := Ow.of_row (C := C) (ys := insAt xs i x) (R := zs.drop (4 + ((xs.drop i).flatMap encNd).length)) (row := row.toList) hBb (by simpa using k3) (by rw [ins_flat]; exact hrow) hlen2 (by omega) hC2 hrl
        rw [hil, ← hk] at this
        exact this
  · -- room: in place
    have hw3 : IntKind.wrap .i64 ((xs.length : Int) + ((1 : Nat) : Int)) = ((xs.length + 1 : Nat) : Int) := hw
    have hne9 : b9 ≠ g := by
      rcases hne with ⟨A, hA⟩ | hne
      · rw [hv] at hA; injection hA with _ hl0 _; omega
      · exact hne g (by rw [hv]; rfl)
    refine W_false (congrArg Value.bool (decide_eq_false (by omega))) <| W_skip <| thn_n <| W_seq <| W_reg <| L_op (.plain rfl) rfl (ltb rfl) (X_move (v := v) rfl) <| L_op (.plain rfl) rfl (ltb rfl) (X_move (v := .int .i64 (xs.length : Int)) rfl) <| L_op (.plain rfl) rfl (ltb rfl) (X_move (v := .int .i64 ((1 : Nat) : Int)) rfl) <|
      L_op (.plain rfl) rfl (ltb rfl) (Ex.cast (X_add rfl rfl) (congrArg (Value.int .i64) hw)) <| L_op (.plain rfl) rfl (ltb rfl) (Ex.cast (v' := .slice (some ⟨g, 0, none⟩) (xs.length + 1) c0) (X_sliceG (l := 0) (h := xs.length + 1) Tryz.underlying30 Tryz.sizeOf80 hv rfl ⟨_, rfl⟩ (.inr rfl) (Nat.zero_le _) (by omega)) (by simp)) <|
      L_op (.plain rfl) rfl (ltb rfl) (X_assign rfl) <| L_nil <| thn_n <| W_seq <| W_seq <| W_reg <| L_op (.plain rfl) rfl (ltb rfl) (X_move (v := .slice (some ⟨b9, 0, none⟩) 1 1) rfl) <| L_op (.plain rfl) rfl (ltb rfl) (X_move (v := .slice (some ⟨g, 0, none⟩) (xs.length + 1) c0) rfl) <| L_op (.plain rfl) rfl (ltb rfl) (X_move (v := .int .i64 (i : Int)) rfl) <|
      L_op (.plain rfl) rfl (ltb rfl) (X_move (v := .int .i64 ((1 : Nat) : Int)) rfl) <| L_op (.plain rfl) rfl (ltb rfl) (Ex.cast (X_add rfl rfl) (congrArg (Value.int .i64) hwi)) <|
      L_op (.plain rfl) rfl (ltb rfl) (X_sliceG (l := i + 1) (h := xs.length + 1) Tryz.underlying30 Tryz.sizeOf80 rfl ⟨_, rfl⟩ rfl (.inl (by omega)) (by omega) (by omega)) <|
      L_op (.plain rfl) rfl (ltb rfl) (X_ext (vs := #[.slice (some ⟨b9, 0, none⟩) 1 1, .slice (some ⟨g, 0 + (i + 1) * 4, none⟩) (xs.length + 1 - (i + 1)) (c0 - (i + 1))]) rfl (v := .bool false) ?_) <|
      L_op (.plain rfl) rfl (ltb rfl) (X_not rfl) <| L_nil <| thn_n <| W_true rfl ?_
    · rw [run_callFunc_extern Tryz.func206 (by kernel_rfl) (by kernel_rfl) (by kernel_rfl) (e := Extern.SlicesOverlaps.overlaps #[30, 30] #[4]) (by kernel_rfl),
        Lib.run_overlaps_apart w 30 4 80 Tryz.underlying30 4 Tryz.sizeOf80 ⟨b9, 0, none⟩ ⟨g, 0 + (i + 1) * 4, none⟩ 1 1 _ _ hne9 80 80 _ _ k9.shape (Blk.shape (cs := cur) hh) (by omega) k9.frozen k9.frozen]
      rfl
    have hmin2 : Nat.min (xs.length + 1 - i) (xs.length + 1 - (i + 1)) = xs.length - i := (Nat.min_eq_right (by omega)).trans (by omega)
    have hcs : (xs.length + 1) * 4 ≤ c0 * 4 := Nat.mul_le_mul_right _ (by omega)
    refine W_seq <| W_drawR (B := B) [LEq (.slice (some ⟨g, 0, none⟩) (xs.length + 1) c0), LEq (.int .i64 (i : Int)), LEq (.int .i64 ((1 : Nat) : Int)), LEq (.int .i64 ((i + 1 : Nat) : Int)), LEq (.slice (some ⟨g, 0 + (i + 1) * 4, none⟩) (xs.length + 1 - (i + 1)) (c0 - (i + 1))), LEq (.slice (some ⟨g, 0, none⟩) (xs.length + 1) c0), LEq (.int .i64 (i : Int)), LEq (.slice (some ⟨g, 0 + i * 4, none⟩) (xs.length + 1 - i) (c0 - i)),
        fun _ W => Blk W g (List.take (0 + (i + 1) * 4) cur.toList ++ (xs.drop i).flatMap encNd ++ List.drop (0 + (i + 1) * 4 + ((xs.drop i).flatMap encNd).length) cur.toList).toArray 80 ∧ Blk W b9 (encNd x).toArray 80]
      [⟨true, true, true, false, []⟩, ⟨true, true, true, false, []⟩, ⟨true, true, true, false, []⟩, ⟨true, true, true, false, [1, 2]⟩, ⟨true, true, true, false, [0, 3]⟩, ⟨true, true, true, false, []⟩, ⟨true, true, true, false, []⟩, ⟨true, true, true, false, [5, 6]⟩, ⟨false, false, true, true, [4, 7]⟩]
      [(8, 0, [4]), (8, 1, [4, 3]), (8, 2, [4, 3]), (8, 3, [4]), (8, 4, []), (8, 5, [7]), (8, 6, [7]), (8, 7, [])] (by kernel_rfl) (by kernel_rfl) hB
      ⟨⟨LEq.rig.mono, fun _ => LEq.rig⟩, ⟨LEq.rig.mono, fun _ => LEq.rig⟩, ⟨LEq.rig.mono, fun _ => LEq.rig⟩, ⟨LEq.rig.mono, fun _ => LEq.rig⟩, ⟨LEq.rig.mono, fun _ => LEq.rig⟩, ⟨LEq.rig.mono, fun _ => LEq.rig⟩, ⟨LEq.rig.mono, fun _ => LEq.rig⟩, ⟨LEq.rig.mono, fun _ => LEq.rig⟩, ⟨fun _ _ _ k9 ⟨h1, h2⟩ => ⟨h1.ext k9, h2.ext k9⟩, noR⟩, trivial⟩
      ⟨?_, ?_, ?_, ?_, ?_, ?_, ?_, ?_, ?_, trivial⟩ ?_
    · intro s9 w9 hb9 hx9 hf9 hd9 hu9
      exact L_op (.plain rfl) rfl (ltb rfl) (X_move (hf9 0 rfl)) <| L_nil <| stepS rfl rfl rfl (Ext.refl _) rfl
    · intro s9 w9 hb9 hx9 hf9 hd9 hu9
      exact L_op (.plain rfl) rfl (ltb rfl) (X_move (hf9 1 rfl)) <| L_nil <| stepS rfl rfl rfl (Ext.refl _) rfl
    · intro s9 w9 hb9 hx9 hf9 hd9 hu9
      exact L_op (.plain rfl) rfl (ltb rfl) (X_move (hf9 7 rfl)) <| L_nil <| stepS rfl rfl rfl (Ext.refl _) rfl
    · intro s9 w9 hb9 hx9 hf9 hd9 hu9
      exact L_op (.plain rfl) rfl (ltb rfl) (Ex.cast (X_add (hd9 1 rfl) (hd9 2 rfl)) (congrArg (Value.int .i64) hwi)) <| L_nil <| stepS rfl rfl rfl (Ext.refl _) rfl
    · intro s9 w9 hb9 hx9 hf9 hd9 hu9
      exact L_op (.plain rfl) rfl (ltb rfl) (X_sliceG (l := i + 1) (h := xs.length + 1) Tryz.underlying30 Tryz.sizeOf80 (hd9 0 rfl) ⟨_, hd9 3 rfl⟩ rfl (.inl (by omega)) (by omega) (by omega)) <| L_nil <| stepS rfl rfl rfl (Ext.refl _) rfl
    · intro s9 w9 hb9 hx9 hf9 hd9 hu9
      exact L_op (.plain rfl) rfl (ltb rfl) (X_move (hf9 0 rfl)) <| L_nil <| stepS rfl rfl rfl (Ext.refl _) rfl
    · intro s9 w9 hb9 hx9 hf9 hd9 hu9
      exact L_op (.plain rfl) rfl (ltb rfl) (X_move (hf9 1 rfl)) <| L_nil <| stepS rfl rfl rfl (Ext.refl _) rfl
    · intro s9 w9 hb9 hx9 hf9 hd9 hu9
      exact L_op (.plain rfl) rfl (ltb rfl) (X_sliceG (l := i) (h := xs.length + 1) Tryz.underlying30 Tryz.sizeOf80 (hd9 5 rfl) ⟨_, hd9 6 rfl⟩ rfl (.inl (by omega)) (by omega) (by omega)) <| L_nil <| stepS rfl rfl rfl (Ext.refl _) rfl
    · intro s9 w9 hb9 hx9 hf9 hd9 hu9
      have e9 : Ext w w9 := hx9 rfl
      exact L_copyB (cs := (xs.drop i).flatMap encNd) (.plain rfl) rfl (ltb rfl) rfl Tryz.underlying30 Tryz.sizeOf80 (Blk.ext hh e9) (hd9 4 rfl) (hd9 7 rfl) (by rw [hmin2, hDl]) (hsrcD (Blk.ext hh e9)) (by rw [hDl, hsz]; omega) honeD <| fun w3 hw3 k3 => L_nil <| stepH rfl rfl rfl (hw3.below hBg) ⟨k3, hw3.blk (k9.ext e9) hne9⟩
    · intro s3 w3 hb3 hf3 ha3
      obtain ⟨k3, k93⟩ := ha3 8 rfl rfl
      have hmin1 : Nat.min 1 (xs.length + 1 - i) = 1 := Nat.min_eq_left (by omega)
      have hsz3 : (List.take (0 + (i + 1) * 4) cur.toList ++ (xs.drop i).flatMap encNd ++ List.drop (0 + (i + 1) * 4 + ((xs.drop i).flatMap encNd).length) cur.toList).length = c0 * 4 := by
        simp only [List.length_append, List.length_take, List.length_drop, hDl, hcl]; omega
      refine thn_n <| W_seq <| W_reg <| L_op (.plain rfl) rfl (ltb rfl) (X_move (v := .slice (some ⟨g, 0, none⟩) (xs.length + 1) c0) (hf3 0 rfl)) <| L_op (.plain rfl) rfl (ltb rfl) (X_move (v := .int .i64 (i : Int)) (hf3 1 rfl)) <|
        L_op (.plain rfl) rfl (ltb rfl) (X_sliceG (l := i) (h := xs.length + 1) Tryz.underlying30 Tryz.sizeOf80 rfl ⟨_, rfl⟩ rfl (.inl (by omega)) (by omega) (by omega)) <| L_op (.plain rfl) rfl (ltb rfl) (X_move (v := .slice (some ⟨b9, 0, none⟩) 1 1) (hf3 2 rfl)) <|
        L_copyB (cs := encNd x) (.plain rfl) rfl (ltb rfl) rfl Tryz.underlying30 Tryz.sizeOf80 k3 rfl rfl (by rw [hmin1]; rfl) (hsrcX k93) (by simp only [List.size_toArray, hsz3, hxl]; omega) hone1 <| fun w4 hw4 k4 => L_nil <| thn_n <|
        W_seq <| W_reg <| L_op (.plain rfl) rfl (ltb rfl) (X_move (v := .slice (some ⟨g, 0, none⟩) (xs.length + 1) c0) (hf3 0 rfl)) <| L_op (.plain rfl) rfl (ltb rfl) (X_assign rfl) <| L_nil <| thn_n <| W_ret <| thn_r <| fin_r ?_
      refine ⟨_, rfl, fun W hW => ?_, ?_⟩
      · exact Below.trans (Below.trans hW hb3) (hw4.below hBg)
      · have hz : 4 ≤ (cur.toList.drop (xs.length * 4)).length := by simp only [List.length_drop, hcl]; omega
        have h5 := ins_room (T := (xs.take i).flatMap encNd) (X := encNd x) (D := (xs.drop i).flatMap encNd) (R := cur.toList.drop (xs.length * 4)) hT hxl hz
        rw [← hcur, show i * 4 + 4 = (i + 1) * 4 by omega] at h5
        simp only [Nat.zero_add] at k4
        rw [h5] at k4
        have hrl : ((xs.take i).flatMap encNd ++ (encNd x ++ (xs.drop i).flatMap encNd) ++ (cur.toList.drop (xs.length * 4)).drop 4).length = c0 * 4 := by
          simp only [List.length_append, List.length_drop, hT, hxl, hDl, hcl]; omega
        have := Ow.of_row (C := c0) (ys := insAt xs i x) (R := (cur.toList.drop (xs.length * 4)).drop 4) hBg k4 (by rw [ins_flat]) hlen2 (by omega) hcm hrl
        rw [hil] at this
        exact this

/-! impl.place, by text -/
theorem insAt_less {t : List Nd} {n : Nd} (h : riseN t = true) : insAt t (lessC t n.path) n = placeL t n := by
  obtain ⟨h1, h2⟩ := less_split (p := n.path) (riseN_rise h)
  unfold insAt placeL; rw [h1, h2]
theorem impl_place.calls {w : World} {a0 : List Nd} {a1 : Nd} {v_a0 : Value} (gv : GV 0 w) (f_a0 : Rd 4 encNd w v_a0 a0) (h0 : a0.length ≤ 1048575) (h1 : riseN a0 = true) (h2 : ∀ x ∈ a0, x.path.length ≤ 1048576) (h3 : a1.path.length ≤ 1048576) :
    Calls Tryz.prog 124 #[v_a0, .agg (encNd a1).toArray] w (Rt (RO 80 4 encNd w (placeL a0 a1))) := by
  obtain ⟨fd, hbs⟩ := binS_run h0 h1 h2 h3
  have hle := lessC_le a0 a1.path
  refine calls_of_W Tryz.func124 rfl (Nat.le_of_ble_eq_true rfl) Tryz.ntmps124 rfl ?_
  refine W_seq <| W_reg <| L_box (.plain rfl) rfl (ltb rfl) rfl rfl <| fun b3 w1 z1 z2 e1 k1 => L_op (.plain rfl) rfl (ltb rfl) (X_assign (v := .slice none 0 0) rfl) <| L_nil <| thn_n <| W_seq <| W_reg <| L_op (.plain rfl) rfl (ltb rfl) (X_move (v := v_a0) rfl) <| L_op (.plain rfl) rfl (ltb rfl) (X_loadS (cs := encNd a1) Tryz.isAgg80 Tryz.sizeOf80 rfl rfl (Blk.at0 k1)) <|
    L_callP (.plain rfl) rfl (ltb rfl) rfl Tryz.call174 (slices_BinSearchN.calls (w := w1) (a0 := a0) (a1 := a1) (a2 := cmpN) (v_a2 := .func (.func 175) #[] #[]) (f_a0.ext e1) (fun x0 x1 r h => ?_) rfl hbs) rfl <| fun w2 e2 => L_op (.plain rfl) rfl (ltb rfl) (X_move rfl) <| L_op (.plain rfl) rfl (ltb rfl) (X_extract rfl rfl) <| L_op (.plain rfl) rfl (ltb rfl) (X_extract rfl rfl) <| L_op (.plain rfl) rfl (ltb rfl) (X_assign (v := .int .i64 (lessC a0 a1.path : Int)) rfl) <| L_op (.plain rfl) rfl (ltb rfl) (X_assign rfl) <| L_nil <| thn_n ?_
  · obtain ⟨q0, q1, rfl⟩ := cmpN_some h
    exact FnAt.mk Tryz.call175 (by rfl) fun w9 k9 => impl_place_1.calls (w := w9) (a0 := x0) (a1 := x1) (GV.ext gv (Ext.trans e1 k9)) q0 q1
  have f2 : Rd 4 encNd w2 v_a0 a0 := f_a0.ext (Ext.trans e1 e2)
  have k2 := k1.ext e2
  refine W_seq <| W_drawP (B := w2.heap.size) [LEq v_a0, LOw 80 4 encNd w2.heap.size a0, LEq (.int .i64 (lessC a0 a1.path : Int)), LEq (.agg (encNd a1).toArray), fun v W => ∃ b, v = .slice (some ⟨b, 0, none⟩) 1 1 ∧ Blk W b (encNd a1).toArray 80, LOw 80 4 encNd w2.heap.size (placeL a0 a1), LOw 80 4 encNd w2.heap.size (placeL a0 a1)]
    [⟨true, true, true, false, []⟩, ⟨true, false, true, false, [0]⟩, ⟨true, true, true, false, []⟩, ⟨true, true, true, false, []⟩, ⟨true, false, true, false, [3]⟩, ⟨false, false, true, false, [1, 2, 4]⟩, ⟨true, false, false, true, [5]⟩]
    [(5, 0, [1]), (5, 1, []), (5, 2, []), (5, 3, [4]), (5, 4, []), (6, 5, [])] 1 4 5 Apart (by kernel_rfl) (by kernel_rfl) (by kernel_rfl) (by kernel_rfl) (Nat.le_refl _)
    ⟨⟨LEq.rig.mono, fun _ => LEq.rig⟩, ⟨LOw.mono, noR⟩, ⟨LEq.rig.mono, fun _ => LEq.rig⟩, ⟨LEq.rig.mono, fun _ => LEq.rig⟩, ⟨fun _ _ _ k ⟨b, h1, h2⟩ => ⟨b, h1, h2.ext k⟩, noR⟩, ⟨LOw.mono, noR⟩, ⟨LOw.mono, noR⟩, trivial⟩
    ⟨?_, ?_, ?_, ?_, ?_, ?_, ?_, trivial⟩ ?_
  · intro s9 w9 c9 hb9 hx9 hf9 hd9 hu9 hp9 hq9 hD9
    exact L_op (.plain rfl) rfl (ltb rfl) (X_move (hf9 0 rfl)) <| L_nil <| stepPS0 rfl rfl rfl (Ext.refl _) rfl rfl rfl
  · intro s9 w9 c9 hb9 hx9 hf9 hd9 hu9 hp9 hq9 hD9
    have e9 : Ext w2 w9 := hx9 rfl
    have h13 : s9 13 = v_a0 := hd9 0 rfl
    refine L_callO (.plain rfl) rfl (ltb rfl) rfl Tryz.call121 (slices_CloneN.calls (w := w9) (a0 := a0) (f2.ext e9) (by omega)) (cons2 h13 rfl) <| fun v14 w10 e10 o14 => L_nil <| stepPp rfl rfl rfl e10 (Ow.base o14 e9.size) (fun hc => ?_) rfl
    obtain ⟨b, hb, kb⟩ := hp9 rfl hc
    obtain ⟨h9 | ⟨h9, _⟩, _⟩ := o14
    · refine .inr fun g b' hg hb' => ?_
      have hlt := (h9.lt g hg).1
      have hb2 : s9 17 = .slice (some ⟨b, 0, none⟩) 1 1 := hb
      have hb'' : (s9 17).ownBlock = some b' := hb'
      rw [hb2] at hb''
      have : b = b' := Option.some.inj hb''
      have := kb.lt
      omega
    · exact .inl h9
  · intro s9 w9 c9 hb9 hx9 hf9 hd9 hu9 hp9 hq9 hD9
    exact L_op (.plain rfl) rfl (ltb rfl) (X_move (hf9 5 rfl)) <| L_nil <| stepPS0 rfl rfl rfl (Ext.refl _) rfl rfl rfl
  · intro s9 w9 c9 hb9 hx9 hf9 hd9 hu9 hp9 hq9 hD9
    have e9 : Ext w2 w9 := hx9 rfl
    exact L_op (.plain rfl) rfl (ltb rfl) (X_loadS (cs := encNd a1) Tryz.isAgg80 Tryz.sizeOf80 rfl (hf9 3 rfl) (Blk.at0 (k2.ext e9))) <| L_nil <| stepPS0 rfl rfl rfl (Ext.refl _) rfl rfl rfl
  · intro s9 w9 c9 hb9 hx9 hf9 hd9 hu9 hp9 hq9 hD9
    have e9 : Ext w2 w9 := hx9 rfl
    have h16 : s9 16 = .agg (encNd a1).toArray := hd9 3 rfl
    refine L_lit (.plain rfl) rfl (ltb rfl) rfl Tryz.underlying30 Tryz.sizeOf80 Tryz.zeroValue80 rfl rfl rfl (vs := [.agg (encNd a1).toArray]) (cons2 h16 rfl) (lit_all rfl) <| fun b17 w10 z17 z17' e10 k17 => L_nil <| stepPq rfl rfl rfl e10 ⟨b17, rfl, k17⟩ rfl (fun hc => ?_)
    have o14 : Ow 80 4 encNd w2.heap.size w9 (s9 14) a0 := hq9 rfl hc
    rcases o14.hb with h9 | h9
    · exact .inl h9
    · refine .inr fun g b' hg hb' => ?_
      have hlt := h9 g hg
      have : b17 = b' := Option.some.inj hb'
      omega
  · intro s9 w9 c9 hb9 hx9 hf9 hd9 hu9 hp9 hq9 hD9
    have e9 : Ext w2 w9 := hx9 rfl
    have o14 : Ow 80 4 encNd w2.heap.size w9 (s9 14) a0 := hd9 1 rfl
    have h15 : s9 15 = .int .i64 (lessC a0 a1.path : Int) := hd9 2 rfl
    obtain ⟨b17, h17, k17⟩ := hd9 4 rfl
    have h17' : s9 17 = .slice (some ⟨b17, 0, none⟩) 1 1 := h17
    have hD : Apart (s9 14) (s9 17) := hD9 rfl rfl
    refine L_callA (.plain rfl) rfl (ltb rfl) rfl Tryz.call176 (slices_InsertN.calls (w := w9) (x := a1) (i := lessC a0 a1.path) o14 hle e9.size k17 (hD.imp (fun h => h) fun h g hg => h g b17 hg (by rw [h17']; rfl)) (by omega)) (cons2 rfl (cons2 h15 (cons2 h17' rfl))) <| fun v18 w10 h18 => ?_
    obtain ⟨g18, o18⟩ := h18
    refine L_nil <| stepPH0 rfl rfl rfl (g18 _ (Below.refl _ _)) (show Ow 80 4 encNd w2.heap.size w10 v18 (placeL a0 a1) from ?_) rfl rfl
    rw [← insAt_less h1]; exact o18
  · intro s9 w9 c9 hb9 hx9 hf9 hd9 hu9 hp9 hq9 hD9
    exact L_op (.plain rfl) rfl (ltb rfl) (X_assign rfl) <| L_nil <| stepPS0 rfl rfl rfl (Ext.refl _) (hd9 5 rfl) rfl rfl
  · intro s3 w3 hb3 hf3 ha3
    have o4 : Ow 80 4 encNd w2.heap.size w3 (s3 4) (placeL a0 a1) := ha3 6 rfl rfl
    refine thn_n <| W_ret <| fin_r ?_
    have e3 : Ext w w2 := Ext.trans e1 e2
    exact fin1o rfl (Ext.trans e3 hb3) o4 e3.size

/-! spec.l04Put -/
abbrev spec_l04Put.e1 (a0 : List Nd) (a1 : Nd) (x5_11 : Int) := ((([] : List Nd) ++ (sub a0 0 x5_11)) ++ ([a1] : List Nd))
theorem spec_l04Put.walk {k : Nat} {w : World} {a0 : List Nd} {a1 : Nd} {v_a0 : Value} (f_a0 : Rd 4 encNd w v_a0 a0) {r : List Nd} (H : spec_l04Put.sh k a0 a1 = some r) :
    Calls Tryz.prog 163 #[v_a0, .agg (encNd a1).toArray] w (Rt (RO 80 4 encNd w r)) := by
  unfold spec_l04Put.sh at H
  refine calls_of_W Tryz.func163 rfl (Nat.le_of_ble_eq_true rfl) Tryz.ntmps163 rfl ?_
  refine W_seq <| W_reg <| L_box (.plain rfl) rfl (ltb rfl) rfl rfl <| fun b1 w2 z3 z4 e5 k6 => L_op (.plain rfl) rfl (ltb rfl) (X_assign (v := (.slice none 0 0)) rfl) <| L_nil <| thn_n <| W_seq <| W_reg <| L_op (.plain rfl) rfl (ltb rfl) (X_assign (v := (.int .i64 0)) rfl) <| L_nil <| thn_n <| W_seq ?_
  obtain ⟨z8, L9, C10⟩ := bind_some H
  clear H
  refine  W_cutQ (fun s0 sQ wQ => ∃ (x5_11 : Int), Kp [(5, 6), (7, 23)] s0 sQ ∧ sQ 5 = .int .i64 x5_11 ∧ Ext w2 wQ ∧ z8 = .inr x5_11) ?_ ?_
  · refine W_block <| W_loopI (fun s0 kk sQ wQ => ∃ (x5_7 : Int), Kp [(5, 6), (7, 23)] s0 sQ ∧ sQ 5 = .int .i64 x5_7 ∧ Ext w2 wQ ∧ loopF (spec_l04Put.b1 a0 a1) kk x5_7 = some z8) k ⟨0, (Kp.refl _ _), rfl, (Ext.refl w2), L9⟩ ?_
    rintro k16 s17 w18 ⟨x5_7, K19, h22, e20, L21⟩
    cases k16 with
    | zero => exact absurd L21 (by simp [loopF])
    | succ k16 =>
      obtain ⟨t23, H, S24⟩ := loopF_succ L21
      clear L21
      unfold spec_l04Put.b1 at H
      refine W_seq <| W_seq ?_
      obtain ⟨c25, H⟩ := bif_some H
      obtain ⟨c28, H⟩ := bif_some H
      obtain ⟨c29, H⟩ := bif_some H
      refine W_drawM [LEq (.int .i64 x5_7), LEq v_a0, LEq (.int .i64 (a0.length : Int)), LEq (.bool (decide (x5_7 < (a0.length : Int)))), LEq (.bool (decide (x5_7 < (a0.length : Int)))), LIf (decide (x5_7 < (a0.length : Int))) (LEq v_a0), LIf (decide (x5_7 < (a0.length : Int))) (LEq (.int .i64 x5_7)), LIf (decide (x5_7 < (a0.length : Int))) (LAt0 (encNd (gt a0 x5_7))), LIf (decide (x5_7 < (a0.length : Int))) (LAt 1 (encNd (gt a0 x5_7))), LIf (decide (x5_7 < (a0.length : Int))) (LEq (S ((gt a0 x5_7).path))), LIf (decide (x5_7 < (a0.length : Int))) (LEq (.pointer (some ⟨b1, 1, none⟩))), LIf (decide (x5_7 < (a0.length : Int))) (LEq (S a1.path)), LIf (decide (x5_7 < (a0.length : Int))) (LEq (.bool (lessL (cut 47 ((gt a0 x5_7).path)) (cut 47 a1.path)))), LEq (.bool ((decide (x5_7 < (a0.length : Int))) && (lessL (cut 47 ((gt a0 x5_7).path)) (cut 47 a1.path))))] (by kernel_rfl) (by kernel_rfl) ⟨LEq.mono, LEq.mono, LEq.mono, LEq.mono, LEq.mono, (LIf.mono LEq.mono), (LIf.mono LEq.mono), (LIf.mono LAt0.mono), (LIf.mono LAt.mono), (LIf.mono LEq.mono), (LIf.mono LEq.mono), (LIf.mono LEq.mono), (LIf.mono LEq.mono), LEq.mono, trivial⟩ ⟨?_, ?_, ?_, ?_, ?_, ?_, ?_, ?_, ?_, ?_, ?_, ?_, ?_, ?_, trivial⟩ ?_
      · intro s32 w33 e34 hf35 hd36 hu37
        exact L_op (.plain rfl) rfl (ltb rfl) (X_move (v := (.int .i64 x5_7)) ((hf35 5 rfl).trans h22)) <| L_nil <| stepEnd rfl rfl (Ext.refl w33) rfl
      · intro s38 w39 e40 hf41 hd42 hu43
        exact L_op (.plain rfl) rfl (ltb rfl) (X_move (v := v_a0) ((hf41 0 rfl).trans (K19 0 rfl))) <| L_nil <| stepEnd rfl rfl (Ext.refl w39) rfl
      · intro s44 w45 e46 hf47 hd48 hu49
        have d50 : s44 8 = v_a0 := (hd48 1 rfl)
        exact L_op (.plain rfl) rfl (ltb rfl) (X_lenR Tryz.underlying30 d50 (Rd.ext f_a0 (Ext.trans (Ext.trans e5 e20) e46))) <| L_nil <| stepEnd rfl rfl (Ext.refl w45) rfl
      · intro s51 w52 e53 hf54 hd55 hu56
        have d57 : s51 7 = (.int .i64 x5_7) := (hd55 0 rfl)
        have d58 : s51 9 = (.int .i64 (a0.length : Int)) := (hd55 2 rfl)
        exact L_op (.plain rfl) rfl (ltb rfl) (X_lss d57 d58) <| L_nil <| stepEnd rfl rfl (Ext.refl w52) rfl
      · intro s59 w60 e61 hf62 hd63 hu64
        have d65 : s59 10 = (.bool (decide (x5_7 < (a0.length : Int)))) := (hd63 3 rfl)
        exact L_op (.plain rfl) rfl (ltb rfl) (X_move (v := (.bool (decide (x5_7 < (a0.length : Int))))) d65) <| L_nil <| stepEnd rfl rfl (Ext.refl w60) rfl
      · intro s66 w67 e68 hf69 hd70 hu71
        rcases bool_two (decide (x5_7 < (a0.length : Int))) with b72 | b72
        · have g73 : (decide (x5_7 < (a0.length : Int))) = true := b72
          have d74 : s66 11 = (.bool (decide (x5_7 < (a0.length : Int)))) := (hd70 4 rfl)
          have d75 : s66 11 = (.bool (decide (x5_7 < (a0.length : Int)))) := (hd70 4 rfl)
          exact L_op (.guard 4 true 11 rfl rfl (ltb rfl) (d74.trans (congrArg Value.bool g73))) rfl (ltb rfl) (X_move (v := v_a0) ((hf69 0 rfl).trans (K19 0 rfl))) <| L_nil <| stepEnd rfl rfl (Ext.refl w67) ⟨fun _ => rfl, fun h => absurd (b72.symm.trans h) (by decide)⟩
        · have d76 : s66 11 = (.bool (decide (x5_7 < (a0.length : Int)))) := (hd70 4 rfl)
          have g77 : (decide (x5_7 < (a0.length : Int))) = false := b72
          exact L_skip rfl rfl (ltb rfl) (d76.trans (congrArg Value.bool g77)) rfl rfl (ltb rfl) <| L_nil <| stepEnd rfl rfl (Ext.refl w67) ⟨fun h => absurd (b72.symm.trans h) (by decide), fun _ => rfl⟩
      · intro s78 w79 e80 hf81 hd82 hu83
        rcases bool_two (decide (x5_7 < (a0.length : Int))) with b84 | b84
        · have g85 : (decide (x5_7 < (a0.length : Int))) = true := b84
          have d86 : s78 11 = (.bool (decide (x5_7 < (a0.length : Int)))) := (hd82 4 rfl)
          have d87 : s78 11 = (.bool (decide (x5_7 < (a0.length : Int)))) := (hd82 4 rfl)
          exact L_op (.guard 4 true 11 rfl rfl (ltb rfl) (d86.trans (congrArg Value.bool g85))) rfl (ltb rfl) (X_move (v := (.int .i64 x5_7)) ((hf81 5 rfl).trans h22)) <| L_nil <| stepEnd rfl rfl (Ext.refl w79) ⟨fun _ => rfl, fun h => absurd (b84.symm.trans h) (by decide)⟩
        · have d88 : s78 11 = (.bool (decide (x5_7 < (a0.length : Int)))) := (hd82 4 rfl)
          have g89 : (decide (x5_7 < (a0.length : Int))) = false := b84
          exact L_skip rfl rfl (ltb rfl) (d88.trans (congrArg Value.bool g89)) rfl rfl (ltb rfl) <| L_nil <| stepEnd rfl rfl (Ext.refl w79) ⟨fun h => absurd (b84.symm.trans h) (by decide), fun _ => rfl⟩
      · intro s90 w91 e92 hf93 hd94 hu95
        rcases bool_two (decide (x5_7 < (a0.length : Int))) with b96 | b96
        · have g97 : (decide (x5_7 < (a0.length : Int))) = true := b96
          have d98 : s90 11 = (.bool (decide (x5_7 < (a0.length : Int)))) := (hd94 4 rfl)
          have d99 : s90 11 = (.bool (decide (x5_7 < (a0.length : Int)))) := (hd94 4 rfl)
          have d100 : s90 12 = v_a0 := ((hd94 5 rfl).1 b96)
          have d101 : s90 13 = (.int .i64 x5_7) := ((hd94 6 rfl).1 b96)
          have c102 := imp_take b96 c25
          exact L_idx (.guard 4 true 11 rfl rfl (ltb rfl) (d98.trans (congrArg Value.bool g97))) rfl (ltb rfl) rfl Tryz.underlying30 Tryz.sizeOf80 d100 (Rd.ext f_a0 (Ext.trans (Ext.trans e5 e20) e92)) d101 c102 <| fun p103 h104 => L_nil <| stepEnd rfl rfl (Ext.refl w91) ⟨fun _ => ⟨_, rfl, h104⟩, fun h => absurd (b96.symm.trans h) (by decide)⟩
        · have d105 : s90 11 = (.bool (decide (x5_7 < (a0.length : Int)))) := (hd94 4 rfl)
          have g106 : (decide (x5_7 < (a0.length : Int))) = false := b96
          exact L_skip rfl rfl (ltb rfl) (d105.trans (congrArg Value.bool g106)) rfl rfl (ltb rfl) <| L_nil <| stepEnd rfl rfl (Ext.refl w91) ⟨fun h => absurd (b96.symm.trans h) (by decide), fun _ => rfl⟩
      · intro s107 w108 e109 hf110 hd111 hu112
        rcases bool_two (decide (x5_7 < (a0.length : Int))) with b113 | b113
        · have g114 : (decide (x5_7 < (a0.length : Int))) = true := b113
          have d115 : s107 11 = (.bool (decide (x5_7 < (a0.length : Int)))) := (hd111 4 rfl)
          have d116 : s107 11 = (.bool (decide (x5_7 < (a0.length : Int)))) := (hd111 4 rfl)
          obtain ⟨p117, h118, h119⟩ := ((hd111 7 rfl).1 b113)
          exact L_op (.guard 4 true 11 rfl rfl (ltb rfl) (d115.trans (congrArg Value.bool g114))) rfl (ltb rfl) (X_fieldAddr Tryz.underlying80 rfl Tryz.sizeOf9 rfl h118) <| L_nil <| stepEnd rfl rfl (Ext.refl w108) ⟨fun _ => ⟨_, rfl, h119⟩, fun h => absurd (b113.symm.trans h) (by decide)⟩
        · have d120 : s107 11 = (.bool (decide (x5_7 < (a0.length : Int)))) := (hd111 4 rfl)
          have g121 : (decide (x5_7 < (a0.length : Int))) = false := b113
          exact L_skip rfl rfl (ltb rfl) (d120.trans (congrArg Value.bool g121)) rfl rfl (ltb rfl) <| L_nil <| stepEnd rfl rfl (Ext.refl w108) ⟨fun h => absurd (b113.symm.trans h) (by decide), fun _ => rfl⟩
      · intro s122 w123 e124 hf125 hd126 hu127
        rcases bool_two (decide (x5_7 < (a0.length : Int))) with b128 | b128
        · have g129 : (decide (x5_7 < (a0.length : Int))) = true := b128
          have d130 : s122 11 = (.bool (decide (x5_7 < (a0.length : Int)))) := (hd126 4 rfl)
          have d131 : s122 11 = (.bool (decide (x5_7 < (a0.length : Int)))) := (hd126 4 rfl)
          obtain ⟨p132, h133, h134⟩ := ((hd126 8 rfl).1 b128)
          exact L_op (.guard 4 true 11 rfl rfl (ltb rfl) (d130.trans (congrArg Value.bool g129))) rfl (ltb rfl) (X_loadF Tryz.isAgg9 (j := 1) h134 h133 rfl) <| L_nil <| stepEnd rfl rfl (Ext.refl w123) ⟨fun _ => rfl, fun h => absurd (b128.symm.trans h) (by decide)⟩
        · have d135 : s122 11 = (.bool (decide (x5_7 < (a0.length : Int)))) := (hd126 4 rfl)
          have g136 : (decide (x5_7 < (a0.length : Int))) = false := b128
          exact L_skip rfl rfl (ltb rfl) (d135.trans (congrArg Value.bool g136)) rfl rfl (ltb rfl) <| L_nil <| stepEnd rfl rfl (Ext.refl w123) ⟨fun h => absurd (b128.symm.trans h) (by decide), fun _ => rfl⟩
      · intro s137 w138 e139 hf140 hd141 hu142
        rcases bool_two (decide (x5_7 < (a0.length : Int))) with b143 | b143
        · have g144 : (decide (x5_7 < (a0.length : Int))) = true := b143
          have d145 : s137 11 = (.bool (decide (x5_7 < (a0.length : Int)))) := (hd141 4 rfl)
          have d146 : s137 11 = (.bool (decide (x5_7 < (a0.length : Int)))) := (hd141 4 rfl)
          exact L_op (.guard 4 true 11 rfl rfl (ltb rfl) (d145.trans (congrArg Value.bool g144))) rfl (ltb rfl) (X_fieldAddr Tryz.underlying80 rfl Tryz.sizeOf9 rfl ((hf140 3 rfl).trans (K19 3 rfl))) <| L_nil <| stepEnd rfl rfl (Ext.refl w138) ⟨fun _ => rfl, fun h => absurd (b143.symm.trans h) (by decide)⟩
        · have d147 : s137 11 = (.bool (decide (x5_7 < (a0.length : Int)))) := (hd141 4 rfl)
          have g148 : (decide (x5_7 < (a0.length : Int))) = false := b143
          exact L_skip rfl rfl (ltb rfl) (d147.trans (congrArg Value.bool g148)) rfl rfl (ltb rfl) <| L_nil <| stepEnd rfl rfl (Ext.refl w138) ⟨fun h => absurd (b143.symm.trans h) (by decide), fun _ => rfl⟩
      · intro s149 w150 e151 hf152 hd153 hu154
        rcases bool_two (decide (x5_7 < (a0.length : Int))) with b155 | b155
        · have g156 : (decide (x5_7 < (a0.length : Int))) = true := b155
          have d157 : s149 11 = (.bool (decide (x5_7 < (a0.length : Int)))) := (hd153 4 rfl)
          have d158 : s149 11 = (.bool (decide (x5_7 < (a0.length : Int)))) := (hd153 4 rfl)
          have d159 : s149 17 = (.pointer (some ⟨b1, 1, none⟩)) := ((hd153 10 rfl).1 b155)
          exact L_op (.guard 4 true 11 rfl rfl (ltb rfl) (d157.trans (congrArg Value.bool g156))) rfl (ltb rfl) (X_loadB Tryz.isAgg9 (Blk.ext k6 (Ext.trans e20 e151)) d159 rfl) <| L_nil <| stepEnd rfl rfl (Ext.refl w150) ⟨fun _ => rfl, fun h => absurd (b155.symm.trans h) (by decide)⟩
        · have d160 : s149 11 = (.bool (decide (x5_7 < (a0.length : Int)))) := (hd153 4 rfl)
          have g161 : (decide (x5_7 < (a0.length : Int))) = false := b155
          exact L_skip rfl rfl (ltb rfl) (d160.trans (congrArg Value.bool g161)) rfl rfl (ltb rfl) <| L_nil <| stepEnd rfl rfl (Ext.refl w150) ⟨fun h => absurd (b155.symm.trans h) (by decide), fun _ => rfl⟩
      · intro s162 w163 e164 hf165 hd166 hu167
        rcases bool_two (decide (x5_7 < (a0.length : Int))) with b168 | b168
        · have g169 : (decide (x5_7 < (a0.length : Int))) = true := b168
          have d170 : s162 11 = (.bool (decide (x5_7 < (a0.length : Int)))) := (hd166 4 rfl)
          have d171 : s162 11 = (.bool (decide (x5_7 < (a0.length : Int)))) := (hd166 4 rfl)
          have d172 : s162 16 = (S ((gt a0 x5_7).path)) := ((hd166 9 rfl).1 b168)
          have d173 : s162 18 = (S a1.path) := ((hd166 11 rfl).1 b168)
          have c174 := imp_take b168 c28
          have c175 := imp_take b168 c29
          exact L_callP (.guard 4 true 11 rfl rfl (ltb rfl) (d170.trans (congrArg Value.bool g169))) rfl (ltb rfl) rfl Tryz.call112 (spec_l01Less.calls (w := w163) (a0 := (gt a0 x5_7).path) (a1 := a1.path) (of_decide_eq_true c174) (of_decide_eq_true c175)) (cons2 d172 (cons2 d173 rfl)) <| fun w176 e177 => L_nil <| stepEnd rfl rfl e177 ⟨fun _ => rfl, fun h => absurd (b168.symm.trans h) (by decide)⟩
        · have d178 : s162 11 = (.bool (decide (x5_7 < (a0.length : Int)))) := (hd166 4 rfl)
          have g179 : (decide (x5_7 < (a0.length : Int))) = false := b168
          exact L_skip rfl rfl (ltb rfl) (d178.trans (congrArg Value.bool g179)) rfl rfl (ltb rfl) <| L_nil <| stepEnd rfl rfl (Ext.refl w163) ⟨fun h => absurd (b168.symm.trans h) (by decide), fun _ => rfl⟩
      · intro s180 w181 e182 hf183 hd184 hu185
        rcases bool_two (decide (x5_7 < (a0.length : Int))) with b186 | b186
        · have d187 : s180 11 = (.bool (decide (x5_7 < (a0.length : Int)))) := (hd184 4 rfl)
          have d188 : s180 19 = (.bool (lessL (cut 47 ((gt a0 x5_7).path)) (cut 47 a1.path))) := ((hd184 12 rfl).1 b186)
          exact L_op (.plain rfl) rfl (ltb rfl) (X_pick (b := true) (v := (.bool (lessL (cut 47 ((gt a0 x5_7).path)) (cut 47 a1.path)))) (d187.trans (congrArg Value.bool b186)) d188) <| L_nil <| stepEnd rfl rfl (Ext.refl w181) (and_t b186)
        · have d189 : s180 11 = (.bool (decide (x5_7 < (a0.length : Int)))) := (hd184 4 rfl)
          exact L_op (.plain rfl) rfl (ltb rfl) (X_pick (b := false) (v := (.bool false)) (d189.trans (congrArg Value.bool b186)) rfl) <| L_nil <| stepEnd rfl rfl (Ext.refl w181) (and_f b186)
      intro s190 w191 e192 hf193 ha194
      have K195 := Kp.ofD (kp := [(7, 21)]) rfl hf193
      have d196 : s190 20 = (.bool ((decide (x5_7 < (a0.length : Int))) && (lessL (cut 47 ((gt a0 x5_7).path)) (cut 47 a1.path)))) := ha194 13 rfl
      clear ha194 hf193
      refine thn_n ?_
      rcases bif_two H with ⟨q197, H⟩ | ⟨q197, H⟩
      · refine W_true (d196.trans (congrArg Value.bool q197)) <| W_skip <| thn_n <| W_block <| W_reg <| L_op (.plain rfl) rfl (ltb rfl) (X_move (v := (.int .i64 x5_7)) ((K195 5 rfl).trans h22)) <| L_op (.plain rfl) rfl (ltb rfl) (X_add rfl rfl) <| L_op (.plain rfl) rfl (ltb rfl) (X_assign (v := (.int .i64 (IntKind.wrap .i64 (x5_7 + 1)))) rfl) <| L_nil <| blk_n <| thn_n ?_
        obtain rfl := Option.some.inj H
        exact ⟨_, Nat.lt_succ_self _, IntKind.wrap .i64 (x5_7 + 1), (Kp.upd (Kp.upd (Kp.upd (Kp.cut K19 K195 rfl) rfl) rfl) rfl), rfl, (Ext.trans e20 e192), S24⟩
      · refine W_false (d196.trans (congrArg Value.bool q197)) <| W_exit <| thn_x <| thn_x <| blk_x <| thn_n ?_
        obtain rfl := Option.some.inj H
        obtain rfl := Option.some.inj S24
        exact ⟨x5_7, (Kp.cut K19 K195 rfl), ((K195 5 rfl).trans h22), (Ext.trans e20 e192), rfl⟩
  · rintro s13 w12 ⟨x5_11, K14, h198, e15, y199⟩
    rw [y199] at C10
    have H := C10
    replace H : _ = some _ := H
    refine thn_n <| W_seq <| W_reg <| L_op (.plain rfl) rfl (ltb rfl) (X_move (v := v_a0) (K14 0 rfl)) <| L_op (.plain rfl) rfl (ltb rfl) (X_move (v := (.int .i64 x5_11)) h198) ?_
    obtain ⟨c200, H⟩ := bif_some H
    refine L_sub (.plain rfl) rfl (ltb rfl) rfl Tryz.underlying30 Tryz.sizeOf80 rfl (Rd.ext f_a0 (Ext.trans e5 e15)) (l := x5_11) (h := (a0.length : Int)) ⟨_, rfl⟩ rfl c200 <| fun v201 h202 => L_op (.plain rfl) rfl (ltb rfl) (X_assign (v := v201) rfl) <| L_nil <| thn_n <| W_seq <| W_seq ?_
    obtain ⟨c203, H⟩ := bif_some H
    refine W_drawM [LEq (.int .i64 x5_11), LEq v_a0, LEq (.int .i64 (a0.length : Int)), LEq (.bool (decide (x5_11 < (a0.length : Int)))), LEq (.bool (decide (x5_11 < (a0.length : Int)))), LIf (decide (x5_11 < (a0.length : Int))) (LEq v_a0), LIf (decide (x5_11 < (a0.length : Int))) (LEq (.int .i64 x5_11)), LIf (decide (x5_11 < (a0.length : Int))) (LAt0 (encNd (gt a0 x5_11))), LIf (decide (x5_11 < (a0.length : Int))) (LAt 1 (encNd (gt a0 x5_11))), LIf (decide (x5_11 < (a0.length : Int))) (LEq (S ((gt a0 x5_11).path))), LIf (decide (x5_11 < (a0.length : Int))) (LEq (.pointer (some ⟨b1, 1, none⟩))), LIf (decide (x5_11 < (a0.length : Int))) (LEq (S a1.path)), LIf (decide (x5_11 < (a0.length : Int))) (LEq (.bool (decide (((gt a0 x5_11).path) = a1.path)))), LEq (.bool ((decide (x5_11 < (a0.length : Int))) && (decide (((gt a0 x5_11).path) = a1.path))))] (by kernel_rfl) (by kernel_rfl) ⟨LEq.mono, LEq.mono, LEq.mono, LEq.mono, LEq.mono, (LIf.mono LEq.mono), (LIf.mono LEq.mono), (LIf.mono LAt0.mono), (LIf.mono LAt.mono), (LIf.mono LEq.mono), (LIf.mono LEq.mono), (LIf.mono LEq.mono), (LIf.mono LEq.mono), LEq.mono, trivial⟩ ⟨?_, ?_, ?_, ?_, ?_, ?_, ?_, ?_, ?_, ?_, ?_, ?_, ?_, ?_, trivial⟩ ?_
    · intro s206 w207 e208 hf209 hd210 hu211
      exact L_op (.plain rfl) rfl (ltb rfl) (X_move (v := (.int .i64 x5_11)) ((hf209 5 rfl).trans h198)) <| L_nil <| stepEnd rfl rfl (Ext.refl w207) rfl
    · intro s212 w213 e214 hf215 hd216 hu217
      exact L_op (.plain rfl) rfl (ltb rfl) (X_move (v := v_a0) ((hf215 0 rfl).trans (K14 0 rfl))) <| L_nil <| stepEnd rfl rfl (Ext.refl w213) rfl
    · intro s218 w219 e220 hf221 hd222 hu223
      have d224 : s218 27 = v_a0 := (hd222 1 rfl)
      exact L_op (.plain rfl) rfl (ltb rfl) (X_lenR Tryz.underlying30 d224 (Rd.ext f_a0 (Ext.trans (Ext.trans e5 e15) e220))) <| L_nil <| stepEnd rfl rfl (Ext.refl w219) rfl
    · intro s225 w226 e227 hf228 hd229 hu230
      have d231 : s225 26 = (.int .i64 x5_11) := (hd229 0 rfl)
      have d232 : s225 28 = (.int .i64 (a0.length : Int)) := (hd229 2 rfl)
      exact L_op (.plain rfl) rfl (ltb rfl) (X_lss d231 d232) <| L_nil <| stepEnd rfl rfl (Ext.refl w226) rfl
    · intro s233 w234 e235 hf236 hd237 hu238
      have d239 : s233 29 = (.bool (decide (x5_11 < (a0.length : Int)))) := (hd237 3 rfl)
      exact L_op (.plain rfl) rfl (ltb rfl) (X_move (v := (.bool (decide (x5_11 < (a0.length : Int))))) d239) <| L_nil <| stepEnd rfl rfl (Ext.refl w234) rfl
    · intro s240 w241 e242 hf243 hd244 hu245
      rcases bool_two (decide (x5_11 < (a0.length : Int))) with b246 | b246
      · have g247 : (decide (x5_11 < (a0.length : Int))) = true := b246
        have d248 : s240 30 = (.bool (decide (x5_11 < (a0.length : Int)))) := (hd244 4 rfl)
        have d249 : s240 30 = (.bool (decide (x5_11 < (a0.length : Int)))) := (hd244 4 rfl)
        exact L_op (.guard 4 true 30 rfl rfl (ltb rfl) (d248.trans (congrArg Value.bool g247))) rfl (ltb rfl) (X_move (v := v_a0) ((hf243 0 rfl).trans (K14 0 rfl))) <| L_nil <| stepEnd rfl rfl (Ext.refl w241) ⟨fun _ => rfl, fun h => absurd (b246.symm.trans h) (by decide)⟩
      · have d250 : s240 30 = (.bool (decide (x5_11 < (a0.length : Int)))) := (hd244 4 rfl)
        have g251 : (decide (x5_11 < (a0.length : Int))) = false := b246
        exact L_skip rfl rfl (ltb rfl) (d250.trans (congrArg Value.bool g251)) rfl rfl (ltb rfl) <| L_nil <| stepEnd rfl rfl (Ext.refl w241) ⟨fun h => absurd (b246.symm.trans h) (by decide), fun _ => rfl⟩
    · intro s252 w253 e254 hf255 hd256 hu257
      rcases bool_two (decide (x5_11 < (a0.length : Int))) with b258 | b258
      · have g259 : (decide (x5_11 < (a0.length : Int))) = true := b258
        have d260 : s252 30 = (.bool (decide (x5_11 < (a0.length : Int)))) := (hd256 4 rfl)
        have d261 : s252 30 = (.bool (decide (x5_11 < (a0.length : Int)))) := (hd256 4 rfl)
        exact L_op (.guard 4 true 30 rfl rfl (ltb rfl) (d260.trans (congrArg Value.bool g259))) rfl (ltb rfl) (X_move (v := (.int .i64 x5_11)) ((hf255 5 rfl).trans h198)) <| L_nil <| stepEnd rfl rfl (Ext.refl w253) ⟨fun _ => rfl, fun h => absurd (b258.symm.trans h) (by decide)⟩
      · have d262 : s252 30 = (.bool (decide (x5_11 < (a0.length : Int)))) := (hd256 4 rfl)
        have g263 : (decide (x5_11 < (a0.length : Int))) = false := b258
        exact L_skip rfl rfl (ltb rfl) (d262.trans (congrArg Value.bool g263)) rfl rfl (ltb rfl) <| L_nil <| stepEnd rfl rfl (Ext.refl w253) ⟨fun h => absurd (b258.symm.trans h) (by decide), fun _ => rfl⟩
    · intro s264 w265 e266 hf267 hd268 hu269
      rcases bool_two (decide (x5_11 < (a0.length : Int))) with b270 | b270
      · have g271 : (decide (x5_11 < (a0.length : Int))) = true := b270
        have d272 : s264 30 = (.bool (decide (x5_11 < (a0.length : Int)))) := (hd268 4 rfl)
        have d273 : s264 30 = (.bool (decide (x5_11 < (a0.length : Int)))) := (hd268 4 rfl)
        have d274 : s264 31 = v_a0 := ((hd268 5 rfl).1 b270)
        have d275 : s264 32 = (.int .i64 x5_11) := ((hd268 6 rfl).1 b270)
        have c276 := imp_take b270 c203
        exact L_idx (.guard 4 true 30 rfl rfl (ltb rfl) (d272.trans (congrArg Value.bool g271))) rfl (ltb rfl) rfl Tryz.underlying30 Tryz.sizeOf80 d274 (Rd.ext f_a0 (Ext.trans (Ext.trans e5 e15) e266)) d275 c276 <| fun p277 h278 => L_nil <| stepEnd rfl rfl (Ext.refl w265) ⟨fun _ => ⟨_, rfl, h278⟩, fun h => absurd (b270.symm.trans h) (by decide)⟩
      · have d279 : s264 30 = (.bool (decide (x5_11 < (a0.length : Int)))) := (hd268 4 rfl)
        have g280 : (decide (x5_11 < (a0.length : Int))) = false := b270
        exact L_skip rfl rfl (ltb rfl) (d279.trans (congrArg Value.bool g280)) rfl rfl (ltb rfl) <| L_nil <| stepEnd rfl rfl (Ext.refl w265) ⟨fun h => absurd (b270.symm.trans h) (by decide), fun _ => rfl⟩
    · intro s281 w282 e283 hf284 hd285 hu286
      rcases bool_two (decide (x5_11 < (a0.length : Int))) with b287 | b287
      · have g288 : (decide (x5_11 < (a0.length : Int))) = true := b287
        have d289 : s281 30 = (.bool (decide (x5_11 < (a0.length : Int)))) := (hd285 4 rfl)
        have d290 : s281 30 = (.bool (decide (x5_11 < (a0.length : Int)))) := (hd285 4 rfl)
        obtain ⟨p291, h292, h293⟩ := ((hd285 7 rfl).1 b287)
        exact L_op (.guard 4 true 30 rfl rfl (ltb rfl) (d289.trans (congrArg Value.bool g288))) rfl (ltb rfl) (X_fieldAddr Tryz.underlying80 rfl Tryz.sizeOf9 rfl h292) <| L_nil <| stepEnd rfl rfl (Ext.refl w282) ⟨fun _ => ⟨_, rfl, h293⟩, fun h => absurd (b287.symm.trans h) (by decide)⟩
      · have d294 : s281 30 = (.bool (decide (x5_11 < (a0.length : Int)))) := (hd285 4 rfl)
        have g295 : (decide (x5_11 < (a0.length : Int))) = false := b287
        exact L_skip rfl rfl (ltb rfl) (d294.trans (congrArg Value.bool g295)) rfl rfl (ltb rfl) <| L_nil <| stepEnd rfl rfl (Ext.refl w282) ⟨fun h => absurd (b287.symm.trans h) (by decide), fun _ => rfl⟩
    · intro s296 w297 e298 hf299 hd300 hu301
      rcases bool_two (decide (x5_11 < (a0.length : Int))) with b302 | b302
      · have g303 : (decide (x5_11 < (a0.length : Int))) = true := b302
        have d304 : s296 30 = (.bool (decide (x5_11 < (a0.length : Int)))) := (hd300 4 rfl)
        have d305 : s296 30 = (.bool (decide (x5_11 < (a0.length : Int)))) := (hd300 4 rfl)
        obtain ⟨p306, h307, h308⟩ := ((hd300 8 rfl).1 b302)
        exact L_op (.guard 4 true 30 rfl rfl (ltb rfl) (d304.trans (congrArg Value.bool g303))) rfl (ltb rfl) (X_loadF Tryz.isAgg9 (j := 1) h308 h307 rfl) <| L_nil <| stepEnd rfl rfl (Ext.refl w297) ⟨fun _ => rfl, fun h => absurd (b302.symm.trans h) (by decide)⟩
      · have d309 : s296 30 = (.bool (decide (x5_11 < (a0.length : Int)))) := (hd300 4 rfl)
        have g310 : (decide (x5_11 < (a0.length : Int))) = false := b302
        exact L_skip rfl rfl (ltb rfl) (d309.trans (congrArg Value.bool g310)) rfl rfl (ltb rfl) <| L_nil <| stepEnd rfl rfl (Ext.refl w297) ⟨fun h => absurd (b302.symm.trans h) (by decide), fun _ => rfl⟩
    · intro s311 w312 e313 hf314 hd315 hu316
      rcases bool_two (decide (x5_11 < (a0.length : Int))) with b317 | b317
      · have g318 : (decide (x5_11 < (a0.length : Int))) = true := b317
        have d319 : s311 30 = (.bool (decide (x5_11 < (a0.length : Int)))) := (hd315 4 rfl)
        have d320 : s311 30 = (.bool (decide (x5_11 < (a0.length : Int)))) := (hd315 4 rfl)
        exact L_op (.guard 4 true 30 rfl rfl (ltb rfl) (d319.trans (congrArg Value.bool g318))) rfl (ltb rfl) (X_fieldAddr Tryz.underlying80 rfl Tryz.sizeOf9 rfl ((hf314 3 rfl).trans (K14 3 rfl))) <| L_nil <| stepEnd rfl rfl (Ext.refl w312) ⟨fun _ => rfl, fun h => absurd (b317.symm.trans h) (by decide)⟩
      · have d321 : s311 30 = (.bool (decide (x5_11 < (a0.length : Int)))) := (hd315 4 rfl)
        have g322 : (decide (x5_11 < (a0.length : Int))) = false := b317
        exact L_skip rfl rfl (ltb rfl) (d321.trans (congrArg Value.bool g322)) rfl rfl (ltb rfl) <| L_nil <| stepEnd rfl rfl (Ext.refl w312) ⟨fun h => absurd (b317.symm.trans h) (by decide), fun _ => rfl⟩
    · intro s323 w324 e325 hf326 hd327 hu328
      rcases bool_two (decide (x5_11 < (a0.length : Int))) with b329 | b329
      · have g330 : (decide (x5_11 < (a0.length : Int))) = true := b329
        have d331 : s323 30 = (.bool (decide (x5_11 < (a0.length : Int)))) := (hd327 4 rfl)
        have d332 : s323 30 = (.bool (decide (x5_11 < (a0.length : Int)))) := (hd327 4 rfl)
        have d333 : s323 36 = (.pointer (some ⟨b1, 1, none⟩)) := ((hd327 10 rfl).1 b329)
        exact L_op (.guard 4 true 30 rfl rfl (ltb rfl) (d331.trans (congrArg Value.bool g330))) rfl (ltb rfl) (X_loadB Tryz.isAgg9 (Blk.ext k6 (Ext.trans e15 e325)) d333 rfl) <| L_nil <| stepEnd rfl rfl (Ext.refl w324) ⟨fun _ => rfl, fun h => absurd (b329.symm.trans h) (by decide)⟩
      · have d334 : s323 30 = (.bool (decide (x5_11 < (a0.length : Int)))) := (hd327 4 rfl)
        have g335 : (decide (x5_11 < (a0.length : Int))) = false := b329
        exact L_skip rfl rfl (ltb rfl) (d334.trans (congrArg Value.bool g335)) rfl rfl (ltb rfl) <| L_nil <| stepEnd rfl rfl (Ext.refl w324) ⟨fun h => absurd (b329.symm.trans h) (by decide), fun _ => rfl⟩
    · intro s336 w337 e338 hf339 hd340 hu341
      rcases bool_two (decide (x5_11 < (a0.length : Int))) with b342 | b342
      · have g343 : (decide (x5_11 < (a0.length : Int))) = true := b342
        have d344 : s336 30 = (.bool (decide (x5_11 < (a0.length : Int)))) := (hd340 4 rfl)
        have d345 : s336 30 = (.bool (decide (x5_11 < (a0.length : Int)))) := (hd340 4 rfl)
        have d346 : s336 35 = (S ((gt a0 x5_11).path)) := ((hd340 9 rfl).1 b342)
        have d347 : s336 37 = (S a1.path) := ((hd340 11 rfl).1 b342)
        exact L_op (.guard 4 true 30 rfl rfl (ltb rfl) (d344.trans (congrArg Value.bool g343))) rfl (ltb rfl) (X_seq d346 d347) <| L_nil <| stepEnd rfl rfl (Ext.refl w337) ⟨fun _ => rfl, fun h => absurd (b342.symm.trans h) (by decide)⟩
      · have d348 : s336 30 = (.bool (decide (x5_11 < (a0.length : Int)))) := (hd340 4 rfl)
        have g349 : (decide (x5_11 < (a0.length : Int))) = false := b342
        exact L_skip rfl rfl (ltb rfl) (d348.trans (congrArg Value.bool g349)) rfl rfl (ltb rfl) <| L_nil <| stepEnd rfl rfl (Ext.refl w337) ⟨fun h => absurd (b342.symm.trans h) (by decide), fun _ => rfl⟩
    · intro s350 w351 e352 hf353 hd354 hu355
      rcases bool_two (decide (x5_11 < (a0.length : Int))) with b356 | b356
      · have d357 : s350 30 = (.bool (decide (x5_11 < (a0.length : Int)))) := (hd354 4 rfl)
        have d358 : s350 38 = (.bool (decide (((gt a0 x5_11).path) = a1.path))) := ((hd354 12 rfl).1 b356)
        exact L_op (.plain rfl) rfl (ltb rfl) (X_pick (b := true) (v := (.bool (decide (((gt a0 x5_11).path) = a1.path)))) (d357.trans (congrArg Value.bool b356)) d358) <| L_nil <| stepEnd rfl rfl (Ext.refl w351) (and_t b356)
      · have d359 : s350 30 = (.bool (decide (x5_11 < (a0.length : Int)))) := (hd354 4 rfl)
        exact L_op (.plain rfl) rfl (ltb rfl) (X_pick (b := false) (v := (.bool false)) (d359.trans (congrArg Value.bool b356)) rfl) <| L_nil <| stepEnd rfl rfl (Ext.refl w351) (and_f b356)
    intro s360 w361 e362 hf363 ha364
    have K365 := Kp.ofD (kp := [(26, 40)]) rfl hf363
    have d366 : s360 39 = (.bool ((decide (x5_11 < (a0.length : Int))) && (decide (((gt a0 x5_11).path) = a1.path)))) := ha364 13 rfl
    clear ha364 hf363
    refine thn_n ?_
    rcases bif_two H with ⟨q367, H⟩ | ⟨q367, H⟩
    · refine W_true (d366.trans (congrArg Value.bool q367)) <| W_reg <| L_op (.plain rfl) rfl (ltb rfl) (X_move (v := v_a0) ((K365 0 rfl).trans (K14 0 rfl))) <| L_op (.plain rfl) rfl (ltb rfl) (X_move (v := (.int .i64 x5_11)) ((K365 5 rfl).trans h198)) <| L_op (.plain rfl) rfl (ltb rfl) (X_add rfl rfl) ?_
      obtain ⟨c368, H⟩ := bif_some H
      refine L_sub (.plain rfl) rfl (ltb rfl) rfl Tryz.underlying30 Tryz.sizeOf80 rfl (Rd.ext f_a0 (Ext.trans (Ext.trans e5 e15) e362)) (l := IntKind.wrap .i64 (x5_11 + 1)) (h := (a0.length : Int)) ⟨_, rfl⟩ rfl c368 <| fun v369 h370 => L_op (.plain rfl) rfl (ltb rfl) (X_assign (v := v369) rfl) <| L_nil <| thn_n <| W_seq ?_
      obtain ⟨c377, H⟩ := bif_some H
      obtain ⟨c380, H⟩ := bif_some H
      obtain ⟨c392, H⟩ := bif_some H
      obtain ⟨c398, H⟩ := bif_some H
      refine W_drawR (B := w361.heap.size) [LEmp, LEq v_a0, LEq (.int .i64 x5_11), LRdW w361 4 encNd (sub a0 0 x5_11), LOw 80 4 encNd w361.heap.size (([] : List Nd) ++ (sub a0 0 x5_11)), LEq (.agg #[(.int .i64 a1.kind), (S a1.path), (S a1.body), (.int .i64 a1.mode)]), LRd 4 encNd ([a1] : List Nd), LOw 80 4 encNd w361.heap.size (spec_l04Put.e1 a0 a1 x5_11), LEq v369, LOw 80 4 encNd w361.heap.size ((spec_l04Put.e1 a0 a1 x5_11) ++ (sub a0 (IntKind.wrap .i64 (x5_11 + 1)) (a0.length : Int))), LOw 80 4 encNd w361.heap.size ((spec_l04Put.e1 a0 a1 x5_11) ++ (sub a0 (IntKind.wrap .i64 (x5_11 + 1)) (a0.length : Int)))] [⟨true, true, true, false, []⟩, ⟨true, true, true, false, []⟩, ⟨true, true, true, false, []⟩, ⟨true, true, true, false, [1, 2]⟩, ⟨true, false, true, false, [0, 3]⟩, ⟨true, true, true, false, []⟩, ⟨true, false, true, false, [5]⟩, ⟨false, false, true, false, [4, 6]⟩, ⟨true, true, false, false, []⟩, ⟨false, false, false, false, [7, 8]⟩, ⟨true, false, false, true, [9]⟩] [(7, 0, [4]), (9, 0, [7, 4]), (7, 1, [4, 3]), (9, 1, [7, 4, 3]), (7, 2, [4, 3]), (9, 2, [7, 4, 3]), (7, 3, [4]), (9, 3, [7, 4]), (7, 4, []), (9, 4, [7]), (7, 5, [6]), (9, 5, [7, 6]), (7, 6, []), (9, 6, [7]), (9, 7, []), (10, 7, []), (10, 9, [])] (by kernel_rfl) (by kernel_rfl) (Nat.le_refl _) ⟨⟨LEmp.rig.mono, fun _ => LEmp.rig⟩, ⟨LEq.rig.mono, fun _ => LEq.rig⟩, ⟨LEq.rig.mono, fun _ => LEq.rig⟩, ⟨LRdW.rig.mono, fun _ => LRdW.rig⟩, ⟨LOw.mono, noR⟩, ⟨LEq.rig.mono, fun _ => LEq.rig⟩, ⟨LRd.mono, noR⟩, ⟨LOw.mono, noR⟩, ⟨LEq.rig.mono, fun _ => LEq.rig⟩, ⟨LOw.mono, noR⟩, ⟨LOw.mono, noR⟩, trivial⟩ ⟨?_, ?_, ?_, ?_, ?_, ?_, ?_, ?_, ?_, ?_, ?_, trivial⟩ ?_
      · intro s404 w405 hb406 hx407 hf408 hd409 hu410
        have e411 : Ext w361 w405 := hx407 rfl
        exact L_lit (.plain rfl) rfl (ltb rfl) rfl Tryz.underlying30 Tryz.sizeOf80 Tryz.zeroValue80 rfl rfl rfl (vs := []) rfl (lit_all rfl) <| fun b412 w413 z414 z415 e416 k417 => L_nil <| stepS rfl rfl rfl e416 ⟨_, rfl⟩
      · intro s418 w419 hb420 hx421 hf422 hd423 hu424
        have e425 : Ext w361 w419 := hx421 rfl
        exact L_op (.plain rfl) rfl (ltb rfl) (X_move (v := v_a0) ((hf422 0 rfl).trans ((K365 0 rfl).trans (K14 0 rfl)))) <| L_nil <| stepS rfl rfl rfl (Ext.refl w419) rfl
      · intro s426 w427 hb428 hx429 hf430 hd431 hu432
        have e433 : Ext w361 w427 := hx429 rfl
        exact L_op (.plain rfl) rfl (ltb rfl) (X_move (v := (.int .i64 x5_11)) ((hf430 5 rfl).trans ((K365 5 rfl).trans h198))) <| L_nil <| stepS rfl rfl rfl (Ext.refl w427) rfl
      · intro s434 w435 hb436 hx437 hf438 hd439 hu440
        have e441 : Ext w361 w435 := hx437 rfl
        have d442 : s434 45 = v_a0 := (hd439 1 rfl)
        have d443 : s434 46 = (.int .i64 x5_11) := (hd439 2 rfl)
        have c444 := c377
        exact L_sub (.plain rfl) rfl (ltb rfl) rfl Tryz.underlying30 Tryz.sizeOf80 d442 (Rd.ext f_a0 (Ext.trans (Ext.trans e5 e15) e362)) (l := 0) (h := x5_11) rfl ⟨_, d443⟩ c444 <| fun v445 h446 => L_nil <| stepS rfl rfl rfl (Ext.refl w435) h446
      · intro s447 w448 hb449 hx450 hf451 hd452 hu453
        have e454 : Ext w361 w448 := hx450 rfl
        obtain ⟨b455, h456⟩ := (hd452 0 rfl)
        have d457 : Rd 4 encNd w361 (s447 47) (sub a0 0 x5_11) := (hd452 3 rfl)
        have c458 := c380
        exact L_append (enc := encNd) (.plain rfl) rfl (ltb rfl) rfl El.t30 h456 rfl (Ow.zero (base := w448.heap.size) (w := w448)) (Rd.ext d457 e454) (ones_Nd _) (of_decide_eq_true c458) (Nat.le_refl _) <| fun v459 w460 o461 z462 g463 => L_nil <| stepS rfl rfl rfl (g463 _ (Ext.refl w448)) (Ow.base o461 e454.size)
      · intro s464 w465 hb466 hx467 hf468 hd469 hu470
        have e471 : Ext w361 w465 := hx467 rfl
        exact L_op (.plain rfl) rfl (ltb rfl) (X_loadS Tryz.isAgg80 Tryz.sizeOf80 rfl ((hf468 3 rfl).trans ((K365 3 rfl).trans (K14 3 rfl))) (Blk.at0 (Blk.ext k6 (Ext.trans (Ext.trans e15 e362) e471)))) <| L_nil <| stepS rfl rfl rfl (Ext.refl w465) rfl
      · intro s472 w473 hb474 hx475 hf476 hd477 hu478
        have e479 : Ext w361 w473 := hx475 rfl
        have d480 : s472 49 = (.agg #[(.int .i64 a1.kind), (S a1.path), (S a1.body), (.int .i64 a1.mode)]) := (hd477 5 rfl)
        exact L_lit (.plain rfl) rfl (ltb rfl) rfl Tryz.underlying30 Tryz.sizeOf80 Tryz.zeroValue80 rfl rfl rfl (vs := [(.agg #[(.int .i64 a1.kind), (S a1.path), (S a1.body), (.int .i64 a1.mode)])]) (cons2 d480 rfl) (lit_all rfl) <| fun b481 w482 z483 z484 e485 k486 => L_nil <| stepS rfl rfl rfl e485 (Ow.rd (Ow.new (xs := [a1]) (sz := 4) (enc := encNd) (base := w473.heap.size) k486 (Nat.le_of_eq z483) rfl (fun _ _ => by rfl) (Nat.le_of_ble_eq_true rfl)))
      · intro s487 w488 hb489 hx490 hf491 hd492 hu493
        have e494 : Ext w361 w488 := hx490 rfl
        have d495 : Ow 80 4 encNd w361.heap.size w488 (s487 48) (([] : List Nd) ++ (sub a0 0 x5_11)) := (hd492 4 rfl)
        have d496 : Rd 4 encNd w488 (s487 50) ([a1] : List Nd) := (hd492 6 rfl)
        have c497 := c392
        exact L_append (enc := encNd) (.plain rfl) rfl (ltb rfl) rfl El.t30 rfl rfl d495 d496 (ones_Nd _) (of_decide_eq_true c497) (e494).size <| fun v498 w499 o500 z501 g502 => L_nil <| stepH rfl rfl rfl (g502 _ (Below.refl _ _)) o500
      · intro s503 w504 hb505 hx506 hf507 hd508 hu509
        have e510 : Ext w361 w504 := Below.trans (Ext.refl w361) hb505
        exact L_op (.plain rfl) rfl (ltb rfl) (X_move (v := v369) (hf507 6 rfl)) <| L_nil <| stepS rfl rfl rfl (Ext.refl w504) rfl
      · intro s511 w512 hb513 hx514 hf515 hd516 hu517
        have e518 : Ext w361 w512 := Below.trans (Ext.refl w361) hb513
        have d519 : Ow 80 4 encNd w361.heap.size w512 (s511 51) (spec_l04Put.e1 a0 a1 x5_11) := (hd516 7 rfl)
        have d520 : s511 52 = v369 := (hd516 8 rfl)
        have c521 := c398
        exact L_append (enc := encNd) (.plain rfl) rfl (ltb rfl) rfl El.t30 rfl d520 d519 (Rd.ext h370 e518) (ones_Nd _) (of_decide_eq_true c521) (e518).size <| fun v522 w523 o524 z525 g526 => L_nil <| stepH rfl rfl rfl (g526 _ (Below.refl _ _)) o524
      · intro s527 w528 hb529 hx530 hf531 hd532 hu533
        have e534 : Ext w361 w528 := Below.trans (Ext.refl w361) hb529
        have d535 : Ow 80 4 encNd w361.heap.size w528 (s527 53) ((spec_l04Put.e1 a0 a1 x5_11) ++ (sub a0 (IntKind.wrap .i64 (x5_11 + 1)) (a0.length : Int))) := (hd532 9 rfl)
        exact L_op (.plain rfl) rfl (ltb rfl) (X_assign (v := (s527 53)) rfl) <| L_nil <| stepS rfl rfl rfl (Ext.refl w528) d535
      intro s536 w537 hb538 hf540 ha541
      have K542 := Kp.ofD (kp := [(4, 5), (44, 54)]) rfl hf540
      have e539 : Ext w361 w537 := hb538
      have d543 : Ow 80 4 encNd w361.heap.size w537 (s536 4) ((spec_l04Put.e1 a0 a1 x5_11) ++ (sub a0 (IntKind.wrap .i64 (x5_11 + 1)) (a0.length : Int))) := ha541 10 rfl rfl
      clear ha541 hf540
      refine thn_n <| W_ret <| fin_r ?_
      obtain rfl := Option.some.inj H
      exact fin1o rfl (Ext.trans (Ext.trans (Ext.trans e5 e15) e362) e539) d543 ((Ext.trans (Ext.trans e5 e15) e362)).size
    · refine W_false (d366.trans (congrArg Value.bool q367)) <| W_skip <| thn_n <| W_seq ?_
      obtain ⟨c550, H⟩ := bif_some H
      obtain ⟨c553, H⟩ := bif_some H
      obtain ⟨c565, H⟩ := bif_some H
      obtain ⟨c571, H⟩ := bif_some H
      refine W_drawR (B := w361.heap.size) [LEmp, LEq v_a0, LEq (.int .i64 x5_11), LRdW w361 4 encNd (sub a0 0 x5_11), LOw 80 4 encNd w361.heap.size (([] : List Nd) ++ (sub a0 0 x5_11)), LEq (.agg #[(.int .i64 a1.kind), (S a1.path), (S a1.body), (.int .i64 a1.mode)]), LRd 4 encNd ([a1] : List Nd), LOw 80 4 encNd w361.heap.size (spec_l04Put.e1 a0 a1 x5_11), LEq v201, LOw 80 4 encNd w361.heap.size ((spec_l04Put.e1 a0 a1 x5_11) ++ (sub a0 x5_11 (a0.length : Int))), LOw 80 4 encNd w361.heap.size ((spec_l04Put.e1 a0 a1 x5_11) ++ (sub a0 x5_11 (a0.length : Int)))] [⟨true, true, true, false, []⟩, ⟨true, true, true, false, []⟩, ⟨true, true, true, false, []⟩, ⟨true, true, true, false, [1, 2]⟩, ⟨true, false, true, false, [0, 3]⟩, ⟨true, true, true, false, []⟩, ⟨true, false, true, false, [5]⟩, ⟨false, false, true, false, [4, 6]⟩, ⟨true, true, false, false, []⟩, ⟨false, false, false, false, [7, 8]⟩, ⟨true, false, false, true, [9]⟩] [(7, 0, [4]), (9, 0, [7, 4]), (7, 1, [4, 3]), (9, 1, [7, 4, 3]), (7, 2, [4, 3]), (9, 2, [7, 4, 3]), (7, 3, [4]), (9, 3, [7, 4]), (7, 4, []), (9, 4, [7]), (7, 5, [6]), (9, 5, [7, 6]), (7, 6, []), (9, 6, [7]), (9, 7, []), (10, 7, []), (10, 9, [])] (by kernel_rfl) (by kernel_rfl) (Nat.le_refl _) ⟨⟨LEmp.rig.mono, fun _ => LEmp.rig⟩, ⟨LEq.rig.mono, fun _ => LEq.rig⟩, ⟨LEq.rig.mono, fun _ => LEq.rig⟩, ⟨LRdW.rig.mono, fun _ => LRdW.rig⟩, ⟨LOw.mono, noR⟩, ⟨LEq.rig.mono, fun _ => LEq.rig⟩, ⟨LRd.mono, noR⟩, ⟨LOw.mono, noR⟩, ⟨LEq.rig.mono, fun _ => LEq.rig⟩, ⟨LOw.mono, noR⟩, ⟨LOw.mono, noR⟩, trivial⟩ ⟨?_, ?_, ?_, ?_, ?_, ?_, ?_, ?_, ?_, ?_, ?_, trivial⟩ ?_
      · intro s577 w578 hb579 hx580 hf581 hd582 hu583
        have e584 : Ext w361 w578 := hx580 rfl
        exact L_lit (.plain rfl) rfl (ltb rfl) rfl Tryz.underlying30 Tryz.sizeOf80 Tryz.zeroValue80 rfl rfl rfl (vs := []) rfl (lit_all rfl) <| fun b585 w586 z587 z588 e589 k590 => L_nil <| stepS rfl rfl rfl e589 ⟨_, rfl⟩
      · intro s591 w592 hb593 hx594 hf595 hd596 hu597
        have e598 : Ext w361 w592 := hx594 rfl
        exact L_op (.plain rfl) rfl (ltb rfl) (X_move (v := v_a0) ((hf595 0 rfl).trans ((K365 0 rfl).trans (K14 0 rfl)))) <| L_nil <| stepS rfl rfl rfl (Ext.refl w592) rfl
      · intro s599 w600 hb601 hx602 hf603 hd604 hu605
        have e606 : Ext w361 w600 := hx602 rfl
        exact L_op (.plain rfl) rfl (ltb rfl) (X_move (v := (.int .i64 x5_11)) ((hf603 5 rfl).trans ((K365 5 rfl).trans h198))) <| L_nil <| stepS rfl rfl rfl (Ext.refl w600) rfl
      · intro s607 w608 hb609 hx610 hf611 hd612 hu613
        have e614 : Ext w361 w608 := hx610 rfl
        have d615 : s607 45 = v_a0 := (hd612 1 rfl)
        have d616 : s607 46 = (.int .i64 x5_11) := (hd612 2 rfl)
        have c617 := c550
        exact L_sub (.plain rfl) rfl (ltb rfl) rfl Tryz.underlying30 Tryz.sizeOf80 d615 (Rd.ext f_a0 (Ext.trans (Ext.trans e5 e15) e362)) (l := 0) (h := x5_11) rfl ⟨_, d616⟩ c617 <| fun v618 h619 => L_nil <| stepS rfl rfl rfl (Ext.refl w608) h619
      · intro s620 w621 hb622 hx623 hf624 hd625 hu626
        have e627 : Ext w361 w621 := hx623 rfl
        obtain ⟨b628, h629⟩ := (hd625 0 rfl)
        have d630 : Rd 4 encNd w361 (s620 47) (sub a0 0 x5_11) := (hd625 3 rfl)
        have c631 := c553
        exact L_append (enc := encNd) (.plain rfl) rfl (ltb rfl) rfl El.t30 h629 rfl (Ow.zero (base := w621.heap.size) (w := w621)) (Rd.ext d630 e627) (ones_Nd _) (of_decide_eq_true c631) (Nat.le_refl _) <| fun v632 w633 o634 z635 g636 => L_nil <| stepS rfl rfl rfl (g636 _ (Ext.refl w621)) (Ow.base o634 e627.size)
      · intro s637 w638 hb639 hx640 hf641 hd642 hu643
        have e644 : Ext w361 w638 := hx640 rfl
        exact L_op (.plain rfl) rfl (ltb rfl) (X_loadS Tryz.isAgg80 Tryz.sizeOf80 rfl ((hf641 3 rfl).trans ((K365 3 rfl).trans (K14 3 rfl))) (Blk.at0 (Blk.ext k6 (Ext.trans (Ext.trans e15 e362) e644)))) <| L_nil <| stepS rfl rfl rfl (Ext.refl w638) rfl
      · intro s645 w646 hb647 hx648 hf649 hd650 hu651
        have e652 : Ext w361 w646 := hx648 rfl
        have d653 : s645 49 = (.agg #[(.int .i64 a1.kind), (S a1.path), (S a1.body), (.int .i64 a1.mode)]) := (hd650 5 rfl)
        exact L_lit (.plain rfl) rfl (ltb rfl) rfl Tryz.underlying30 Tryz.sizeOf80 Tryz.zeroValue80 rfl rfl rfl (vs := [(.agg #[(.int .i64 a1.kind), (S a1.path), (S a1.body), (.int .i64 a1.mode)])]) (cons2 d653 rfl) (lit_all rfl) <| fun b654 w655 z656 z657 e658 k659 => L_nil <| stepS rfl rfl rfl e658 (Ow.rd (Ow.new (xs := [a1]) (sz := 4) (enc := encNd) (base := w646.heap.size) k659 (Nat.le_of_eq z656) rfl (fun _ _ => by rfl) (Nat.le_of_ble_eq_true rfl)))
      · intro s660 w661 hb662 hx663 hf664 hd665 hu666
        have e667 : Ext w361 w661 := hx663 rfl
        have d668 : Ow 80 4 encNd w361.heap.size w661 (s660 48) (([] : List Nd) ++ (sub a0 0 x5_11)) := (hd665 4 rfl)
        have d669 : Rd 4 encNd w661 (s660 50) ([a1] : List Nd) := (hd665 6 rfl)
        have c670 := c565
        exact L_append (enc := encNd) (.plain rfl) rfl (ltb rfl) rfl El.t30 rfl rfl d668 d669 (ones_Nd _) (of_decide_eq_true c670) (e667).size <| fun v671 w672 o673 z674 g675 => L_nil <| stepH rfl rfl rfl (g675 _ (Below.refl _ _)) o673
      · intro s676 w677 hb678 hx679 hf680 hd681 hu682
        have e683 : Ext w361 w677 := Below.trans (Ext.refl w361) hb678
        exact L_op (.plain rfl) rfl (ltb rfl) (X_move (v := v201) ((hf680 6 rfl).trans (K365 6 rfl))) <| L_nil <| stepS rfl rfl rfl (Ext.refl w677) rfl
      · intro s684 w685 hb686 hx687 hf688 hd689 hu690
        have e691 : Ext w361 w685 := Below.trans (Ext.refl w361) hb686
        have d692 : Ow 80 4 encNd w361.heap.size w685 (s684 51) (spec_l04Put.e1 a0 a1 x5_11) := (hd689 7 rfl)
        have d693 : s684 52 = v201 := (hd689 8 rfl)
        have c694 := c571
        exact L_append (enc := encNd) (.plain rfl) rfl (ltb rfl) rfl El.t30 rfl d693 d692 (Rd.ext h202 (Ext.trans e362 e691)) (ones_Nd _) (of_decide_eq_true c694) (e691).size <| fun v695 w696 o697 z698 g699 => L_nil <| stepH rfl rfl rfl (g699 _ (Below.refl _ _)) o697
      · intro s700 w701 hb702 hx703 hf704 hd705 hu706
        have e707 : Ext w361 w701 := Below.trans (Ext.refl w361) hb702
        have d708 : Ow 80 4 encNd w361.heap.size w701 (s700 53) ((spec_l04Put.e1 a0 a1 x5_11) ++ (sub a0 x5_11 (a0.length : Int))) := (hd705 9 rfl)
        exact L_op (.plain rfl) rfl (ltb rfl) (X_assign (v := (s700 53)) rfl) <| L_nil <| stepS rfl rfl rfl (Ext.refl w701) d708
      intro s709 w710 hb711 hf713 ha714
      have K715 := Kp.ofD (kp := [(4, 5), (44, 54)]) rfl hf713
      have e712 : Ext w361 w710 := hb711
      have d716 : Ow 80 4 encNd w361.heap.size w710 (s709 4) ((spec_l04Put.e1 a0 a1 x5_11) ++ (sub a0 x5_11 (a0.length : Int))) := ha714 10 rfl rfl
      clear ha714 hf713
      refine thn_n <| W_ret <| fin_r ?_
      obtain rfl := Option.some.inj H
      exact fin1o rfl (Ext.trans (Ext.trans (Ext.trans e5 e15) e362) e712) d716 ((Ext.trans (Ext.trans e5 e15) e362)).size
theorem spec_l04Put.calls {w : World} {a0 : List Nd} {a1 : Nd} {v_a0 : Value} (f_a0 : Rd 4 encNd w v_a0 a0) (h0 : a0.length ≤ 1000000) (h1 : ∀ x ∈ a0, x.path.length ≤ 1048576) (h2 : a1.path.length ≤ 1048576) :
    Calls Tryz.prog 163 #[v_a0, .agg (encNd a1).toArray] w (Rt (RO 80 4 encNd w (putN a0 a1))) := by
  obtain ⟨k, h⟩ := spec_l04Put.eq a0 a1 h0 h1 h2
  exact spec_l04Put.walk f_a0 h
/-! spec.l04Node -/
theorem spec_l04Node.walk {w : World} {a0 : Rec} {r : Nd} (H : spec_l04Node.sh a0 = some r) :
    Calls Tryz.prog 164 #[.agg (encRec a0).toArray] w (Rt (RP w (.agg (encNd r).toArray))) := by
  unfold spec_l04Node.sh at H
  refine calls_of_WG Tryz.func164 rfl (Nat.le_of_ble_eq_true rfl) Tryz.ntmps164 ?_
  refine W_seq <| W_reg <| L_box (.plain rfl) rfl (ltb rfl) rfl rfl <| fun b1 w2 z3 z4 e5 k6 => L_alloc (.plain rfl) rfl (ltb rfl) rfl Tryz.zeroValue80 <| fun b7 w8 z9 z10 e11 k12 => L_nil <| thn_n <| W_seq <| W_reg <| L_op (.plain rfl) rfl (ltb rfl) (X_fieldAddr Tryz.underlying78 rfl Tryz.sizeOf3 rfl rfl) <| L_op (.plain rfl) rfl (ltb rfl) (X_loadB Tryz.isAgg3 (Blk.ext k6 e11) rfl rfl) <| L_op (.plain rfl) rfl (ltb rfl) (X_fieldAddr Tryz.underlying78 rfl Tryz.sizeOf9 rfl rfl) <| L_op (.plain rfl) rfl (ltb rfl) (X_loadB Tryz.isAgg9 (Blk.ext k6 e11) rfl rfl) <| L_op (.plain rfl) rfl (ltb rfl) (X_fieldAddr Tryz.underlying78 rfl Tryz.sizeOf9 rfl rfl) <| L_op (.plain rfl) rfl (ltb rfl) (X_loadB Tryz.isAgg9 (Blk.ext k6 e11) rfl rfl) <| L_op (.plain rfl) rfl (ltb rfl) (X_fieldAddr Tryz.underlying78 rfl Tryz.sizeOf3 rfl rfl) <| L_op (.plain rfl) rfl (ltb rfl) (X_loadB Tryz.isAgg3 (Blk.ext k6 e11) rfl rfl) <| L_op (.plain rfl) rfl (ltb rfl) (X_build1 (vs := [(0, (.int .i64 a0.kind)), (1, (S a0.path)), (2, (S a0.body)), (3, (.int .i64 a0.mode))]) (pl := #[(0, 1), (1, 1), (2, 1), (3, 1)]) Tryz.underlying80 Tryz.zeroValue80 rfl (fun _ => by kernel_rfl) rfl rfl rfl) <| L_storeA (.plain rfl) rfl rfl Tryz.sizeOf80 rfl rfl rfl rfl rfl k12 <| fun w13 h14 k15 => L_nil <| thn_n <| W_ret <| finG_r ?_
  obtain rfl := Option.some.inj H
  exact finC1 rfl rfl k15 Tryz.isAgg80 Tryz.sizeOf80 rfl (Ext.trans e5 (Below.trans e11 (Wr.below h14 (Nat.le_of_eq z9))))
theorem spec_l04Node.calls {w : World} {a0 : Rec} :
    Calls Tryz.prog 164 #[.agg (encRec a0).toArray] w (Rt (RP w (.agg (encNd (ndOf a0)).toArray))) := spec_l04Node.walk (spec_l04Node.eq a0)
/-! spec.l05Do -/
theorem spec_l05Do.walk {w : World} {a0 : List Nd} {a1 : Rec} {v_a0 : Value} (f_a0 : Rd 4 encNd w v_a0 a0) {r : List Nd} (H : spec_l05Do.sh a0 a1 = some r) :
    Calls Tryz.prog 115 #[v_a0, .agg (encRec a1).toArray] w (Rt (RO 80 4 encNd w r)) := by
  unfold spec_l05Do.sh at H
  refine calls_of_W Tryz.func115 rfl (Nat.le_of_ble_eq_true rfl) Tryz.ntmps115 rfl ?_
  refine W_seq <| W_reg <| L_box (.plain rfl) rfl (ltb rfl) rfl rfl <| fun b1 w2 z3 z4 e5 k6 => L_op (.plain rfl) rfl (ltb rfl) (X_assign (v := (.slice none 0 0)) rfl) <| L_nil <| thn_n <| W_seq <| W_reg <| L_op (.plain rfl) rfl (ltb rfl) (X_move (v := v_a0) rfl) <| L_op (.plain rfl) rfl (ltb rfl) (X_fieldAddr Tryz.underlying78 rfl Tryz.sizeOf9 rfl rfl) <| L_op (.plain rfl) rfl (ltb rfl) (X_loadB Tryz.isAgg9 k6 rfl rfl) ?_
  obtain ⟨c7, H⟩ := bif_some H
  refine L_callP (.plain rfl) rfl (ltb rfl) rfl Tryz.call114 (spec_l04At.calls (w := w2) (a0 := a0) (a1 := a1.path) (Rd.ext f_a0 e5) (of_decide_eq_true c7)) rfl <| fun w8 e9 => L_op (.plain rfl) rfl (ltb rfl) (X_assign (v := (.int .i64 (findN a0 a1.path))) rfl) <| L_nil <| thn_n <| W_seq <| W_seq <| W_reg <| L_op (.plain rfl) rfl (ltb rfl) (X_fieldAddr Tryz.underlying78 rfl Tryz.sizeOf3 rfl rfl) <| L_op (.plain rfl) rfl (ltb rfl) (X_loadB Tryz.isAgg3 (Blk.ext k6 e9) rfl rfl) <| L_op (.plain rfl) rfl (ltb rfl) (X_eql rfl rfl) <| L_nil <| thn_n ?_
  rcases bif_two H with ⟨q10, H⟩ | ⟨q10, H⟩
  · refine W_true (congrArg Value.bool q10) <| W_seq <| W_reg <| L_op (.plain rfl) rfl (ltb rfl) (X_move (v := v_a0) rfl) <| L_op (.plain rfl) rfl (ltb rfl) (X_fieldAddr Tryz.underlying78 rfl Tryz.sizeOf9 rfl rfl) <| L_op (.plain rfl) rfl (ltb rfl) (X_loadB Tryz.isAgg9 (Blk.ext k6 e9) rfl rfl) ?_
    obtain ⟨c11, H⟩ := bif_some H
    refine L_callO (.plain rfl) rfl (ltb rfl) rfl Tryz.call162 (spec_l04Without.calls (w := w8) (a0 := a0) (a1 := a1.path) (a2 := true) (Rd.ext f_a0 (Ext.trans e5 e9)) (of_decide_eq_true c11)) rfl <| fun v14 w12 e13 o15 => L_op (.plain rfl) rfl (ltb rfl) (X_assign (v := v14) rfl) <| L_nil <| thn_n <| W_ret <| thn_r <| fin_r ?_
    obtain rfl := Option.some.inj H
    exact fin1o rfl (Ext.trans (Ext.trans e5 e9) e13) o15 ((Ext.trans e5 e9)).size
  · refine W_false (congrArg Value.bool q10) <| W_skip <| thn_n <| W_seq <| W_seq <| W_reg <| L_op (.plain rfl) rfl (ltb rfl) (X_fieldAddr Tryz.underlying78 rfl Tryz.sizeOf3 rfl rfl) <| L_op (.plain rfl) rfl (ltb rfl) (X_loadB Tryz.isAgg3 (Blk.ext k6 e9) rfl rfl) <| L_op (.plain rfl) rfl (ltb rfl) (X_neq rfl rfl) <| L_op (.plain rfl) rfl (ltb rfl) (X_move (v := (.bool (!decide (a1.kind = 3)))) rfl) <| L_grp 3 [(21, 24)] 23 (.bool ((!decide (a1.kind = 3)) || a1.opq)) ?_ ?_
    · rcases bool_two (!decide (a1.kind = 3)) with b15_ | b15_
      · exact L_skip rfl rfl (ltb rfl) (congrArg Value.bool b15_) rfl rfl (ltb rfl) <| L_skip rfl rfl (ltb rfl) (congrArg Value.bool b15_) rfl rfl (ltb rfl) <| L_op (.plain rfl) rfl (ltb rfl) (X_pick (b := true) (v := (.bool true)) (congrArg Value.bool b15_) rfl) <| L_nil <| thn_n ⟨(Kp.upd (Kp.upd (Kp.upd (Kp.refl _ _) rfl) rfl) rfl), (or_t b15_), (Ext.refl w8)⟩
      · exact L_op (.guard 3 false 20 rfl rfl (ltb rfl) (congrArg Value.bool b15_)) rfl (ltb rfl) (X_fieldAddr Tryz.underlying78 rfl Tryz.sizeOf4 rfl rfl) <| L_op (.guard 3 false 20 rfl rfl (ltb rfl) (congrArg Value.bool b15_)) rfl (ltb rfl) (X_loadB Tryz.isAgg4 (Blk.ext k6 e9) rfl rfl) <| L_op (.plain rfl) rfl (ltb rfl) (X_pick (b := false) (v := (.bool a1.opq)) (congrArg Value.bool b15_) rfl) <| L_nil <| thn_n ⟨(Kp.upd (Kp.upd (Kp.upd (Kp.refl _ _) rfl) rfl) rfl), (or_f b15_), (Ext.refl w8)⟩
    intro s21 w17 K18 h19 e20
    refine L_op (.plain rfl) rfl (ltb rfl) (X_move (v := (.bool ((!decide (a1.kind = 3)) || a1.opq))) h19) ?_
    obtain ⟨z23, x24, H⟩ := bind_some H
    refine L_grpE 11 [(25, 36)] 35 (fun q => q = z23) ?_ ?_
    · rcases bif_two x24 with ⟨b21_, H⟩ | ⟨b21_, H⟩
      · refine L_skip rfl rfl (ltb rfl) (congrArg Value.bool b21_) rfl rfl (ltb rfl) <| L_skip rfl rfl (ltb rfl) (congrArg Value.bool b21_) rfl rfl (ltb rfl) <| L_skip rfl rfl (ltb rfl) (congrArg Value.bool b21_) rfl rfl (ltb rfl) <| L_skipU rfl rfl (ltb rfl) rfl rfl (ltb rfl) <| L_skipU rfl rfl (ltb rfl) rfl rfl (ltb rfl) <| L_skipU rfl rfl (ltb rfl) rfl rfl (ltb rfl) <| L_skipU rfl rfl (ltb rfl) rfl rfl (ltb rfl) <| L_skipU rfl rfl (ltb rfl) rfl rfl (ltb rfl) <| L_skipU rfl rfl (ltb rfl) rfl rfl (ltb rfl) <| L_skip rfl rfl (ltb rfl) (congrArg Value.bool b21_) rfl rfl (ltb rfl) <| L_op (.plain rfl) rfl (ltb rfl) (X_pick (b := true) (v := (.bool true)) (congrArg Value.bool b21_) rfl) ?_
        obtain rfl := Option.some.inj H
        exact L_nil <| thn_n ⟨(Kp.upd (Kp.upd (Kp.upd (Kp.upd (Kp.upd (Kp.upd (Kp.upd (Kp.upd (Kp.upd (Kp.upd (Kp.upd (Kp.refl _ _) rfl) rfl) rfl) rfl) rfl) rfl) rfl) rfl) rfl) rfl) rfl), ⟨_, rfl, rfl⟩, (Ext.refl w17)⟩
      · refine L_op (.guard 7 false 24 rfl rfl (ltb rfl) (congrArg Value.bool b21_)) rfl (ltb rfl) (X_move (v := (.int .i64 (findN a0 a1.path))) (K18 5 rfl)) <| L_op (.guard 7 false 24 rfl rfl (ltb rfl) (congrArg Value.bool b21_)) rfl (ltb rfl) (X_geq rfl rfl) <| L_op (.guard 7 false 24 rfl rfl (ltb rfl) (congrArg Value.bool b21_)) rfl (ltb rfl) (X_move (v := (.bool (decide (0 ≤ (findN a0 a1.path))))) rfl) ?_
        obtain ⟨z24, x25, H⟩ := bind_some H
        refine L_grpE 7 [(28, 35)] 34 (fun q => q = z24) ?_ ?_
        · rcases bif_two x25 with ⟨b22_, H⟩ | ⟨b22_, H⟩
          · refine L_op (.guard 10 true 27 rfl rfl (ltb rfl) (congrArg Value.bool b22_)) rfl (ltb rfl) (X_move (v := v_a0) (K18 0 rfl)) <| L_op (.guard 10 true 27 rfl rfl (ltb rfl) (congrArg Value.bool b22_)) rfl (ltb rfl) (X_move (v := (.int .i64 (findN a0 a1.path))) (K18 5 rfl)) ?_
            obtain ⟨c24, H⟩ := bif_some H
            refine L_idx (.guard 10 true 27 rfl rfl (ltb rfl) (congrArg Value.bool b22_)) rfl (ltb rfl) rfl Tryz.underlying30 Tryz.sizeOf80 rfl (Rd.ext f_a0 (Ext.trans (Ext.trans e5 e9) e20)) rfl c24 <| fun p25 h26 => L_op (.guard 10 true 27 rfl rfl (ltb rfl) (congrArg Value.bool b22_)) rfl (ltb rfl) (X_fieldAddr Tryz.underlying80 rfl Tryz.sizeOf3 rfl rfl) <| L_op (.guard 10 true 27 rfl rfl (ltb rfl) (congrArg Value.bool b22_)) rfl (ltb rfl) (X_loadF Tryz.isAgg3 (j := 0) h26 rfl rfl) <| L_op (.guard 10 true 27 rfl rfl (ltb rfl) (congrArg Value.bool b22_)) rfl (ltb rfl) (X_neq rfl rfl) <| L_op (.guard 7 false 24 rfl rfl (ltb rfl) (congrArg Value.bool b21_)) rfl (ltb rfl) (X_pick (b := true) (v := (.bool (!decide (((gt a0 (findN a0 a1.path)).kind) = 3)))) (congrArg Value.bool b22_) rfl) ?_
            obtain rfl := Option.some.inj H
            exact L_nil <| thn_n ⟨(Kp.upd (Kp.upd (Kp.upd (Kp.upd (Kp.upd (Kp.upd (Kp.upd (Kp.refl _ _) rfl) rfl) rfl) rfl) rfl) rfl) rfl), ⟨_, rfl, rfl⟩, (Ext.refl w17)⟩
          · refine L_skip rfl rfl (ltb rfl) (congrArg Value.bool b22_) rfl rfl (ltb rfl) <| L_skip rfl rfl (ltb rfl) (congrArg Value.bool b22_) rfl rfl (ltb rfl) <| L_skip rfl rfl (ltb rfl) (congrArg Value.bool b22_) rfl rfl (ltb rfl) <| L_skip rfl rfl (ltb rfl) (congrArg Value.bool b22_) rfl rfl (ltb rfl) <| L_skip rfl rfl (ltb rfl) (congrArg Value.bool b22_) rfl rfl (ltb rfl) <| L_skip rfl rfl (ltb rfl) (congrArg Value.bool b22_) rfl rfl (ltb rfl) <| L_op (.guard 7 false 24 rfl rfl (ltb rfl) (congrArg Value.bool b21_)) rfl (ltb rfl) (X_pick (b := false) (v := (.bool false)) (congrArg Value.bool b22_) rfl) ?_
            obtain rfl := Option.some.inj H
            exact L_nil <| thn_n ⟨(Kp.upd (Kp.upd (Kp.upd (Kp.upd (Kp.upd (Kp.upd (Kp.upd (Kp.refl _ _) rfl) rfl) rfl) rfl) rfl) rfl) rfl), ⟨_, rfl, rfl⟩, (Ext.refl w17)⟩
        intro s30 w26 z31 K27 hq h28 e29
        rw [hq] at h28; clear hq
        refine L_op (.plain rfl) rfl (ltb rfl) (X_pick (b := false) (v := (.bool z24)) ((K27 24 rfl).trans (congrArg Value.bool b21_)) h28) ?_
        obtain rfl := Option.some.inj H
        exact L_nil <| thn_n ⟨(Kp.upd (Kp.cut (Kp.upd (Kp.upd (Kp.upd (Kp.refl _ _) rfl) rfl) rfl) K27 rfl) rfl), ⟨_, rfl, rfl⟩, e29⟩
    intro s32 w25 z33 K26 hq h27 e28
    rw [hq] at h27; clear hq
    refine L_nil <| thn_n ?_
    rcases bif_two H with ⟨q34, H⟩ | ⟨q34, H⟩
    · refine W_true (h27.trans (congrArg Value.bool q34)) <| W_reg <| L_op (.plain rfl) rfl (ltb rfl) (X_move (v := v_a0) ((K26 0 rfl).trans (K18 0 rfl))) <| L_op (.plain rfl) rfl (ltb rfl) (X_fieldAddr Tryz.underlying78 rfl Tryz.sizeOf9 rfl ((K26 3 rfl).trans (K18 3 rfl))) <| L_op (.plain rfl) rfl (ltb rfl) (X_loadB Tryz.isAgg9 (Blk.ext k6 (Ext.trans (Ext.trans e9 e20) e28)) rfl rfl) ?_
      obtain ⟨c35, H⟩ := bif_some H
      refine L_callO (.plain rfl) rfl (ltb rfl) rfl Tryz.call162 (spec_l04Without.calls (w := w25) (a0 := a0) (a1 := a1.path) (a2 := false) (Rd.ext f_a0 (Ext.trans (Ext.trans (Ext.trans e5 e9) e20) e28)) (of_decide_eq_true c35)) rfl <| fun v38 w36 e37 o39 => L_op (.plain rfl) rfl (ltb rfl) (X_assign (v := v38) rfl) <| L_nil <| thn_n <| W_seq <| W_reg <| L_op (.plain rfl) rfl (ltb rfl) (X_move (v := v38) rfl) <| L_op (.plain rfl) rfl (ltb rfl) (X_loadS Tryz.isAgg78 Tryz.sizeOf78 rfl ((K26 3 rfl).trans (K18 3 rfl)) (Blk.at0 (Blk.ext k6 (Ext.trans (Ext.trans (Ext.trans e9 e20) e28) e37)))) <| L_callP (.plain rfl) rfl (ltb rfl) rfl Tryz.call164 (spec_l04Node.calls (w := w36) (a0 := a1)) rfl <| fun w40 e41 => ?_
      obtain ⟨c42, H⟩ := bif_some H
      obtain ⟨c43, H⟩ := bif_some H
      obtain ⟨c44, H⟩ := bif_some H
      refine L_callO (.plain rfl) rfl (ltb rfl) rfl Tryz.call163 (spec_l04Put.calls (w := w40) (a0 := (without a0 a1.path false)) (a1 := (ndOf a1)) (Ow.rd (Ow.ext o39 e41)) (of_decide_eq_true c42) (of_decide_eq_true c43) (of_decide_eq_true c44)) rfl <| fun v47 w45 e46 o48 => L_op (.plain rfl) rfl (ltb rfl) (X_assign (v := v47) rfl) <| L_nil <| thn_n <| W_ret <| fin_r ?_
      obtain rfl := Option.some.inj H
      exact fin1o rfl (Ext.trans (Ext.trans (Ext.trans (Ext.trans (Ext.trans (Ext.trans e5 e9) e20) e28) e37) e41) e46) o48 ((Ext.trans (Ext.trans (Ext.trans (Ext.trans (Ext.trans e5 e9) e20) e28) e37) e41)).size
    · refine W_false (h27.trans (congrArg Value.bool q34)) <| W_skip <| thn_n <| W_seq <| W_reg <| L_op (.plain rfl) rfl (ltb rfl) (X_move (v := v_a0) ((K26 0 rfl).trans (K18 0 rfl))) <| L_op (.plain rfl) rfl (ltb rfl) (X_loadS Tryz.isAgg78 Tryz.sizeOf78 rfl ((K26 3 rfl).trans (K18 3 rfl)) (Blk.at0 (Blk.ext k6 (Ext.trans (Ext.trans e9 e20) e28)))) <| L_callP (.plain rfl) rfl (ltb rfl) rfl Tryz.call164 (spec_l04Node.calls (w := w25) (a0 := a1)) rfl <| fun w49 e50 => ?_
      obtain ⟨c51, H⟩ := bif_some H
      obtain ⟨c52, H⟩ := bif_some H
      obtain ⟨c53, H⟩ := bif_some H
      refine L_callO (.plain rfl) rfl (ltb rfl) rfl Tryz.call163 (spec_l04Put.calls (w := w49) (a0 := a0) (a1 := (ndOf a1)) (Rd.ext f_a0 (Ext.trans (Ext.trans (Ext.trans (Ext.trans e5 e9) e20) e28) e50)) (of_decide_eq_true c51) (of_decide_eq_true c52) (of_decide_eq_true c53)) rfl <| fun v56 w54 e55 o57 => L_op (.plain rfl) rfl (ltb rfl) (X_assign (v := v56) rfl) <| L_nil <| thn_n <| W_ret <| fin_r ?_
      obtain rfl := Option.some.inj H
      exact fin1o rfl (Ext.trans (Ext.trans (Ext.trans (Ext.trans (Ext.trans e5 e9) e20) e28) e50) e55) o57 ((Ext.trans (Ext.trans (Ext.trans (Ext.trans e5 e9) e20) e28) e50)).size
theorem spec_l05Do.calls {w : World} {a0 : List Nd} {a1 : Rec} {v_a0 : Value} (f_a0 : Rd 4 encNd w v_a0 a0) (h0 : a0.length ≤ 1000000) (h1 : ∀ x ∈ a0, x.path.length ≤ 1048576) (h2 : a1.path.length ≤ 1048576) :
    Calls Tryz.prog 115 #[v_a0, .agg (encRec a1).toArray] w (Rt (RO 80 4 encNd w (doS a0 a1))) := spec_l05Do.walk f_a0 (spec_l05Do.eq a0 a1 h0 h1 h2)
/-! spec.l05Apply -/
theorem spec_l05Apply.walk {k : Nat} {w : World} {a0 : List Rec} {a1 : List Nd} {v_a0 : Value} (f_a0 : Rd 5 encRec w v_a0 a0) {v_a1 : Value} (f_a1 : Rd 4 encNd w v_a1 a1) {r : List Nd} (H : spec_l05Apply.sh k a0 a1 = some r) :
    Calls Tryz.prog 65 #[v_a0, v_a1] w (Rt (RO 80 4 encNd w r)) := by
  unfold spec_l05Apply.sh at H
  refine calls_of_W Tryz.func65 rfl (Nat.le_of_ble_eq_true rfl) Tryz.ntmps65 rfl ?_
  refine W_seq <| W_reg <| L_op (.plain rfl) rfl (ltb rfl) (X_assign (v := (.slice none 0 0)) rfl) <| L_nil <| thn_n <| W_seq <| W_reg <| L_lit (.plain rfl) rfl (ltb rfl) rfl Tryz.underlying30 Tryz.sizeOf80 Tryz.zeroValue80 rfl rfl rfl (vs := []) rfl (lit_all rfl) <| fun b1 w2 z3 z4 e5 k6 => L_op (.plain rfl) rfl (ltb rfl) (X_move (v := v_a1) rfl) ?_
  obtain ⟨c7, H⟩ := bif_some H
  refine L_append (enc := encNd) (.plain rfl) rfl (ltb rfl) rfl El.t30 rfl rfl (Ow.zero (base := w2.heap.size) (w := w2)) (Rd.ext f_a1 e5) (ones_Nd _) (of_decide_eq_true c7) (Nat.le_refl _) <| fun v8 w9 o10 z11 g12 => L_op (.plain rfl) rfl (ltb rfl) (X_assign (v := v8) rfl) <| L_nil <| thn_n <| W_seq <| W_seq <| W_reg <| L_op (.plain rfl) rfl (ltb rfl) (X_assign (v := (.int .i64 0)) rfl) <| L_nil <| thn_n ?_
  obtain ⟨z16, L17, C18⟩ := bind_some H
  clear H
  refine  W_cutQ (fun s0 sQ wQ => ∃ (x1_19 : List Nd) (v20 : Value), Kp [(1, 2), (5, 6), (9, 21)] s0 sQ ∧ sQ 1 = v20 ∧ Ow 80 4 encNd w2.heap.size wQ v20 x1_19 ∧ Ext w9 wQ ∧ z16 = .inr x1_19) ?_ ?_
  · refine W_block <| W_loopI (fun s0 kk sQ wQ => ∃ (x1_13 : List Nd) (v14 : Value) (x5_15 : Int), Kp [(1, 2), (5, 6), (9, 21)] s0 sQ ∧ sQ 1 = v14 ∧ Ow 80 4 encNd w2.heap.size wQ v14 x1_13 ∧ sQ 5 = .int .i64 x5_15 ∧ Ext w9 wQ ∧ loopF (spec_l05Apply.b1 a0) kk (x1_13, x5_15) = some z16) k ⟨([] : List Nd) ++ a1, v8, 0, (Kp.refl _ _), rfl, o10, rfl, (Ext.refl w9), L17⟩ ?_
    rintro k25 s26 w27 ⟨x1_13, v14, x5_15, K28, h31, h32, h33, e29, L30⟩
    cases k25 with
    | zero => exact absurd L30 (by simp [loopF])
    | succ k25 =>
      obtain ⟨t34, H, S35⟩ := loopF_succ L30
      clear L30
      unfold spec_l05Apply.b1 at H
      refine W_seq <| W_seq <| W_reg <| L_op (.plain rfl) rfl (ltb rfl) (X_move (v := (.int .i64 x5_15)) h33) <| L_op (.plain rfl) rfl (ltb rfl) (X_move (v := v_a0) (K28 0 rfl)) <| L_op (.plain rfl) rfl (ltb rfl) (X_lenR Tryz.underlying28 rfl (Rd.ext f_a0 (Ext.trans (Ext.trans e5 (g12 _ (Ext.refl w2))) e29))) <| L_op (.plain rfl) rfl (ltb rfl) (X_lss rfl rfl) <| L_nil <| thn_n ?_
      rcases bif_two H with ⟨q36, H⟩ | ⟨q36, H⟩
      · refine W_true (congrArg Value.bool q36) <| W_skip <| thn_n <| W_seq <| W_block <| W_reg <| L_op (.plain rfl) rfl (ltb rfl) (X_move (v := v14) h31) <| L_op (.plain rfl) rfl (ltb rfl) (X_move (v := v_a0) (K28 0 rfl)) <| L_op (.plain rfl) rfl (ltb rfl) (X_move (v := (.int .i64 x5_15)) h33) ?_
        obtain ⟨c37, H⟩ := bif_some H
        refine L_idx (.plain rfl) rfl (ltb rfl) rfl Tryz.underlying28 Tryz.sizeOf78 rfl (Rd.ext f_a0 (Ext.trans (Ext.trans e5 (g12 _ (Ext.refl w2))) e29)) rfl c37 <| fun p38 h39 => L_op (.plain rfl) rfl (ltb rfl) (X_loadS Tryz.isAgg78 Tryz.sizeOf78 rfl rfl h39) ?_
        obtain ⟨c40, H⟩ := bif_some H
        obtain ⟨c41, H⟩ := bif_some H
        obtain ⟨c42, H⟩ := bif_some H
        refine L_callO (.plain rfl) rfl (ltb rfl) rfl Tryz.call115 (spec_l05Do.calls (w := w27) (a0 := x1_13) (a1 := gt a0 x5_15) (Ow.rd h32) (of_decide_eq_true c40) (of_decide_eq_true c41) (of_decide_eq_true c42)) rfl <| fun v45 w43 e44 o46 => L_op (.plain rfl) rfl (ltb rfl) (X_assign (v := v45) rfl) <| L_nil <| blk_n <| thn_n <| W_reg <| L_op (.plain rfl) rfl (ltb rfl) (X_move (v := (.int .i64 x5_15)) h33) <| L_op (.plain rfl) rfl (ltb rfl) (X_add rfl rfl) <| L_op (.plain rfl) rfl (ltb rfl) (X_assign (v := (.int .i64 (IntKind.wrap .i64 (x5_15 + 1)))) rfl) <| L_nil <| thn_n ?_
        obtain rfl := Option.some.inj H
        exact ⟨_, Nat.lt_succ_self _, (doS x1_13 (gt a0 x5_15)), v45, IntKind.wrap .i64 (x5_15 + 1), (Kp.upd (Kp.upd (Kp.upd (Kp.upd (Kp.upd (Kp.upd (Kp.upd (Kp.upd (Kp.upd (Kp.upd (Kp.upd (Kp.upd (Kp.upd (Kp.upd K28 rfl) rfl) rfl) rfl) rfl) rfl) rfl) rfl) rfl) rfl) rfl) rfl) rfl) rfl), rfl, (Ow.base o46 (Ext.trans (g12 _ (Ext.refl w2)) e29).size), rfl, (Ext.trans e29 e44), S35⟩
      · refine W_false (congrArg Value.bool q36) <| W_exit <| thn_x <| thn_x <| blk_x <| thn_n ?_
        obtain rfl := Option.some.inj H
        obtain rfl := Option.some.inj S35
        exact ⟨x1_13, v14, (Kp.upd (Kp.upd (Kp.upd (Kp.upd K28 rfl) rfl) rfl) rfl), h31, h32, e29, rfl⟩
  · rintro s22 w21 ⟨x1_19, v20, K23, h47, h48, e24, y49⟩
    rw [y49] at C18
    have H := C18
    replace H : _ = some _ := H
    refine thn_n <| W_seq <| W_reg <| L_op (.plain rfl) rfl (ltb rfl) (X_move (v := v20) h47) <| L_op (.plain rfl) rfl (ltb rfl) (X_assign (v := v20) rfl) <| L_nil <| thn_n <| W_ret <| fin_r ?_
    obtain rfl := Option.some.inj H
    exact fin1o rfl (Ext.trans (Ext.trans e5 (g12 _ (Ext.refl w2))) e24) h48 (e5).size
theorem spec_l05Apply.calls {w : World} {a0 : List Rec} {a1 : List Nd} {v_a0 : Value} (f_a0 : Rd 5 encRec w v_a0 a0) {v_a1 : Value} (f_a1 : Rd 4 encNd w v_a1 a1) (h0 : a0.length ≤ 16) (h1 : a1.length ≤ 1000) (h2 : okT a0 a1 = true) :
    Calls Tryz.prog 65 #[v_a0, v_a1] w (Rt (RO 80 4 encNd w (applyL a0 a1))) := by
  obtain ⟨k, h⟩ := spec_l05Apply.eq a0 a1 h0 h1 h2
  exact spec_l05Apply.walk f_a0 f_a1 h
/-! (impl.Record).node -/
theorem impl_Record_node.walk {w : World} {a0 : Rec} {r : Nd} (H : impl_Record_node.sh a0 = some r) :
    Calls Tryz.prog 125 #[.agg (encRec a0).toArray] w (Rt (RP w (.agg (encNd r).toArray))) := by
  unfold impl_Record_node.sh at H
  refine calls_of_WG Tryz.func125 rfl (Nat.le_of_ble_eq_true rfl) Tryz.ntmps125 ?_
  refine W_seq <| W_reg <| L_box (.plain rfl) rfl (ltb rfl) rfl rfl <| fun b1 w2 z3 z4 e5 k6 => L_alloc (.plain rfl) rfl (ltb rfl) rfl Tryz.zeroValue80 <| fun b7 w8 z9 z10 e11 k12 => L_nil <| thn_n <| W_seq <| W_reg <| L_op (.plain rfl) rfl (ltb rfl) (X_fieldAddr Tryz.underlying78 rfl Tryz.sizeOf3 rfl rfl) <| L_op (.plain rfl) rfl (ltb rfl) (X_loadB Tryz.isAgg3 (Blk.ext k6 e11) rfl rfl) <| L_op (.plain rfl) rfl (ltb rfl) (X_fieldAddr Tryz.underlying78 rfl Tryz.sizeOf9 rfl rfl) <| L_op (.plain rfl) rfl (ltb rfl) (X_loadB Tryz.isAgg9 (Blk.ext k6 e11) rfl rfl) <| L_op (.plain rfl) rfl (ltb rfl) (X_fieldAddr Tryz.underlying78 rfl Tryz.sizeOf9 rfl rfl) <| L_op (.plain rfl) rfl (ltb rfl) (X_loadB Tryz.isAgg9 (Blk.ext k6 e11) rfl rfl) <| L_op (.plain rfl) rfl (ltb rfl) (X_fieldAddr Tryz.underlying78 rfl Tryz.sizeOf3 rfl rfl) <| L_op (.plain rfl) rfl (ltb rfl) (X_loadB Tryz.isAgg3 (Blk.ext k6 e11) rfl rfl) <| L_op (.plain rfl) rfl (ltb rfl) (X_build1 (vs := [(0, (.int .i64 a0.kind)), (1, (S a0.path)), (2, (S a0.body)), (3, (.int .i64 a0.mode))]) (pl := #[(0, 1), (1, 1), (2, 1), (3, 1)]) Tryz.underlying80 Tryz.zeroValue80 rfl (fun _ => by kernel_rfl) rfl rfl rfl) <| L_storeA (.plain rfl) rfl rfl Tryz.sizeOf80 rfl rfl rfl rfl rfl k12 <| fun w13 h14 k15 => L_nil <| thn_n <| W_ret <| finG_r ?_
  obtain rfl := Option.some.inj H
  exact finC1 rfl rfl k15 Tryz.isAgg80 Tryz.sizeOf80 rfl (Ext.trans e5 (Below.trans e11 (Wr.below h14 (Nat.le_of_eq z9))))
theorem impl_Record_node.calls {w : World} {a0 : Rec} :
    Calls Tryz.prog 125 #[.agg (encRec a0).toArray] w (Rt (RP w (.agg (encNd (ndOf a0)).toArray))) := impl_Record_node.walk (impl_Record_node.eq a0)
/-! impl.apply -/
theorem impl_apply.walk {k : Nat} {w : World} {a0 : List Rec} {a1 : List Nd} (gv : GV 0 w) {v_a0 : Value} (f_a0 : Rd 5 encRec w v_a0 a0) {v_a1 : Value} (f_a1 : Rd 4 encNd w v_a1 a1) {r : List Nd} (H : impl_apply.sh k a0 a1 = some r) :
    Calls Tryz.prog 74 #[v_a0, v_a1] w (Rt (RO 80 4 encNd w r)) := by
  unfold impl_apply.sh at H
  refine calls_of_W Tryz.func74 rfl (Nat.le_of_ble_eq_true rfl) Tryz.ntmps74 rfl ?_
  refine W_seq <| W_reg <| L_op (.plain rfl) rfl (ltb rfl) (X_assign (v := (.slice none 0 0)) rfl) <| L_nil <| thn_n <| W_seq <| W_reg <| L_op (.plain rfl) rfl (ltb rfl) (X_move (v := v_a1) rfl) ?_
  obtain ⟨c1, H⟩ := bif_some H
  refine L_callO (.plain rfl) rfl (ltb rfl) rfl Tryz.call121 (slices_CloneN.calls (w := w) (a0 := a1) f_a1 (of_decide_eq_true c1)) rfl <| fun v4 w2 e3 o5 => L_op (.plain rfl) rfl (ltb rfl) (X_assign (v := v4) rfl) <| L_nil <| thn_n <| W_seq <| W_seq <| W_reg <| L_op (.plain rfl) rfl (ltb rfl) (X_move (v := v_a0) rfl) <| L_op (.plain rfl) rfl (ltb rfl) (X_lenR Tryz.underlying28 rfl (Rd.ext f_a0 e3)) <| L_op (.plain rfl) rfl (ltb rfl) (X_move (v := (.int .i64 0)) rfl) <| L_nil <| thn_n ?_
  obtain ⟨z9, L10, C11⟩ := bind_some H
  clear H
  refine  W_cutQ (fun s0 sQ wQ => ∃ (x5_12 : List Nd) (v13 : Value), Kp [(5, 6), (7, 9), (13, 59)] s0 sQ ∧ sQ 5 = v13 ∧ Ow 80 4 encNd w.heap.size wQ v13 x5_12 ∧ Ext w wQ ∧ z9 = .inr x5_12) ?_ ?_
  · refine W_block <| W_loopI (fun s0 kk sQ wQ => ∃ (x5_6 : List Nd) (v7 : Value) (x13_8 : Int), Kp [(5, 6), (7, 9), (13, 59)] s0 sQ ∧ sQ 5 = v7 ∧ Ow 80 4 encNd w.heap.size wQ v7 x5_6 ∧ sQ 13 = .int .i64 x13_8 ∧ Ext w wQ ∧ loopF (impl_apply.b1 a0) kk (x5_6, x13_8) = some z9) k ⟨a1, v4, 0, (Kp.refl _ _), rfl, o5, rfl, e3, L10⟩ ?_
    rintro k18 s19 w20 ⟨x5_6, v7, x13_8, K21, h24, h25, h26, e22, L23⟩
    cases k18 with
    | zero => exact absurd L23 (by simp [loopF])
    | succ k18 =>
      obtain ⟨t27, H, S28⟩ := loopF_succ L23
      clear L23
      unfold impl_apply.b1 at H
      refine W_seq <| W_reg <| L_op (.plain rfl) rfl (ltb rfl) (X_lss h26 (K21 12 rfl)) <| L_nil <| thn_n <| W_seq ?_
      rcases bif_two H with ⟨q29, H⟩ | ⟨q29, H⟩
      · refine W_true (congrArg Value.bool q29) <| W_skip <| thn_n <| W_seq <| W_block <| W_seq <| W_reg ?_
        obtain ⟨c30, H⟩ := bif_some H
        refine L_idx (.plain rfl) rfl (ltb rfl) rfl Tryz.underlying28 Tryz.sizeOf78 (K21 11 rfl) (Rd.ext f_a0 e22) h26 c30 <| fun p31 h32 => L_op (.plain rfl) rfl (ltb rfl) (X_loadS Tryz.isAgg78 Tryz.sizeOf78 rfl rfl h32) <| L_alloc (.plain rfl) rfl (ltb rfl) rfl Tryz.zeroValue78 <| fun b33 w34 z35 z36 e37 k38 => L_storeA (.plain rfl) rfl rfl Tryz.sizeOf78 rfl rfl rfl rfl rfl k38 <| fun w39 h40 k41 => L_nil <| thn_n <| W_seq <| W_reg <| L_op (.plain rfl) rfl (ltb rfl) (X_move (v := v7) h24) <| L_op (.plain rfl) rfl (ltb rfl) (X_fieldAddr Tryz.underlying78 rfl Tryz.sizeOf9 rfl rfl) <| L_op (.plain rfl) rfl (ltb rfl) (X_loadB Tryz.isAgg9 k41 rfl rfl) ?_
        obtain ⟨c42, H⟩ := bif_some H
        refine L_callP (.plain rfl) rfl (ltb rfl) rfl Tryz.call122 (impl_at.calls (w := w39) (a0 := x5_6) (a1 := (gt a0 x13_8).path) (Ow.rd (Ow.ext h25 (Below.trans e37 (Wr.below h40 (Nat.le_of_eq z35))))) (of_decide_eq_true c42)) rfl <| fun w43 e44 => L_op (.plain rfl) rfl (ltb rfl) (X_assign (v := (.int .i64 (findN x5_6 ((gt a0 x13_8).path)))) rfl) <| L_nil <| thn_n <| W_seq <| W_seq <| W_reg <| L_op (.plain rfl) rfl (ltb rfl) (X_fieldAddr Tryz.underlying78 rfl Tryz.sizeOf3 rfl rfl) <| L_op (.plain rfl) rfl (ltb rfl) (X_loadB Tryz.isAgg3 (Blk.ext k41 e44) rfl rfl) <| L_op (.plain rfl) rfl (ltb rfl) (X_eql rfl rfl) <| L_op (.plain rfl) rfl (ltb rfl) (X_move (v := (.bool (decide (((gt a0 x13_8).kind) = 3)))) rfl) <| L_grp 4 [(25, 29)] 28 (.bool ((decide (((gt a0 x13_8).kind) = 3)) && (!((gt a0 x13_8).opq)))) ?_ ?_
        · rcases bool_two (decide (((gt a0 x13_8).kind) = 3)) with b44_ | b44_
          · exact L_op (.guard 3 true 24 rfl rfl (ltb rfl) (congrArg Value.bool b44_)) rfl (ltb rfl) (X_fieldAddr Tryz.underlying78 rfl Tryz.sizeOf4 rfl rfl) <| L_op (.guard 3 true 24 rfl rfl (ltb rfl) (congrArg Value.bool b44_)) rfl (ltb rfl) (X_loadB Tryz.isAgg4 (Blk.ext k41 e44) rfl rfl) <| L_op (.guard 3 true 24 rfl rfl (ltb rfl) (congrArg Value.bool b44_)) rfl (ltb rfl) (X_not rfl) <| L_op (.plain rfl) rfl (ltb rfl) (X_pick (b := true) (v := (.bool (!((gt a0 x13_8).opq)))) (congrArg Value.bool b44_) rfl) <| L_nil <| thn_n ⟨(Kp.upd (Kp.upd (Kp.upd (Kp.upd (Kp.refl _ _) rfl) rfl) rfl) rfl), (and_t b44_), (Ext.refl w43)⟩
          · exact L_skip rfl rfl (ltb rfl) (congrArg Value.bool b44_) rfl rfl (ltb rfl) <| L_skip rfl rfl (ltb rfl) (congrArg Value.bool b44_) rfl rfl (ltb rfl) <| L_skip rfl rfl (ltb rfl) (congrArg Value.bool b44_) rfl rfl (ltb rfl) <| L_op (.plain rfl) rfl (ltb rfl) (X_pick (b := false) (v := (.bool false)) (congrArg Value.bool b44_) rfl) <| L_nil <| thn_n ⟨(Kp.upd (Kp.upd (Kp.upd (Kp.upd (Kp.refl _ _) rfl) rfl) rfl) rfl), (and_f b44_), (Ext.refl w43)⟩
        intro s50 w46 K47 h48 e49
        refine L_op (.plain rfl) rfl (ltb rfl) (X_move h48) <| L_grp 3 [(30, 33)] 32 (.bool (((decide (((gt a0 x13_8).kind) = 3)) && (!((gt a0 x13_8).opq))) && (decide (0 ≤ (findN x5_6 ((gt a0 x13_8).path)))))) ?_ ?_
        · rcases bool_two ((decide (((gt a0 x13_8).kind) = 3)) && (!((gt a0 x13_8).opq))) with b50_ | b50_
          · exact L_op (.guard 8 true 29 rfl rfl (ltb rfl) (congrArg Value.bool b50_)) rfl (ltb rfl) (X_move (v := (.int .i64 (findN x5_6 ((gt a0 x13_8).path)))) (K47 8 rfl)) <| L_op (.guard 8 true 29 rfl rfl (ltb rfl) (congrArg Value.bool b50_)) rfl (ltb rfl) (X_geq rfl rfl) <| L_op (.plain rfl) rfl (ltb rfl) (X_pick (b := true) (v := (.bool (decide (0 ≤ (findN x5_6 ((gt a0 x13_8).path)))))) (congrArg Value.bool b50_) rfl) <| L_nil <| thn_n ⟨(Kp.upd (Kp.upd (Kp.upd (Kp.refl _ _) rfl) rfl) rfl), (and_t b50_), (Ext.refl w46)⟩
          · exact L_skip rfl rfl (ltb rfl) (congrArg Value.bool b50_) rfl rfl (ltb rfl) <| L_skip rfl rfl (ltb rfl) (congrArg Value.bool b50_) rfl rfl (ltb rfl) <| L_op (.plain rfl) rfl (ltb rfl) (X_pick (b := false) (v := (.bool false)) (congrArg Value.bool b50_) rfl) <| L_nil <| thn_n ⟨(Kp.upd (Kp.upd (Kp.upd (Kp.refl _ _) rfl) rfl) rfl), (and_f b50_), (Ext.refl w46)⟩
        intro s56 w52 K53 h54 e55
        refine L_op (.plain rfl) rfl (ltb rfl) (X_move h54) ?_
        obtain ⟨z58, x59, H⟩ := bind_some H
        refine L_grpE 7 [(34, 41)] 40 (fun q => q = z58) ?_ ?_
        · rcases bif_two x59 with ⟨b56_, H⟩ | ⟨b56_, H⟩
          · refine L_op (.guard 12 true 33 rfl rfl (ltb rfl) (congrArg Value.bool b56_)) rfl (ltb rfl) (X_move (v := v7) ((K53 5 rfl).trans ((K47 5 rfl).trans h24))) <| L_op (.guard 12 true 33 rfl rfl (ltb rfl) (congrArg Value.bool b56_)) rfl (ltb rfl) (X_move (v := (.int .i64 (findN x5_6 ((gt a0 x13_8).path)))) ((K53 8 rfl).trans (K47 8 rfl))) ?_
            obtain ⟨c58, H⟩ := bif_some H
            refine L_idx (.guard 12 true 33 rfl rfl (ltb rfl) (congrArg Value.bool b56_)) rfl (ltb rfl) rfl Tryz.underlying30 Tryz.sizeOf80 rfl (Ow.rd (Ow.ext h25 (Ext.trans (Ext.trans (Ext.trans (Below.trans e37 (Wr.below h40 (Nat.le_of_eq z35))) e44) e49) e55))) rfl c58 <| fun p59 h60 => L_op (.guard 12 true 33 rfl rfl (ltb rfl) (congrArg Value.bool b56_)) rfl (ltb rfl) (X_fieldAddr Tryz.underlying80 rfl Tryz.sizeOf3 rfl rfl) <| L_op (.guard 12 true 33 rfl rfl (ltb rfl) (congrArg Value.bool b56_)) rfl (ltb rfl) (X_loadF Tryz.isAgg3 (j := 0) h60 rfl rfl) <| L_op (.guard 12 true 33 rfl rfl (ltb rfl) (congrArg Value.bool b56_)) rfl (ltb rfl) (X_eql rfl rfl) <| L_op (.plain rfl) rfl (ltb rfl) (X_pick (b := true) (v := (.bool (decide (((gt x5_6 (findN x5_6 ((gt a0 x13_8).path))).kind) = 3)))) (congrArg Value.bool b56_) rfl) ?_
            obtain rfl := Option.some.inj H
            exact L_nil <| thn_n ⟨(Kp.upd (Kp.upd (Kp.upd (Kp.upd (Kp.upd (Kp.upd (Kp.upd (Kp.refl _ _) rfl) rfl) rfl) rfl) rfl) rfl) rfl), ⟨_, rfl, rfl⟩, (Ext.refl w52)⟩
          · refine L_skip rfl rfl (ltb rfl) (congrArg Value.bool b56_) rfl rfl (ltb rfl) <| L_skip rfl rfl (ltb rfl) (congrArg Value.bool b56_) rfl rfl (ltb rfl) <| L_skip rfl rfl (ltb rfl) (congrArg Value.bool b56_) rfl rfl (ltb rfl) <| L_skip rfl rfl (ltb rfl) (congrArg Value.bool b56_) rfl rfl (ltb rfl) <| L_skip rfl rfl (ltb rfl) (congrArg Value.bool b56_) rfl rfl (ltb rfl) <| L_skip rfl rfl (ltb rfl) (congrArg Value.bool b56_) rfl rfl (ltb rfl) <| L_op (.plain rfl) rfl (ltb rfl) (X_pick (b := false) (v := (.bool false)) (congrArg Value.bool b56_) rfl) ?_
            obtain rfl := Option.some.inj H
            exact L_nil <| thn_n ⟨(Kp.upd (Kp.upd (Kp.upd (Kp.upd (Kp.upd (Kp.upd (Kp.upd (Kp.refl _ _) rfl) rfl) rfl) rfl) rfl) rfl) rfl), ⟨_, rfl, rfl⟩, (Ext.refl w52)⟩
        intro s64 w60 z65 K61 hq h62 e63
        rw [hq] at h62; clear hq
        refine L_nil <| thn_n ?_
        rcases bif_two H with ⟨q66, H⟩ | ⟨q66, H⟩
        · refine W_true (h62.trans (congrArg Value.bool q66)) <| W_seq <| W_reg <| L_op (.plain rfl) rfl (ltb rfl) (X_move (v := v7) ((K61 5 rfl).trans ((K53 5 rfl).trans ((K47 5 rfl).trans h24)))) <| L_op (.plain rfl) rfl (ltb rfl) (X_move (v := (.int .i64 (findN x5_6 ((gt a0 x13_8).path)))) ((K61 8 rfl).trans ((K53 8 rfl).trans (K47 8 rfl)))) <| L_op (.plain rfl) rfl (ltb rfl) (X_fieldAddr Tryz.underlying78 rfl Tryz.sizeOf3 rfl ((K61 7 rfl).trans ((K53 7 rfl).trans (K47 7 rfl)))) <| L_op (.plain rfl) rfl (ltb rfl) (X_loadB Tryz.isAgg3 (Blk.ext k41 (Ext.trans (Ext.trans (Ext.trans e44 e49) e55) e63)) rfl rfl) ?_
          obtain ⟨c69, H⟩ := bif_some H
          refine L_idxO (.plain rfl) rfl (ltb rfl) rfl Tryz.underlying30 Tryz.sizeOf80 rfl (Ow.ext h25 (Ext.trans (Ext.trans (Ext.trans (Ext.trans (Below.trans e37 (Wr.below h40 (Nat.le_of_eq z35))) e44) e49) e55) e63)) rfl c69 <| fun p67 h68 => L_op (.plain rfl) rfl (ltb rfl) (X_fieldAddr Tryz.underlying80 rfl Tryz.sizeOf3 rfl rfl) <| L_storeO (a := (⟨(gt x5_6 (findN x5_6 ((gt a0 x13_8).path))).kind, (gt x5_6 (findN x5_6 ((gt a0 x13_8).path))).path, (gt x5_6 (findN x5_6 ((gt a0 x13_8).path))).body, (gt a0 x13_8).mode⟩ : Nd)) (vs := [(.int .i64 ((gt a0 x13_8).mode))]) (off := 3) (.plain rfl) rfl rfl Tryz.sizeOf3 rfl h68 rfl rfl rfl rfl rfl rfl <| fun b70 w71 h72 h73 h74 o75 => L_nil <| thn_n <| W_exit <| thn_x <| blk_x <| thn_n <| W_reg <| L_op (.plain rfl) rfl (ltb rfl) (X_add ((K61 13 rfl).trans ((K53 13 rfl).trans ((K47 13 rfl).trans h26))) rfl) <| L_op (.plain rfl) rfl (ltb rfl) (X_move (v := (.int .i64 (IntKind.wrap .i64 (x13_8 + 1)))) rfl) <| L_nil <| thn_n ?_
          obtain rfl := Option.some.inj H
          exact ⟨_, Nat.lt_succ_self _, setI x5_6 (findN x5_6 ((gt a0 x13_8).path)) (⟨(gt x5_6 (findN x5_6 ((gt a0 x13_8).path))).kind, (gt x5_6 (findN x5_6 ((gt a0 x13_8).path))).path, (gt x5_6 (findN x5_6 ((gt a0 x13_8).path))).body, (gt a0 x13_8).mode⟩ : Nd), v7, IntKind.wrap .i64 (x13_8 + 1), (Kp.upd (Kp.upd (Kp.upd (Kp.upd (Kp.upd (Kp.upd (Kp.upd (Kp.upd (Kp.cut (Kp.upd (Kp.cut (Kp.upd (Kp.cut (Kp.upd (Kp.upd (Kp.upd (Kp.upd (Kp.upd (Kp.upd (Kp.upd (Kp.upd (Kp.upd (Kp.upd (Kp.upd (Kp.upd (Kp.upd K21 rfl) rfl) rfl) rfl) rfl) rfl) rfl) rfl) rfl) rfl) rfl) rfl) rfl) K47 rfl) rfl) K53 rfl) rfl) K61 rfl) rfl) rfl) rfl) rfl) rfl) rfl) rfl) rfl), ((K61 5 rfl).trans ((K53 5 rfl).trans ((K47 5 rfl).trans h24))), o75, rfl, (Ext.wr (Ext.trans (Ext.trans (Ext.trans (Ext.trans (Ext.trans e22 (Below.trans e37 (Wr.below h40 (Nat.le_of_eq z35)))) e44) e49) e55) e63) h74 h73 (Nat.le_refl _)), S28⟩
        · refine W_false (h62.trans (congrArg Value.bool q66)) <| W_skip <| thn_n <| W_seq <| W_reg <| L_op (.plain rfl) rfl (ltb rfl) (X_move (v := v7) ((K61 5 rfl).trans ((K53 5 rfl).trans ((K47 5 rfl).trans h24)))) <| L_op (.plain rfl) rfl (ltb rfl) (X_fieldAddr Tryz.underlying78 rfl Tryz.sizeOf9 rfl ((K61 7 rfl).trans ((K53 7 rfl).trans (K47 7 rfl)))) <| L_op (.plain rfl) rfl (ltb rfl) (X_loadB Tryz.isAgg9 (Blk.ext k41 (Ext.trans (Ext.trans (Ext.trans e44 e49) e55) e63)) rfl rfl) ?_
          obtain ⟨c76, H⟩ := bif_some H
          obtain ⟨c77, H⟩ := bif_some H
          refine L_callO (.plain rfl) rfl (ltb rfl) rfl Tryz.call123 (impl_removed.calls (w := w60) (a0 := x5_6) (a1 := (gt a0 x13_8).path) (Ow.rd (Ow.ext h25 (Ext.trans (Ext.trans (Ext.trans (Ext.trans (Below.trans e37 (Wr.below h40 (Nat.le_of_eq z35))) e44) e49) e55) e63))) (of_decide_eq_true c76) (of_decide_eq_true c77)) rfl <| fun v80 w78 e79 o81 => L_op (.plain rfl) rfl (ltb rfl) (X_assign (v := v80) rfl) <| L_nil <| thn_n <| W_seq <| W_reg <| L_op (.plain rfl) rfl (ltb rfl) (X_fieldAddr Tryz.underlying78 rfl Tryz.sizeOf3 rfl ((K61 7 rfl).trans ((K53 7 rfl).trans (K47 7 rfl)))) <| L_op (.plain rfl) rfl (ltb rfl) (X_loadB Tryz.isAgg3 (Blk.ext k41 (Ext.trans (Ext.trans (Ext.trans (Ext.trans e44 e49) e55) e63) e79)) rfl rfl) <| L_op (.plain rfl) rfl (ltb rfl) (X_neq rfl rfl) <| L_nil <| thn_n ?_
          rcases bif_two H with ⟨q82, H⟩ | ⟨q82, H⟩
          · refine W_true (congrArg Value.bool q82) <| W_reg <| L_op (.plain rfl) rfl (ltb rfl) (X_move (v := v80) rfl) <| L_op (.plain rfl) rfl (ltb rfl) (X_loadS Tryz.isAgg78 Tryz.sizeOf78 rfl ((K61 7 rfl).trans ((K53 7 rfl).trans (K47 7 rfl))) (Blk.at0 (Blk.ext k41 (Ext.trans (Ext.trans (Ext.trans (Ext.trans e44 e49) e55) e63) e79)))) <| L_callP (.plain rfl) rfl (ltb rfl) rfl Tryz.call125 (impl_Record_node.calls (w := w78) (a0 := (gt a0 x13_8))) rfl <| fun w83 e84 => ?_
            obtain ⟨c85, H⟩ := bif_some H
            obtain ⟨c86, H⟩ := bif_some H
            obtain ⟨c87, H⟩ := bif_some H
            obtain ⟨c88, H⟩ := bif_some H
            refine L_callO (.plain rfl) rfl (ltb rfl) rfl Tryz.call124 (impl_place.calls (w := w83) (a0 := (without x5_6 ((gt a0 x13_8).path) true)) (a1 := (ndOf (gt a0 x13_8))) (GV.ext gv (Ext.trans (Ext.trans (Ext.trans (Ext.trans (Ext.trans (Ext.trans (Ext.trans e22 (Below.trans e37 (Wr.below h40 (Nat.le_of_eq z35)))) e44) e49) e55) e63) e79) e84)) (Ow.rd (Ow.ext o81 e84)) (of_decide_eq_true c85) (of_decide_eq_true c86) (of_decide_eq_true c87) (of_decide_eq_true c88)) rfl <| fun v91 w89 e90 o92 => L_op (.plain rfl) rfl (ltb rfl) (X_assign (v := v91) rfl) <| L_nil <| blk_n <| thn_n <| W_reg <| L_op (.plain rfl) rfl (ltb rfl) (X_add ((K61 13 rfl).trans ((K53 13 rfl).trans ((K47 13 rfl).trans h26))) rfl) <| L_op (.plain rfl) rfl (ltb rfl) (X_move (v := (.int .i64 (IntKind.wrap .i64 (x13_8 + 1)))) rfl) <| L_nil <| thn_n ?_
            obtain rfl := Option.some.inj H
            exact ⟨_, Nat.lt_succ_self _, (placeL (without x5_6 ((gt a0 x13_8).path) true) (ndOf (gt a0 x13_8))), v91, IntKind.wrap .i64 (x13_8 + 1), (Kp.upd (Kp.upd (Kp.upd (Kp.upd (Kp.upd (Kp.upd (Kp.upd (Kp.upd (Kp.upd (Kp.upd (Kp.upd (Kp.upd (Kp.upd (Kp.upd (Kp.upd (Kp.cut (Kp.upd (Kp.cut (Kp.upd (Kp.cut (Kp.upd (Kp.upd (Kp.upd (Kp.upd (Kp.upd (Kp.upd (Kp.upd (Kp.upd (Kp.upd (Kp.upd (Kp.upd (Kp.upd (Kp.upd K21 rfl) rfl) rfl) rfl) rfl) rfl) rfl) rfl) rfl) rfl) rfl) rfl) rfl) K47 rfl) rfl) K53 rfl) rfl) K61 rfl) rfl) rfl) rfl) rfl) rfl) rfl) rfl) rfl) rfl) rfl) rfl) rfl) rfl) rfl) rfl), rfl, (Ow.base o92 (Ext.trans (Ext.trans (Ext.trans (Ext.trans (Ext.trans (Ext.trans (Ext.trans e22 (Below.trans e37 (Wr.below h40 (Nat.le_of_eq z35)))) e44) e49) e55) e63) e79) e84).size), rfl, (Ext.trans (Ext.trans (Ext.trans (Ext.trans (Ext.trans (Ext.trans (Ext.trans (Ext.trans e22 (Below.trans e37 (Wr.below h40 (Nat.le_of_eq z35)))) e44) e49) e55) e63) e79) e84) e90), S28⟩
          · refine W_false (congrArg Value.bool q82) <| W_skip <| blk_n <| thn_n <| W_reg <| L_op (.plain rfl) rfl (ltb rfl) (X_add ((K61 13 rfl).trans ((K53 13 rfl).trans ((K47 13 rfl).trans h26))) rfl) <| L_op (.plain rfl) rfl (ltb rfl) (X_move (v := (.int .i64 (IntKind.wrap .i64 (x13_8 + 1)))) rfl) <| L_nil <| thn_n ?_
            obtain rfl := Option.some.inj H
            exact ⟨_, Nat.lt_succ_self _, (without x5_6 ((gt a0 x13_8).path) true), v80, IntKind.wrap .i64 (x13_8 + 1), (Kp.upd (Kp.upd (Kp.upd (Kp.upd (Kp.upd (Kp.upd (Kp.upd (Kp.upd (Kp.upd (Kp.upd (Kp.cut (Kp.upd (Kp.cut (Kp.upd (Kp.cut (Kp.upd (Kp.upd (Kp.upd (Kp.upd (Kp.upd (Kp.upd (Kp.upd (Kp.upd (Kp.upd (Kp.upd (Kp.upd (Kp.upd (Kp.upd K21 rfl) rfl) rfl) rfl) rfl) rfl) rfl) rfl) rfl) rfl) rfl) rfl) rfl) K47 rfl) rfl) K53 rfl) rfl) K61 rfl) rfl) rfl) rfl) rfl) rfl) rfl) rfl) rfl) rfl) rfl), rfl, (Ow.base o81 (Ext.trans (Ext.trans (Ext.trans (Ext.trans (Ext.trans e22 (Below.trans e37 (Wr.below h40 (Nat.le_of_eq z35)))) e44) e49) e55) e63).size), rfl, (Ext.trans (Ext.trans (Ext.trans (Ext.trans (Ext.trans (Ext.trans e22 (Below.trans e37 (Wr.below h40 (Nat.le_of_eq z35)))) e44) e49) e55) e63) e79), S28⟩
      · refine W_false (congrArg Value.bool q29) <| W_exit <| thn_x <| thn_x <| blk_x <| thn_n ?_
        obtain rfl := Option.some.inj H
        obtain rfl := Option.some.inj S28
        exact ⟨x5_6, v7, (Kp.upd K21 rfl), h24, h25, e22, rfl⟩
  · rintro s15 w14 ⟨x5_12, v13, K16, h93, h94, e17, y95⟩
    rw [y95] at C11
    have H := C11
    replace H : _ = some _ := H
    refine thn_n <| W_seq <| W_reg <| L_op (.plain rfl) rfl (ltb rfl) (X_move (v := v13) h93) <| L_op (.plain rfl) rfl (ltb rfl) (X_assign (v := v13) rfl) <| L_nil <| thn_n <| W_ret <| fin_r ?_
    obtain rfl := Option.some.inj H
    exact fin1o rfl e17 h94 ((Ext.refl w)).size
theorem impl_apply.calls {w : World} {a0 : List Rec} {a1 : List Nd} (gv : GV 0 w) {v_a0 : Value} (f_a0 : Rd 5 encRec w v_a0 a0) {v_a1 : Value} (f_a1 : Rd 4 encNd w v_a1 a1) (h0 : a0.length ≤ 16) (h1 : a1.length ≤ 1000) (h2 : okT a0 a1 = true) :
    Calls Tryz.prog 74 #[v_a0, v_a1] w (Rt (RO 80 4 encNd w (applyL a0 a1))) := by
  obtain ⟨k, h⟩ := impl_apply.eq a0 a1 h0 h1 h2
  exact impl_apply.walk gv f_a0 f_a1 h
/-! laws.markRecordSS, by text -/
theorem laws_markRecordSS.calls {w : World} {a0 : List (List Rec)} {a1 : Int} {v_a0 : Value} {B T : Nat} (o_a0 : Own2 28 78 5 encRec B w v_a0 a0) (l_a0 : HB2 w v_a0 T) (h0 : a0.length ≤ 1048576) (h1 : ∀ l ∈ a0, l.length ≤ 1048576) (h2 : (0 : Int) ≤ a1) (h3 : (a1 : Int) ≤ 4611686018427387904 - 5 * (totL a0 : Int)) :
    Calls Tryz.prog 28 #[v_a0, .int .i64 a1] w (Rt (RM2 28 78 5 encRec B T w (.int .i64 (a1 + 5 * (totL a0 : Int))) v_a0 (marksSS a0 a1))) := by
  refine calls_of_W Tryz.func28 rfl (Nat.le_of_ble_eq_true rfl) Tryz.ntmps28 rfl ?_
  refine W_seq <| W_reg <| L_op (.plain rfl) rfl (ltb rfl) (X_assign (v := (.int .i64 0)) rfl) <| L_nil <| thn_n <| W_seq <| W_seq <| W_reg <| L_op (.plain rfl) rfl (ltb rfl) (X_assign (v := (.int .i64 0)) rfl) <| L_nil <| thn_n ?_
  refine W_cutQ (fun s0 σ W => σ 1 = .int .i64 (a1 + 5 * (totL a0 : Int)) ∧ Gr B T w W ∧ Own2 28 78 5 encRec B W v_a0 (marksSS a0 a1)) ?_ ?_
  · refine W_block <| W_loopI (fun s0 m σ W => ∃ (D R : List (List Rec)) (k : Int), m = R.length ∧ σ 0 = v_a0 ∧ σ 5 = .int .i64 (D.length : Int) ∧ σ 1 = .int .i64 k ∧ D.length + R.length = a0.length ∧ Gr B T w W ∧ Own2 28 78 5 encRec B W v_a0 (D ++ R) ∧ HB2 W v_a0 T ∧ (∀ l ∈ R, l.length ≤ 1048576) ∧ 0 ≤ k ∧ k + 5 * (totL R : Int) = a1 + 5 * (totL a0 : Int) ∧ D ++ marksSS R k = marksSS a0 a1) a0.length
      ⟨[], a0, a1, rfl, rfl, rfl, rfl, by simp, Gr.refl _ _ _, o_a0, l_a0, h1, h2, rfl, rfl⟩ ?_
    rintro m s1 W1 ⟨D, R, k, rfl, q0, q5, q1, hl, hg, hO, hH, hR, hk0, hk, hf⟩
    refine W_seq <| W_seq <| W_reg <| L_op (.plain rfl) rfl (ltb rfl) (X_move q5) <| L_op (.plain rfl) rfl (ltb rfl) (X_move q0) <| L_op (.plain rfl) rfl (ltb rfl) (X_lenR2 Tryz.underlying39 rfl hO.rd) <| L_op (.plain rfl) rfl (ltb rfl) (X_lss rfl rfl) <| L_nil <| thn_n ?_
    cases R with
    | nil =>
      refine W_false (congrArg Value.bool (decide_eq_false (by simp))) <| W_exit <| thn_x <| thn_x <| blk_x <| thn_n ?_
      have hkk : k = a1 + 5 * (totL a0 : Int) := by simpa [totL] using hk
      refine ⟨by rw [← hkk]; exact q1, hg, ?_⟩
      rw [← hf]
      exact hO
    | cons l R =>
      obtain ⟨vs, u, lo, hi, hv, hvl, hu, ho, hh, hsub, hback⟩ := hO.inner hH
      have hlt : D.length < vs.length := by rw [hvl]; simp
      haveI : Inhabited Value := ⟨undef⟩
      have hgu : gt vs (D.length : Int) = u := by
        rw [getD_gt, getD_el hlt]
        rw [List.getElem?_eq_getElem hlt] at hu
        exact Option.some.inj hu
      have htot : totL (l :: R) = l.length + totL R := by simp [totL]
      rw [htot] at hk
      have hll := hR l (by simp)
      refine W_true (congrArg Value.bool (decide_eq_true (by simp; omega))) <| W_skip <| thn_n <| W_seq <| W_block <| W_reg <| L_op (.plain rfl) rfl (ltb rfl) (X_move q0) <| L_op (.plain rfl) rfl (ltb rfl) (X_move q5) <|
        L_idx (xs := vs) (.plain rfl) rfl (ltb rfl) rfl Tryz.underlying39 Tryz.sizeOf28 rfl hv rfl (inR_nat hlt) <| fun p hA => ?_
      rw [hgu] at hA
      refine L_op (.plain rfl) rfl (ltb rfl) (X_loadAt (v := u) Tryz.isAgg28 rfl hA rfl) <| L_op (.plain rfl) rfl (ltb rfl) (X_move q1) <|
        L_callM (.plain rfl) rfl (ltb rfl) rfl Tryz.call33 (laws_markRecordS.calls (w := W1) (a0 := l) (a1 := k) ho hh (by omega) hk0 (by omega)) rfl <| fun W2 g2 o2 => L_op (.plain rfl) rfl (ltb rfl) (X_assign (v := .int .i64 (k + 5 * (l.length : Int))) rfl) <| L_nil <| blk_n <| thn_n ?_
      obtain ⟨hO2, hH2⟩ := hback W2 (marksR l.length k) g2 o2
      have hw : IntKind.wrap .i64 ((D.length : Int) + 1) = (((D ++ [marksR l.length k]).length : Nat) : Int) := by simp only [List.length_append, List.length_cons, List.length_nil]; rw [Int.natCast_add]; exact Go.UL.wrap_small (by omega) (by simp at hl; omega)
      refine W_reg <| L_op (.plain rfl) rfl (ltb rfl) (X_move q5) <| L_op (.plain rfl) rfl (ltb rfl) (X_add rfl rfl) <| L_op (.plain rfl) rfl (ltb rfl) (X_assign (v := .int .i64 (((D ++ [marksR l.length k]).length : Nat) : Int)) (congrArg (Value.int .i64) hw)) <| L_nil <| thn_n ?_
      exact ⟨R.length, by simp, D ++ [marksR l.length k], R, k + 5 * (l.length : Int), rfl, q0, rfl, rfl, by simp at hl ⊢; omega, hg.trans (hsub W2 g2), by rw [List.append_assoc]; exact hO2, hH2, fun y hy => hR y (by simp [hy]), by omega, by omega, by rw [List.append_assoc]; exact hf⟩
  · rintro s2 W2 ⟨q1, hg, hO⟩
    refine thn_n <| W_seq <| W_reg <| L_op (.plain rfl) rfl (ltb rfl) (X_move q1) <| L_op (.plain rfl) rfl (ltb rfl) (X_assign (v := .int .i64 (a1 + 5 * (totL a0 : Int))) rfl) <| L_nil <| thn_n <| W_ret <| fin_r ?_
    exact ⟨_, rfl, rfl, hg, hO⟩

/-! spec.l05All -/
theorem spec_l05All.walk {k : Nat} {w : World} {a0 : List (List Rec)} {a1 : List Nd} {v_a0 : Value} (f_a0 : Rd2 5 encRec w v_a0 a0) {v_a1 : Value} (f_a1 : Rd 4 encNd w v_a1 a1) {r : List Nd} (H : spec_l05All.sh k a0 a1 = some r) :
    Calls Tryz.prog 78 #[v_a0, v_a1] w (Rt (RO 80 4 encNd w r)) := by
  unfold spec_l05All.sh at H
  refine calls_of_W Tryz.func78 rfl (Nat.le_of_ble_eq_true rfl) Tryz.ntmps78 rfl ?_
  refine W_seq <| W_reg <| L_op (.plain rfl) rfl (ltb rfl) (X_assign (v := (.slice none 0 0)) rfl) <| L_nil <| thn_n <| W_seq <| W_reg <| L_lit (.plain rfl) rfl (ltb rfl) rfl Tryz.underlying30 Tryz.sizeOf80 Tryz.zeroValue80 rfl rfl rfl (vs := []) rfl (lit_all rfl) <| fun b1 w2 z3 z4 e5 k6 => L_op (.plain rfl) rfl (ltb rfl) (X_move (v := v_a1) rfl) ?_
  obtain ⟨c7, H⟩ := bif_some H
  refine L_append (enc := encNd) (.plain rfl) rfl (ltb rfl) rfl El.t30 rfl rfl (Ow.zero (base := w2.heap.size) (w := w2)) (Rd.ext f_a1 e5) (ones_Nd _) (of_decide_eq_true c7) (Nat.le_refl _) <| fun v8 w9 o10 z11 g12 => L_op (.plain rfl) rfl (ltb rfl) (X_assign (v := v8) rfl) <| L_nil <| thn_n <| W_seq <| W_seq <| W_reg <| L_op (.plain rfl) rfl (ltb rfl) (X_assign (v := (.int .i64 0)) rfl) <| L_nil <| thn_n ?_
  obtain ⟨z16, L17, C18⟩ := bind_some H
  clear H
  refine  W_cutQ (fun s0 sQ wQ => ∃ (x1_19 : List Nd) (v20 : Value), Kp [(1, 2), (5, 6), (9, 21)] s0 sQ ∧ sQ 1 = v20 ∧ Ow 80 4 encNd w2.heap.size wQ v20 x1_19 ∧ Ext w9 wQ ∧ z16 = .inr x1_19) ?_ ?_
  · refine W_block <| W_loopI (fun s0 kk sQ wQ => ∃ (x1_13 : List Nd) (v14 : Value) (x5_15 : Int), Kp [(1, 2), (5, 6), (9, 21)] s0 sQ ∧ sQ 1 = v14 ∧ Ow 80 4 encNd w2.heap.size wQ v14 x1_13 ∧ sQ 5 = .int .i64 x5_15 ∧ Ext w9 wQ ∧ loopF (spec_l05All.b1 a0) kk (x1_13, x5_15) = some z16) k ⟨([] : List Nd) ++ a1, v8, 0, (Kp.refl _ _), rfl, o10, rfl, (Ext.refl w9), L17⟩ ?_
    rintro k25 s26 w27 ⟨x1_13, v14, x5_15, K28, h31, h32, h33, e29, L30⟩
    cases k25 with
    | zero => exact absurd L30 (by simp [loopF])
    | succ k25 =>
      obtain ⟨t34, H, S35⟩ := loopF_succ L30
      clear L30
      unfold spec_l05All.b1 at H
      refine W_seq <| W_seq <| W_reg <| L_op (.plain rfl) rfl (ltb rfl) (X_move (v := (.int .i64 x5_15)) h33) <| L_op (.plain rfl) rfl (ltb rfl) (X_move (v := v_a0) (K28 0 rfl)) <| L_op (.plain rfl) rfl (ltb rfl) (X_lenR2 Tryz.underlying39 rfl (Rd2.ext f_a0 (Ext.trans (Ext.trans e5 (g12 _ (Ext.refl w2))) e29))) <| L_op (.plain rfl) rfl (ltb rfl) (X_lss rfl rfl) <| L_nil <| thn_n ?_
      rcases bif_two H with ⟨q36, H⟩ | ⟨q36, H⟩
      · refine W_true (congrArg Value.bool q36) <| W_skip <| thn_n <| W_seq <| W_block <| W_reg <| L_op (.plain rfl) rfl (ltb rfl) (X_move (v := v_a0) (K28 0 rfl)) <| L_op (.plain rfl) rfl (ltb rfl) (X_move (v := (.int .i64 x5_15)) h33) ?_
        obtain ⟨c37, H⟩ := bif_some H
        refine L_idx2 (.plain rfl) rfl (ltb rfl) rfl Tryz.underlying39 Tryz.sizeOf28 rfl (Rd2.ext f_a0 (Ext.trans (Ext.trans e5 (g12 _ (Ext.refl w2))) e29)) rfl c37 <| fun p38 v40 h39 h41 => L_op (.plain rfl) rfl (ltb rfl) (X_loadAt Tryz.isAgg28 rfl h39 rfl) <| L_op (.plain rfl) rfl (ltb rfl) (X_move (v := v14) h31) ?_
        obtain ⟨c42, H⟩ := bif_some H
        obtain ⟨c43, H⟩ := bif_some H
        obtain ⟨c44, H⟩ := bif_some H
        refine L_callO (.plain rfl) rfl (ltb rfl) rfl Tryz.call65 (spec_l05Apply.calls (w := w27) (a0 := gt a0 x5_15) (a1 := x1_13) h41 (Ow.rd h32) (of_decide_eq_true c42) (of_decide_eq_true c43) (of_decide_eq_true c44)) rfl <| fun v47 w45 e46 o48 => L_op (.plain rfl) rfl (ltb rfl) (X_assign (v := v47) rfl) <| L_nil <| blk_n <| thn_n <| W_reg <| L_op (.plain rfl) rfl (ltb rfl) (X_move (v := (.int .i64 x5_15)) h33) <| L_op (.plain rfl) rfl (ltb rfl) (X_add rfl rfl) <| L_op (.plain rfl) rfl (ltb rfl) (X_assign (v := (.int .i64 (IntKind.wrap .i64 (x5_15 + 1)))) rfl) <| L_nil <| thn_n ?_
        obtain rfl := Option.some.inj H
        exact ⟨_, Nat.lt_succ_self _, (applyL (gt a0 x5_15) x1_13), v47, IntKind.wrap .i64 (x5_15 + 1), (Kp.upd (Kp.upd (Kp.upd (Kp.upd (Kp.upd (Kp.upd (Kp.upd (Kp.upd (Kp.upd (Kp.upd (Kp.upd (Kp.upd (Kp.upd (Kp.upd K28 rfl) rfl) rfl) rfl) rfl) rfl) rfl) rfl) rfl) rfl) rfl) rfl) rfl) rfl), rfl, (Ow.base o48 (Ext.trans (g12 _ (Ext.refl w2)) e29).size), rfl, (Ext.trans e29 e46), S35⟩
      · refine W_false (congrArg Value.bool q36) <| W_exit <| thn_x <| thn_x <| blk_x <| thn_n ?_
        obtain rfl := Option.some.inj H
        obtain rfl := Option.some.inj S35
        exact ⟨x1_13, v14, (Kp.upd (Kp.upd (Kp.upd (Kp.upd K28 rfl) rfl) rfl) rfl), h31, h32, e29, rfl⟩
  · rintro s22 w21 ⟨x1_19, v20, K23, h49, h50, e24, y51⟩
    rw [y51] at C18
    have H := C18
    replace H : _ = some _ := H
    refine thn_n <| W_seq <| W_reg <| L_op (.plain rfl) rfl (ltb rfl) (X_move (v := v20) h49) <| L_op (.plain rfl) rfl (ltb rfl) (X_assign (v := v20) rfl) <| L_nil <| thn_n <| W_ret <| fin_r ?_
    obtain rfl := Option.some.inj H
    exact fin1o rfl (Ext.trans (Ext.trans e5 (g12 _ (Ext.refl w2))) e24) h50 (e5).size
theorem spec_l05All.calls {w : World} {a0 : List (List Rec)} {a1 : List Nd} {v_a0 : Value} (f_a0 : Rd2 5 encRec w v_a0 a0) {v_a1 : Value} (f_a1 : Rd 4 encNd w v_a1 a1) (h0 : a0.length ≤ 5) (h1 : a1.length ≤ 24) (h2 : okA a0 a1 = true) :
    Calls Tryz.prog 78 #[v_a0, v_a1] w (Rt (RO 80 4 encNd w (applyAllL a0 a1))) := by
  obtain ⟨k, h⟩ := spec_l05All.eq a0 a1 h0 h1 h2
  exact spec_l05All.walk f_a0 f_a1 h
/-! spec.ViewOf -/
theorem spec_ViewOf.walk {w : World} {a0 : List (List Rec)} {v_a0 : Value} (f_a0 : Rd2 5 encRec w v_a0 a0) {r : List Nd × Int} (H : spec_ViewOf.sh a0 = some r) :
    Calls Tryz.prog 24 #[v_a0] w (Rt (RT 80 4 encNd w r.1 (.int .i64 r.2))) := by
  unfold spec_ViewOf.sh at H
  refine calls_of_W Tryz.func24 rfl (Nat.le_of_ble_eq_true rfl) Tryz.ntmps24 rfl ?_
  refine W_seq <| W_reg <| L_op (.plain rfl) rfl (ltb rfl) (X_assign (v := (.slice none 0 0)) rfl) <| L_op (.plain rfl) rfl (ltb rfl) (X_assign (v := (.int .i64 0)) rfl) <| L_nil <| thn_n <| W_seq <| W_seq <| W_reg <| L_op (.plain rfl) rfl (ltb rfl) (X_move (v := v_a0) rfl) <| L_op (.plain rfl) rfl (ltb rfl) (X_lenR2 Tryz.underlying39 rfl f_a0) <| L_op (.plain rfl) rfl (ltb rfl) (X_gtr rfl rfl) <| L_nil <| thn_n ?_
  rcases bif_two H with ⟨q1, H⟩ | ⟨q1, H⟩
  · refine W_true (congrArg Value.bool q1) <| W_seq <| W_reg <| L_lit (.plain rfl) rfl (ltb rfl) rfl Tryz.underlying30 Tryz.sizeOf80 Tryz.zeroValue80 rfl rfl rfl (vs := []) rfl (lit_all rfl) <| fun b2 w3 z4 z5 e6 k7 => L_op (.plain rfl) rfl (ltb rfl) (X_assign (v := (.slice (some ⟨b2, 0, none⟩) 0 0)) rfl) <| L_op (.plain rfl) rfl (ltb rfl) (X_assign (v := (.int .i64 2)) rfl) <| L_nil <| thn_n <| W_ret <| thn_r <| fin_r ?_
    obtain rfl := Option.some.inj H
    exact fin2o rfl rfl e6 (Ow.zero (base := w.heap.size)) (Nat.le_refl _)
  · refine W_false (congrArg Value.bool q1) <| W_skip <| thn_n <| W_seq <| W_seq <| W_reg <| L_op (.plain rfl) rfl (ltb rfl) (X_move (v := v_a0) rfl) ?_
    obtain ⟨c8, H⟩ := bif_some H
    obtain ⟨c9, H⟩ := bif_some H
    obtain ⟨c10, H⟩ := bif_some H
    refine L_callP (.plain rfl) rfl (ltb rfl) rfl Tryz.call77 (spec_l05Stack.calls (w := w) (a0 := a0) f_a0 (of_decide_eq_true c8) (of_decide_eq_true c9) (of_decide_eq_true c10)) rfl <| fun w11 e12 => L_op (.plain rfl) rfl (ltb rfl) (X_not rfl) <| L_nil <| thn_n ?_
    rcases bif_two H with ⟨q13, H⟩ | ⟨q13, H⟩
    · refine W_true (congrArg Value.bool q13) <| W_seq <| W_reg <| L_lit (.plain rfl) rfl (ltb rfl) rfl Tryz.underlying30 Tryz.sizeOf80 Tryz.zeroValue80 rfl rfl rfl (vs := []) rfl (lit_all rfl) <| fun b14 w15 z16 z17 e18 k19 => L_op (.plain rfl) rfl (ltb rfl) (X_assign (v := (.slice (some ⟨b14, 0, none⟩) 0 0)) rfl) <| L_op (.plain rfl) rfl (ltb rfl) (X_assign (v := (.int .i64 1)) rfl) <| L_nil <| thn_n <| W_ret <| thn_r <| fin_r ?_
      obtain rfl := Option.some.inj H
      exact fin2o rfl rfl (Ext.trans e12 e18) (Ow.zero (base := w.heap.size)) (Nat.le_refl _)
    · refine W_false (congrArg Value.bool q13) <| W_skip <| thn_n <| W_seq <| W_reg <| L_op (.plain rfl) rfl (ltb rfl) (X_move (v := v_a0) rfl) ?_
      obtain ⟨c20, H⟩ := bif_some H
      obtain ⟨c21, H⟩ := bif_some H
      obtain ⟨c22, H⟩ := bif_some H
      refine L_callO (.plain rfl) rfl (ltb rfl) rfl Tryz.call78 (spec_l05All.calls (w := w11) (a0 := a0) (a1 := ([] : List Nd)) (Rd2.ext f_a0 e12) (Rd.nil _ _ _) (of_decide_eq_true c20) (of_decide_eq_true c21) (of_decide_eq_true c22)) rfl <| fun v25 w23 e24 o26 => L_op (.plain rfl) rfl (ltb rfl) (X_assign (v := v25) rfl) <| L_op (.plain rfl) rfl (ltb rfl) (X_assign (v := (.int .i64 0)) rfl) <| L_nil <| thn_n <| W_ret <| fin_r ?_
      obtain rfl := Option.some.inj H
      exact fin2o rfl rfl (Ext.trans e12 e24) o26 (e12).size
theorem spec_ViewOf.calls {w : World} {a0 : List (List Rec)} {v_a0 : Value} (f_a0 : Rd2 5 encRec w v_a0 a0) (h0 : a0.length ≤ 1048576) (h1 : ∀ l ∈ a0, l.length ≤ 1048576) (h2 : ∀ l ∈ a0, ∀ x ∈ l, x.path.length ≤ 1048576) :
    Calls Tryz.prog 24 #[v_a0] w (Rt (RT 80 4 encNd w ((viewOf a0).1) (.int .i64 ((viewOf a0).2)))) := spec_ViewOf.walk f_a0 (spec_ViewOf.eq a0 h0 h1 h2)
/-! impl.applyAll -/
theorem impl_applyAll.walk {k : Nat} {w : World} {a0 : List (List Rec)} {a1 : List Nd} (gv : GV 0 w) {v_a0 : Value} (f_a0 : Rd2 5 encRec w v_a0 a0) {v_a1 : Value} (f_a1 : Rd 4 encNd w v_a1 a1) {r : List Nd} (H : impl_applyAll.sh k a0 a1 = some r) :
    Calls Tryz.prog 80 #[v_a0, v_a1] w (Rt (RO 80 4 encNd w r)) := by
  unfold impl_applyAll.sh at H
  refine calls_of_W Tryz.func80 rfl (Nat.le_of_ble_eq_true rfl) Tryz.ntmps80 rfl ?_
  refine W_seq <| W_reg <| L_op (.plain rfl) rfl (ltb rfl) (X_assign (v := (.slice none 0 0)) rfl) <| L_nil <| thn_n <| W_seq <| W_reg <| L_op (.plain rfl) rfl (ltb rfl) (X_move (v := v_a1) rfl) ?_
  obtain ⟨c1, H⟩ := bif_some H
  refine L_callO (.plain rfl) rfl (ltb rfl) rfl Tryz.call121 (slices_CloneN.calls (w := w) (a0 := a1) f_a1 (of_decide_eq_true c1)) rfl <| fun v4 w2 e3 o5 => L_op (.plain rfl) rfl (ltb rfl) (X_assign (v := v4) rfl) <| L_nil <| thn_n <| W_seq <| W_seq <| W_reg <| L_op (.plain rfl) rfl (ltb rfl) (X_move (v := v_a0) rfl) <| L_op (.plain rfl) rfl (ltb rfl) (X_lenR2 Tryz.underlying39 rfl (Rd2.ext f_a0 e3)) <| L_op (.plain rfl) rfl (ltb rfl) (X_move (v := (.int .i64 0)) rfl) <| L_nil <| thn_n ?_
  obtain ⟨z9, L10, C11⟩ := bind_some H
  clear H
  refine  W_cutQ (fun s0 sQ wQ => ∃ (x5_12 : List Nd) (v13 : Value), Kp [(5, 6), (7, 8), (12, 20)] s0 sQ ∧ sQ 5 = v13 ∧ Ow 80 4 encNd w.heap.size wQ v13 x5_12 ∧ Ext w2 wQ ∧ z9 = .inr x5_12) ?_ ?_
  · refine W_block <| W_loopI (fun s0 kk sQ wQ => ∃ (x5_6 : List Nd) (v7 : Value) (x12_8 : Int), Kp [(5, 6), (7, 8), (12, 20)] s0 sQ ∧ sQ 5 = v7 ∧ Ow 80 4 encNd w.heap.size wQ v7 x5_6 ∧ sQ 12 = .int .i64 x12_8 ∧ Ext w2 wQ ∧ loopF (impl_applyAll.b1 a0) kk (x5_6, x12_8) = some z9) k ⟨a1, v4, 0, (Kp.refl _ _), rfl, o5, rfl, (Ext.refl w2), L10⟩ ?_
    rintro k18 s19 w20 ⟨x5_6, v7, x12_8, K21, h24, h25, h26, e22, L23⟩
    cases k18 with
    | zero => exact absurd L23 (by simp [loopF])
    | succ k18 =>
      obtain ⟨t27, H, S28⟩ := loopF_succ L23
      clear L23
      unfold impl_applyAll.b1 at H
      refine W_seq <| W_reg <| L_op (.plain rfl) rfl (ltb rfl) (X_lss h26 (K21 11 rfl)) <| L_nil <| thn_n <| W_seq ?_
      rcases bif_two H with ⟨q29, H⟩ | ⟨q29, H⟩
      · refine W_true (congrArg Value.bool q29) <| W_skip <| thn_n <| W_seq <| W_block <| W_seq <| W_reg ?_
        obtain ⟨c30, H⟩ := bif_some H
        refine L_idx2 (.plain rfl) rfl (ltb rfl) rfl Tryz.underlying39 Tryz.sizeOf28 (K21 10 rfl) (Rd2.ext f_a0 (Ext.trans e3 e22)) h26 c30 <| fun p31 v33 h32 h34 => L_op (.plain rfl) rfl (ltb rfl) (X_loadAt Tryz.isAgg28 rfl h32 rfl) <| L_op (.plain rfl) rfl (ltb rfl) (X_assign (v := v33) rfl) <| L_nil <| thn_n <| W_reg <| L_op (.plain rfl) rfl (ltb rfl) (X_move (v := v33) rfl) <| L_op (.plain rfl) rfl (ltb rfl) (X_move (v := v7) h24) ?_
        obtain ⟨c35, H⟩ := bif_some H
        obtain ⟨c36, H⟩ := bif_some H
        obtain ⟨c37, H⟩ := bif_some H
        refine L_callO (.plain rfl) rfl (ltb rfl) rfl Tryz.call74 (impl_apply.calls (w := w20) (a0 := gt a0 x12_8) (a1 := x5_6) (GV.ext gv (Ext.trans e3 e22)) h34 (Ow.rd h25) (of_decide_eq_true c35) (of_decide_eq_true c36) (of_decide_eq_true c37)) rfl <| fun v40 w38 e39 o41 => L_op (.plain rfl) rfl (ltb rfl) (X_assign (v := v40) rfl) <| L_nil <| blk_n <| thn_n <| W_reg <| L_op (.plain rfl) rfl (ltb rfl) (X_add h26 rfl) <| L_op (.plain rfl) rfl (ltb rfl) (X_move (v := (.int .i64 (IntKind.wrap .i64 (x12_8 + 1)))) rfl) <| L_nil <| thn_n ?_
        obtain rfl := Option.some.inj H
        exact ⟨_, Nat.lt_succ_self _, (applyL (gt a0 x12_8) x5_6), v40, IntKind.wrap .i64 (x12_8 + 1), (Kp.upd (Kp.upd (Kp.upd (Kp.upd (Kp.upd (Kp.upd (Kp.upd (Kp.upd (Kp.upd (Kp.upd K21 rfl) rfl) rfl) rfl) rfl) rfl) rfl) rfl) rfl) rfl), rfl, (Ow.base o41 (Ext.trans e3 e22).size), rfl, (Ext.trans e22 e39), S28⟩
      · refine W_false (congrArg Value.bool q29) <| W_exit <| thn_x <| thn_x <| blk_x <| thn_n ?_
        obtain rfl := Option.some.inj H
        obtain rfl := Option.some.inj S28
        exact ⟨x5_6, v7, (Kp.upd K21 rfl), h24, h25, e22, rfl⟩
  · rintro s15 w14 ⟨x5_12, v13, K16, h42, h43, e17, y44⟩
    rw [y44] at C11
    have H := C11
    replace H : _ = some _ := H
    refine thn_n <| W_seq <| W_reg <| L_op (.plain rfl) rfl (ltb rfl) (X_move (v := v13) h42) <| L_op (.plain rfl) rfl (ltb rfl) (X_assign (v := v13) rfl) <| L_nil <| thn_n <| W_ret <| fin_r ?_
    obtain rfl := Option.some.inj H
    exact fin1o rfl (Ext.trans e3 e17) h43 ((Ext.refl w)).size
theorem impl_applyAll.calls {w : World} {a0 : List (List Rec)} {a1 : List Nd} (gv : GV 0 w) {v_a0 : Value} (f_a0 : Rd2 5 encRec w v_a0 a0) {v_a1 : Value} (f_a1 : Rd 4 encNd w v_a1 a1) (h0 : a0.length ≤ 5) (h1 : a1.length ≤ 24) (h2 : okA a0 a1 = true) :
    Calls Tryz.prog 80 #[v_a0, v_a1] w (Rt (RO 80 4 encNd w (applyAllL a0 a1))) := by
  obtain ⟨k, h⟩ := impl_applyAll.eq a0 a1 h0 h1 h2
  exact impl_applyAll.walk gv f_a0 f_a1 h
/-! impl.ViewOf -/
theorem impl_ViewOf.walk {w : World} {a0 : List (List Rec)} (gv : GV 0 w) {v_a0 : Value} (f_a0 : Rd2 5 encRec w v_a0 a0) {r : List Nd × Int} (H : impl_ViewOf.sh a0 = some r) :
    Calls Tryz.prog 26 #[v_a0] w (Rt (RT 80 4 encNd w r.1 (.int .i64 r.2))) := by
  unfold impl_ViewOf.sh at H
  refine calls_of_W Tryz.func26 rfl (Nat.le_of_ble_eq_true rfl) Tryz.ntmps26 rfl ?_
  refine W_seq <| W_reg <| L_op (.plain rfl) rfl (ltb rfl) (X_assign (v := (.slice none 0 0)) rfl) <| L_op (.plain rfl) rfl (ltb rfl) (X_assign (v := (.int .i64 0)) rfl) <| L_nil <| thn_n <| W_seq <| W_seq <| W_reg <| L_op (.plain rfl) rfl (ltb rfl) (X_move (v := v_a0) rfl) ?_
  obtain ⟨c1, H⟩ := bif_some H
  obtain ⟨c2, H⟩ := bif_some H
  obtain ⟨c3, H⟩ := bif_some H
  refine L_callP (.plain rfl) rfl (ltb rfl) rfl Tryz.call79 (impl_stackCode.calls (w := w) (a0 := a0) gv f_a0 (of_decide_eq_true c1) (of_decide_eq_true c2) (of_decide_eq_true c3)) rfl <| fun w4 e5 => L_op (.plain rfl) rfl (ltb rfl) (X_assign (v := (.int .i64 (stackCode a0))) rfl) <| L_nil <| thn_n <| W_seq <| W_reg <| L_op (.plain rfl) rfl (ltb rfl) (X_move (v := (.int .i64 (stackCode a0))) rfl) <| L_op (.plain rfl) rfl (ltb rfl) (X_neq rfl rfl) <| L_nil <| thn_n ?_
  rcases bif_two H with ⟨q6, H⟩ | ⟨q6, H⟩
  · refine W_true (congrArg Value.bool q6) <| W_seq <| W_reg <| L_op (.plain rfl) rfl (ltb rfl) (X_move (v := (.int .i64 (stackCode a0))) rfl) <| L_op (.plain rfl) rfl (ltb rfl) (X_assign (v := (.slice none 0 0)) rfl) <| L_op (.plain rfl) rfl (ltb rfl) (X_assign (v := (.int .i64 (stackCode a0))) rfl) <| L_nil <| thn_n <| W_ret <| thn_r <| fin_r ?_
    obtain rfl := Option.some.inj H
    exact fin2o rfl rfl e5 (Ow.zero (base := w.heap.size)) (Nat.le_refl _)
  · refine W_false (congrArg Value.bool q6) <| W_skip <| thn_n <| W_seq <| W_reg <| L_op (.plain rfl) rfl (ltb rfl) (X_move (v := v_a0) rfl) ?_
    obtain ⟨c7, H⟩ := bif_some H
    obtain ⟨c8, H⟩ := bif_some H
    obtain ⟨c9, H⟩ := bif_some H
    refine L_callO (.plain rfl) rfl (ltb rfl) rfl Tryz.call80 (impl_applyAll.calls (w := w4) (a0 := a0) (a1 := ([] : List Nd)) (GV.ext gv e5) (Rd2.ext f_a0 e5) (Rd.nil _ _ _) (of_decide_eq_true c7) (of_decide_eq_true c8) (of_decide_eq_true c9)) rfl <| fun v12 w10 e11 o13 => L_op (.plain rfl) rfl (ltb rfl) (X_assign (v := v12) rfl) <| L_op (.plain rfl) rfl (ltb rfl) (X_assign (v := (.int .i64 0)) rfl) <| L_nil <| thn_n <| W_ret <| fin_r ?_
    obtain rfl := Option.some.inj H
    exact fin2o rfl rfl (Ext.trans e5 e11) o13 (e5).size
theorem impl_ViewOf.calls {w : World} {a0 : List (List Rec)} (gv : GV 0 w) {v_a0 : Value} (f_a0 : Rd2 5 encRec w v_a0 a0) (h0 : a0.length ≤ 1048576) (h1 : ∀ l ∈ a0, l.length ≤ 1048576) (h2 : ∀ l ∈ a0, ∀ x ∈ l, x.path.length ≤ 1048576) :
    Calls Tryz.prog 26 #[v_a0] w (Rt (RT 80 4 encNd w ((viewOf a0).1) (.int .i64 ((viewOf a0).2)))) := impl_ViewOf.walk gv f_a0 (impl_ViewOf.eq a0 h0 h1 h2)
/-! laws.FnExactViewOf -/
theorem law_ViewOf.walk {w : World} {a0 : List (List Rec)} (gv : GV 0 w) {v_a0 : Value} (f_a0 : Rd2 5 encRec w v_a0 a0) {r : Bool} (H : law_ViewOf.sh a0 = some r) :
    Calls Tryz.prog 4 #[v_a0] w (Rt (RP w (.bool r))) := by
  unfold law_ViewOf.sh at H
  refine calls_of_W Tryz.func4 rfl (Nat.le_of_ble_eq_true rfl) Tryz.ntmps4 rfl ?_
  refine W_seq <| W_reg <| L_op (.plain rfl) rfl (ltb rfl) (X_assign (v := (.bool false)) rfl) <| L_nil <| thn_n <| W_seq <| W_reg <| L_op (.plain rfl) rfl (ltb rfl) (X_assign (v := (.int .i64 1048576)) rfl) <| L_nil <| thn_n <| W_seq <| W_reg <| L_op (.plain rfl) rfl (ltb rfl) (X_move (v := v_a0) rfl) <| L_op (.plain rfl) rfl (ltb rfl) (X_move (v := (.int .i64 1048576)) rfl) ?_
  obtain ⟨c1, H⟩ := bif_some H
  obtain ⟨c2, H⟩ := bif_some H
  obtain ⟨c3, H⟩ := bif_some H
  obtain ⟨c4, H⟩ := bif_some H
  obtain ⟨c5, H⟩ := bif_some H
  refine L_callP (.plain rfl) rfl (ltb rfl) rfl Tryz.call23 (laws_szRecordSS.calls (w := w) (a0 := a0) (a1 := 1048576) f_a0 (of_decide_eq_true c1) (of_decide_eq_true c2) (of_decide_eq_true c3) (of_decide_eq_true c4) (of_decide_eq_true c5)) rfl <| fun w6 e7 => L_op (.plain rfl) rfl (ltb rfl) (X_assign (v := (.int .i64 (szRecSS a0 1048576))) rfl) <| L_nil <| thn_n <| W_seq <| W_seq <| W_reg <| L_op (.plain rfl) rfl (ltb rfl) (X_move (v := (.int .i64 (szRecSS a0 1048576))) rfl) <| L_op (.plain rfl) rfl (ltb rfl) (X_lss rfl rfl) <| L_nil <| thn_n ?_
  rcases bif_two H with ⟨q8, H⟩ | ⟨q8, H⟩
  · refine W_true (congrArg Value.bool q8) <| W_seq <| W_reg <| L_op (.plain rfl) rfl (ltb rfl) (X_assign (v := (.bool true)) rfl) <| L_nil <| thn_n <| W_ret <| thn_r <| fin_r ?_
    obtain rfl := Option.some.inj H
    exact fin1 rfl e7
  · refine W_false (congrArg Value.bool q8) <| W_skip <| thn_n <| W_seq <| W_reg <| L_op (.plain rfl) rfl (ltb rfl) (X_move (v := v_a0) rfl) ?_
    obtain ⟨c9, H⟩ := bif_some H
    obtain ⟨c10, H⟩ := bif_some H
    refine L_callOS (.plain rfl) rfl (ltb rfl) rfl Tryz.call25 (laws_toRecordSS.calls (w := w6) (a0 := a0) (Rd2.ext f_a0 e7) (of_decide_eq_true c9) (of_decide_eq_true c10)) rfl <| fun v13 w11 e12 o14 => ?_
    obtain ⟨c15, H⟩ := bif_some H
    obtain ⟨c16, H⟩ := bif_some H
    obtain ⟨c17, H⟩ := bif_some H
    refine L_callT (.plain rfl) rfl (ltb rfl) rfl Tryz.call24 (spec_ViewOf.calls (w := w11) (a0 := a0) (Own2.rd o14) (of_decide_eq_true c15) (of_decide_eq_true c16) (of_decide_eq_true c17)) rfl <| fun v20 w18 e19 o21 => L_op (.plain rfl) rfl (ltb rfl) (X_move (v := (.tuple #[v20, (.int .i64 ((viewOf a0).2))])) rfl) <| L_op (.plain rfl) rfl (ltb rfl) (X_extract (v := v20) rfl rfl) <| L_op (.plain rfl) rfl (ltb rfl) (X_extract (v := (.int .i64 ((viewOf a0).2))) rfl rfl) <| L_op (.plain rfl) rfl (ltb rfl) (X_assign (v := v20) rfl) <| L_op (.plain rfl) rfl (ltb rfl) (X_assign (v := (.int .i64 ((viewOf a0).2))) rfl) <| L_nil <| thn_n <| W_seq <| W_reg <| L_op (.plain rfl) rfl (ltb rfl) (X_move (v := v_a0) rfl) ?_
    obtain ⟨c22, H⟩ := bif_some H
    obtain ⟨c23, H⟩ := bif_some H
    refine L_callOS (.plain rfl) rfl (ltb rfl) rfl Tryz.call25 (laws_toRecordSS.calls (w := w18) (a0 := a0) (Rd2.ext f_a0 (Ext.trans (Ext.trans e7 e12) e19)) (of_decide_eq_true c22) (of_decide_eq_true c23)) rfl <| fun v26 w24 e25 o27 => L_op (.plain rfl) rfl (ltb rfl) (X_assign (v := v26) rfl) <| L_nil <| thn_n <| W_seq <| W_reg <| L_op (.plain rfl) rfl (ltb rfl) (X_move (v := v26) rfl) ?_
    obtain ⟨c28, H⟩ := bif_some H
    obtain ⟨c29, H⟩ := bif_some H
    obtain ⟨c30, H⟩ := bif_some H
    refine L_callT (.plain rfl) rfl (ltb rfl) rfl Tryz.call26 (impl_ViewOf.calls (w := w24) (a0 := a0) (GV.ext gv (Ext.trans (Ext.trans (Ext.trans e7 e12) e19) e25)) (Own2.rd o27) (of_decide_eq_true c28) (of_decide_eq_true c29) (of_decide_eq_true c30)) rfl <| fun v33 w31 e32 o34 => L_op (.plain rfl) rfl (ltb rfl) (X_move (v := (.tuple #[v33, (.int .i64 ((viewOf a0).2))])) rfl) <| L_op (.plain rfl) rfl (ltb rfl) (X_extract (v := v33) rfl rfl) <| L_op (.plain rfl) rfl (ltb rfl) (X_extract (v := (.int .i64 ((viewOf a0).2))) rfl rfl) <| L_op (.plain rfl) rfl (ltb rfl) (X_assign (v := v33) rfl) <| L_op (.plain rfl) rfl (ltb rfl) (X_assign (v := (.int .i64 ((viewOf a0).2))) rfl) <| L_nil <| thn_n <| W_seq <| W_seq <| W_reg <| L_op (.plain rfl) rfl (ltb rfl) (X_move (v := v33) rfl) <| L_op (.plain rfl) rfl (ltb rfl) (X_move (v := v20) rfl) ?_
    obtain ⟨c35, H⟩ := bif_some H
    refine L_callP (.plain rfl) rfl (ltb rfl) rfl Tryz.call22 (laws_eqNodeS.calls (w := w31) (a0 := (viewOf a0).1) (a1 := (viewOf a0).1) (Ow.rd o34) (Ow.rd (Ow.ext o21 (Ext.trans e25 e32))) (of_decide_eq_true c35)) rfl <| fun w36 e37 => L_op (.plain rfl) rfl (ltb rfl) (X_not rfl) <| L_op (.plain rfl) rfl (ltb rfl) (X_move (v := (.bool (!(decide (((viewOf a0).1) = ((viewOf a0).1)))))) rfl) <| L_grp 4 [(37, 41)] 40 (.bool ((!(decide (((viewOf a0).1) = ((viewOf a0).1)))) || (!decide (((viewOf a0).2) = ((viewOf a0).2))))) ?_ ?_
    · rcases bool_two (!(decide (((viewOf a0).1) = ((viewOf a0).1)))) with b37_ | b37_
      · exact L_skip rfl rfl (ltb rfl) (congrArg Value.bool b37_) rfl rfl (ltb rfl) <| L_skip rfl rfl (ltb rfl) (congrArg Value.bool b37_) rfl rfl (ltb rfl) <| L_skip rfl rfl (ltb rfl) (congrArg Value.bool b37_) rfl rfl (ltb rfl) <| L_op (.plain rfl) rfl (ltb rfl) (X_pick (b := true) (v := (.bool true)) (congrArg Value.bool b37_) rfl) <| L_nil <| thn_n ⟨(Kp.upd (Kp.upd (Kp.upd (Kp.upd (Kp.refl _ _) rfl) rfl) rfl) rfl), (or_t b37_), (Ext.refl w36)⟩
      · exact L_op (.guard 4 false 36 rfl rfl (ltb rfl) (congrArg Value.bool b37_)) rfl (ltb rfl) (X_move (v := (.int .i64 ((viewOf a0).2))) rfl) <| L_op (.guard 4 false 36 rfl rfl (ltb rfl) (congrArg Value.bool b37_)) rfl (ltb rfl) (X_move (v := (.int .i64 ((viewOf a0).2))) rfl) <| L_op (.guard 4 false 36 rfl rfl (ltb rfl) (congrArg Value.bool b37_)) rfl (ltb rfl) (X_neq rfl rfl) <| L_op (.plain rfl) rfl (ltb rfl) (X_pick (b := false) (v := (.bool (!decide (((viewOf a0).2) = ((viewOf a0).2))))) (congrArg Value.bool b37_) rfl) <| L_nil <| thn_n ⟨(Kp.upd (Kp.upd (Kp.upd (Kp.upd (Kp.refl _ _) rfl) rfl) rfl) rfl), (or_f b37_), (Ext.refl w36)⟩
    intro s43 w39 K40 h41 e42
    refine L_nil <| thn_n ?_
    rcases bif_two H with ⟨q44, H⟩ | ⟨q44, H⟩
    · refine W_true (h41.trans (congrArg Value.bool q44)) <| W_seq <| W_reg <| L_op (.plain rfl) rfl (ltb rfl) (X_assign (v := (.bool false)) rfl) <| L_nil <| thn_n <| W_ret <| thn_r <| fin_r ?_
      obtain rfl := Option.some.inj H
      exact fin1 rfl (Ext.trans (Ext.trans (Ext.trans (Ext.trans (Ext.trans (Ext.trans e7 e12) e19) e25) e32) e37) e42)
    · refine W_false (h41.trans (congrArg Value.bool q44)) <| W_skip <| thn_n <| W_seq <| W_seq <| W_reg <| L_op (.plain rfl) rfl (ltb rfl) (X_move (v := v26) (K40 6 rfl)) <| L_op (.plain rfl) rfl (ltb rfl) (X_move (v := v_a0) (K40 0 rfl)) ?_
      obtain ⟨c45, H⟩ := bif_some H
      obtain ⟨c46, H⟩ := bif_some H
      refine L_callOS (.plain rfl) rfl (ltb rfl) rfl Tryz.call25 (laws_toRecordSS.calls (w := w39) (a0 := a0) (Rd2.ext f_a0 (Ext.trans (Ext.trans (Ext.trans (Ext.trans (Ext.trans (Ext.trans e7 e12) e19) e25) e32) e37) e42)) (of_decide_eq_true c45) (of_decide_eq_true c46)) rfl <| fun v49 w47 e48 o50 => ?_
      obtain ⟨c51, H⟩ := bif_some H
      obtain ⟨c52, H⟩ := bif_some H
      refine L_callP (.plain rfl) rfl (ltb rfl) rfl Tryz.call27 (laws_eqRecordSS.calls (w := w47) (a0 := a0) (a1 := a0) (Own2.rd (Own2.ext o27 (Ext.trans (Ext.trans (Ext.trans e32 e37) e42) e48))) (Own2.rd o50) (of_decide_eq_true c51) (of_decide_eq_true c52)) rfl <| fun w53 e54 => L_op (.plain rfl) rfl (ltb rfl) (X_not rfl) <| L_nil <| thn_n ?_
      rcases bif_two H with ⟨q55, H⟩ | ⟨q55, H⟩
      · refine W_true (congrArg Value.bool q55) <| W_seq <| W_reg <| L_op (.plain rfl) rfl (ltb rfl) (X_assign (v := (.bool false)) rfl) <| L_nil <| thn_n <| W_ret <| thn_r <| fin_r ?_
        obtain rfl := Option.some.inj H
        exact fin1 rfl (Ext.trans (Ext.trans (Ext.trans (Ext.trans (Ext.trans (Ext.trans (Ext.trans (Ext.trans e7 e12) e19) e25) e32) e37) e42) e48) e54)
      · refine W_false (congrArg Value.bool q55) <| W_skip <| thn_n <| W_seq <| W_reg <| L_op (.plain rfl) rfl (ltb rfl) (X_assign (v := (.int .i64 1)) rfl) <| L_nil <| thn_n <| W_seq <| W_reg <| L_op (.plain rfl) rfl (ltb rfl) (X_move (v := v26) (K40 6 rfl)) <| L_op (.plain rfl) rfl (ltb rfl) (X_move (v := (.int .i64 1)) rfl) ?_
        obtain ⟨c56, H⟩ := bif_some H
        obtain ⟨c57, H⟩ := bif_some H
        obtain ⟨c58, H⟩ := bif_some H
        obtain ⟨c59, H⟩ := bif_some H
        refine L_callM2 (.plain rfl) rfl (ltb rfl) rfl Tryz.call28 (laws_markRecordSS.calls (w := w53) (a0 := a0) (a1 := 1) (Own2.ext o27 (Ext.trans (Ext.trans (Ext.trans (Ext.trans e32 e37) e42) e48) e54)) (Own2.hbx o27 (Ext.trans (Ext.trans (Ext.trans (Ext.trans e32 e37) e42) e48) e54)) (of_decide_eq_true c56) (of_decide_eq_true c57) (of_decide_eq_true c58) (of_decide_eq_true c59)) rfl <| fun w60 e61 o62 => L_op (.plain rfl) rfl (ltb rfl) (X_assign (v := (.int .i64 (1 + 5 * (totL a0 : Int)))) rfl) <| L_nil <| thn_n <| W_seq <| W_seq <| W_reg <| L_op (.plain rfl) rfl (ltb rfl) (X_move (v := (.int .i64 (1 + 5 * (totL a0 : Int)))) rfl) <| L_op (.plain rfl) rfl (ltb rfl) (X_lss rfl rfl) <| L_op (.plain rfl) rfl (ltb rfl) (X_move (v := (.bool (decide ((1 + 5 * (totL a0 : Int)) < 0)))) rfl) ?_
        obtain ⟨z64, x65, H⟩ := bind_some H
        refine L_grpE 5 [(52, 57)] 56 (fun q => q = z64) ?_ ?_
        · rcases bif_two x65 with ⟨b62_, H⟩ | ⟨b62_, H⟩
          · refine L_skip rfl rfl (ltb rfl) (congrArg Value.bool b62_) rfl rfl (ltb rfl) <| L_skip rfl rfl (ltb rfl) (congrArg Value.bool b62_) rfl rfl (ltb rfl) <| L_skip rfl rfl (ltb rfl) (congrArg Value.bool b62_) rfl rfl (ltb rfl) <| L_skip rfl rfl (ltb rfl) (congrArg Value.bool b62_) rfl rfl (ltb rfl) <| L_op (.plain rfl) rfl (ltb rfl) (X_pick (b := true) (v := (.bool true)) (congrArg Value.bool b62_) rfl) ?_
            obtain rfl := Option.some.inj H
            exact L_nil <| thn_n ⟨(Kp.upd (Kp.upd (Kp.upd (Kp.upd (Kp.upd (Kp.refl _ _) rfl) rfl) rfl) rfl) rfl), ⟨_, rfl, rfl⟩, (Ext.refl w60)⟩
          · refine L_op (.guard 2 false 51 rfl rfl (ltb rfl) (congrArg Value.bool b62_)) rfl (ltb rfl) (X_move (v := v33) (K40 7 rfl)) <| L_op (.guard 2 false 51 rfl rfl (ltb rfl) (congrArg Value.bool b62_)) rfl (ltb rfl) (X_move (v := v20) (K40 4 rfl)) ?_
            obtain ⟨c64, H⟩ := bif_some H
            refine L_callP (.guard 2 false 51 rfl rfl (ltb rfl) (congrArg Value.bool b62_)) rfl (ltb rfl) rfl Tryz.call22 (laws_eqNodeS.calls (w := w60) (a0 := (viewOf a0).1) (a1 := (viewOf a0).1) (Ow.rd (Ow.later (Ow.ext o34 (Ext.trans (Ext.trans (Ext.trans e37 e42) e48) e54)) e61 (Ext.refl w24).size)) (Ow.rd (Ow.ext o21 (Ext.gr (Ext.trans (Ext.trans (Ext.trans (Ext.trans (Ext.trans e25 e32) e37) e42) e48) e54) e61 (Ext.refl w18).size))) (of_decide_eq_true c64)) rfl <| fun w65 e66 => L_op (.guard 2 false 51 rfl rfl (ltb rfl) (congrArg Value.bool b62_)) rfl (ltb rfl) (X_not rfl) <| L_op (.plain rfl) rfl (ltb rfl) (X_pick (b := false) (v := (.bool (!(decide (((viewOf a0).1) = ((viewOf a0).1)))))) (congrArg Value.bool b62_) rfl) ?_
            obtain rfl := Option.some.inj H
            exact L_nil <| thn_n ⟨(Kp.upd (Kp.upd (Kp.upd (Kp.upd (Kp.upd (Kp.refl _ _) rfl) rfl) rfl) rfl) rfl), ⟨_, rfl, rfl⟩, e66⟩
        intro s70 w66 z71 K67 hq h68 e69
        rw [hq] at h68; clear hq
        refine L_op (.plain rfl) rfl (ltb rfl) (X_move (v := (.bool z64)) h68) <| L_grp 4 [(58, 62)] 61 (.bool (z64 || (!decide (((viewOf a0).2) = ((viewOf a0).2))))) ?_ ?_
        · rcases bool_two z64 with b71_ | b71_
          · exact L_skip rfl rfl (ltb rfl) (congrArg Value.bool b71_) rfl rfl (ltb rfl) <| L_skip rfl rfl (ltb rfl) (congrArg Value.bool b71_) rfl rfl (ltb rfl) <| L_skip rfl rfl (ltb rfl) (congrArg Value.bool b71_) rfl rfl (ltb rfl) <| L_op (.plain rfl) rfl (ltb rfl) (X_pick (b := true) (v := (.bool true)) (congrArg Value.bool b71_) rfl) <| L_nil <| thn_n ⟨(Kp.upd (Kp.upd (Kp.upd (Kp.upd (Kp.refl _ _) rfl) rfl) rfl) rfl), (or_t b71_), (Ext.refl w66)⟩
          · exact L_op (.guard 8 false 57 rfl rfl (ltb rfl) (congrArg Value.bool b71_)) rfl (ltb rfl) (X_move (v := (.int .i64 ((viewOf a0).2))) ((K67 8 rfl).trans (K40 8 rfl))) <| L_op (.guard 8 false 57 rfl rfl (ltb rfl) (congrArg Value.bool b71_)) rfl (ltb rfl) (X_move (v := (.int .i64 ((viewOf a0).2))) ((K67 5 rfl).trans (K40 5 rfl))) <| L_op (.guard 8 false 57 rfl rfl (ltb rfl) (congrArg Value.bool b71_)) rfl (ltb rfl) (X_neq rfl rfl) <| L_op (.plain rfl) rfl (ltb rfl) (X_pick (b := false) (v := (.bool (!decide (((viewOf a0).2) = ((viewOf a0).2))))) (congrArg Value.bool b71_) rfl) <| L_nil <| thn_n ⟨(Kp.upd (Kp.upd (Kp.upd (Kp.upd (Kp.refl _ _) rfl) rfl) rfl) rfl), (or_f b71_), (Ext.refl w66)⟩
        intro s77 w73 K74 h75 e76
        refine L_nil <| thn_n ?_
        rcases bif_two H with ⟨q78, H⟩ | ⟨q78, H⟩
        · refine W_true (h75.trans (congrArg Value.bool q78)) <| W_seq <| W_reg <| L_op (.plain rfl) rfl (ltb rfl) (X_assign (v := (.bool false)) rfl) <| L_nil <| thn_n <| W_ret <| thn_r <| fin_r ?_
          obtain rfl := Option.some.inj H
          exact fin1 rfl (Ext.trans (Ext.trans (Ext.trans (Ext.trans (Ext.trans e7 e12) e19) (Ext.gr (Ext.trans (Ext.trans (Ext.trans (Ext.trans (Ext.trans e25 e32) e37) e42) e48) e54) e61 (Ext.refl w18).size)) e69) e76)
        · refine W_false (h75.trans (congrArg Value.bool q78)) <| W_skip <| thn_n <| W_seq <| W_reg <| L_op (.plain rfl) rfl (ltb rfl) (X_assign (v := (.int .i64 1)) rfl) <| L_nil <| thn_n <| W_seq <| W_reg <| L_op (.plain rfl) rfl (ltb rfl) (X_move (v := v33) ((K74 7 rfl).trans ((K67 7 rfl).trans (K40 7 rfl)))) <| L_op (.plain rfl) rfl (ltb rfl) (X_move (v := (.int .i64 1)) rfl) ?_
          obtain ⟨c79, H⟩ := bif_some H
          obtain ⟨c80, H⟩ := bif_some H
          obtain ⟨c81, H⟩ := bif_some H
          refine L_callM (.plain rfl) rfl (ltb rfl) rfl Tryz.call29 (laws_markNodeS.calls (w := w73) (a0 := (viewOf a0).1) (a1 := 1) (Ow.ext (Ow.later (Ow.ext o34 (Ext.trans (Ext.trans (Ext.trans e37 e42) e48) e54)) e61 (Ext.refl w24).size) (Ext.trans e69 e76)) (Ow.hb o34) (of_decide_eq_true c79) (of_decide_eq_true c80) (of_decide_eq_true c81)) rfl <| fun w82 e83 o84 => L_op (.plain rfl) rfl (ltb rfl) (X_assign (v := (.int .i64 (1 + 4 * (((viewOf a0).1).length : Int)))) rfl) <| L_nil <| thn_n <| W_seq <| W_reg <| L_op (.plain rfl) rfl (ltb rfl) (X_assign (v := (.int .i64 1)) rfl) <| L_nil <| thn_n <| W_seq <| W_reg <| L_op (.plain rfl) rfl (ltb rfl) (X_move (v := v33) ((K74 7 rfl).trans ((K67 7 rfl).trans (K40 7 rfl)))) <| L_op (.plain rfl) rfl (ltb rfl) (X_move (v := (.int .i64 1)) rfl) ?_
          obtain ⟨c85, H⟩ := bif_some H
          obtain ⟨c86, H⟩ := bif_some H
          obtain ⟨c87, H⟩ := bif_some H
          refine L_callP (.plain rfl) rfl (ltb rfl) rfl Tryz.call30 (laws_heldNodeS.calls (w := w82) (a0 := (marksN ((viewOf a0).1).length 1)) (a1 := 1) (Ow.rd o84) (of_decide_eq_true c85) (of_decide_eq_true c86) (of_decide_eq_true c87)) rfl <| fun w88 e89 => L_op (.plain rfl) rfl (ltb rfl) (X_assign (v := (.int .i64 (heldN (marksN ((viewOf a0).1).length 1) 1))) rfl) <| L_nil <| thn_n <| W_seq <| W_seq <| W_reg <| L_op (.plain rfl) rfl (ltb rfl) (X_move (v := (.int .i64 (heldN (marksN ((viewOf a0).1).length 1) 1))) rfl) <| L_op (.plain rfl) rfl (ltb rfl) (X_lss rfl rfl) <| L_nil <| thn_n ?_
          rcases bif_two H with ⟨q90, H⟩ | ⟨q90, H⟩
          · refine W_true (congrArg Value.bool q90) <| W_seq <| W_reg <| L_op (.plain rfl) rfl (ltb rfl) (X_assign (v := (.bool false)) rfl) <| L_nil <| thn_n <| W_ret <| thn_r <| fin_r ?_
            obtain rfl := Option.some.inj H
            exact fin1 rfl (Ext.trans (Ext.trans (Ext.trans (Ext.trans e7 e12) e19) (Ext.gr (Ext.trans (Ext.trans (Ext.gr (Ext.trans (Ext.trans (Ext.trans (Ext.trans (Ext.trans e25 e32) e37) e42) e48) e54) e61 (Ext.refl w18).size) e69) e76) e83 e25.size)) e89)
          · refine W_false (congrArg Value.bool q90) <| W_skip <| thn_n <| W_seq <| W_seq <| W_reg <| L_op (.plain rfl) rfl (ltb rfl) (X_move (v := (.int .i64 (heldN (marksN ((viewOf a0).1).length 1) 1))) rfl) <| L_op (.plain rfl) rfl (ltb rfl) (X_move (v := (.int .i64 (1 + 4 * (((viewOf a0).1).length : Int)))) rfl) <| L_op (.plain rfl) rfl (ltb rfl) (X_neq rfl rfl) <| L_nil <| thn_n ?_
            rcases bif_two H with ⟨q91, H⟩ | ⟨q91, H⟩
            · refine W_true (congrArg Value.bool q91) <| W_seq <| W_reg <| L_op (.plain rfl) rfl (ltb rfl) (X_assign (v := (.bool false)) rfl) <| L_nil <| thn_n <| W_ret <| thn_r <| fin_r ?_
              obtain rfl := Option.some.inj H
              exact fin1 rfl (Ext.trans (Ext.trans (Ext.trans (Ext.trans e7 e12) e19) (Ext.gr (Ext.trans (Ext.trans (Ext.gr (Ext.trans (Ext.trans (Ext.trans (Ext.trans (Ext.trans e25 e32) e37) e42) e48) e54) e61 (Ext.refl w18).size) e69) e76) e83 e25.size)) e89)
            · refine W_false (congrArg Value.bool q91) <| W_skip <| thn_n <| W_seq <| W_reg <| L_op (.plain rfl) rfl (ltb rfl) (X_move (v := v_a0) ((K74 0 rfl).trans ((K67 0 rfl).trans (K40 0 rfl)))) ?_
              obtain ⟨c92, H⟩ := bif_some H
              obtain ⟨c93, H⟩ := bif_some H
              refine L_callOS (.plain rfl) rfl (ltb rfl) rfl Tryz.call25 (laws_toRecordSS.calls (w := w88) (a0 := a0) (Rd2.ext f_a0 (Ext.trans (Ext.trans (Ext.trans (Ext.trans e7 e12) e19) (Ext.gr (Ext.trans (Ext.trans (Ext.gr (Ext.trans (Ext.trans (Ext.trans (Ext.trans (Ext.trans e25 e32) e37) e42) e48) e54) e61 (Ext.refl w18).size) e69) e76) e83 e25.size)) e89)) (of_decide_eq_true c92) (of_decide_eq_true c93)) rfl <| fun v96 w94 e95 o97 => ?_
              obtain ⟨c98, H⟩ := bif_some H
              obtain ⟨c99, H⟩ := bif_some H
              obtain ⟨c100, H⟩ := bif_some H
              refine L_callT (.plain rfl) rfl (ltb rfl) rfl Tryz.call26 (impl_ViewOf.calls (w := w94) (a0 := a0) (GV.ext gv (Ext.trans (Ext.trans (Ext.trans (Ext.trans (Ext.trans e7 e12) e19) (Ext.gr (Ext.trans (Ext.trans (Ext.gr (Ext.trans (Ext.trans (Ext.trans (Ext.trans (Ext.trans e25 e32) e37) e42) e48) e54) e61 (Ext.refl w18).size) e69) e76) e83 e25.size)) e89) e95)) (Own2.rd o97) (of_decide_eq_true c98) (of_decide_eq_true c99) (of_decide_eq_true c100)) rfl <| fun v103 w101 e102 o104 => L_op (.plain rfl) rfl (ltb rfl) (X_move (v := (.tuple #[v103, (.int .i64 ((viewOf a0).2))])) rfl) <| L_op (.plain rfl) rfl (ltb rfl) (X_extract (v := v103) rfl rfl) <| L_op (.plain rfl) rfl (ltb rfl) (X_extract (v := (.int .i64 ((viewOf a0).2))) rfl rfl) <| L_op (.plain rfl) rfl (ltb rfl) (X_assign (v := v103) rfl) <| L_op (.plain rfl) rfl (ltb rfl) (X_assign (v := (.int .i64 ((viewOf a0).2))) rfl) <| L_nil <| thn_n <| W_seq <| W_seq <| W_reg <| L_op (.plain rfl) rfl (ltb rfl) (X_move (v := v103) rfl) <| L_op (.plain rfl) rfl (ltb rfl) (X_move (v := v20) ((K74 4 rfl).trans ((K67 4 rfl).trans (K40 4 rfl)))) ?_
              obtain ⟨c105, H⟩ := bif_some H
              refine L_callP (.plain rfl) rfl (ltb rfl) rfl Tryz.call22 (laws_eqNodeS.calls (w := w101) (a0 := (viewOf a0).1) (a1 := (viewOf a0).1) (Ow.rd o104) (Ow.rd (Ow.ext o21 (Ext.trans (Ext.trans (Ext.trans (Ext.gr (Ext.trans (Ext.trans (Ext.gr (Ext.trans (Ext.trans (Ext.trans (Ext.trans (Ext.trans e25 e32) e37) e42) e48) e54) e61 (Ext.refl w18).size) e69) e76) e83 e25.size) e89) e95) e102))) (of_decide_eq_true c105)) rfl <| fun w106 e107 => L_op (.plain rfl) rfl (ltb rfl) (X_not rfl) <| L_op (.plain rfl) rfl (ltb rfl) (X_move (v := (.bool (!(decide (((viewOf a0).1) = ((viewOf a0).1)))))) rfl) <| L_grp 4 [(84, 88)] 87 (.bool ((!(decide (((viewOf a0).1) = ((viewOf a0).1)))) || (!decide (((viewOf a0).2) = ((viewOf a0).2))))) ?_ ?_
              · rcases bool_two (!(decide (((viewOf a0).1) = ((viewOf a0).1)))) with b107_ | b107_
                · exact L_skip rfl rfl (ltb rfl) (congrArg Value.bool b107_) rfl rfl (ltb rfl) <| L_skip rfl rfl (ltb rfl) (congrArg Value.bool b107_) rfl rfl (ltb rfl) <| L_skip rfl rfl (ltb rfl) (congrArg Value.bool b107_) rfl rfl (ltb rfl) <| L_op (.plain rfl) rfl (ltb rfl) (X_pick (b := true) (v := (.bool true)) (congrArg Value.bool b107_) rfl) <| L_nil <| thn_n ⟨(Kp.upd (Kp.upd (Kp.upd (Kp.upd (Kp.refl _ _) rfl) rfl) rfl) rfl), (or_t b107_), (Ext.refl w106)⟩
                · exact L_op (.guard 4 false 83 rfl rfl (ltb rfl) (congrArg Value.bool b107_)) rfl (ltb rfl) (X_move (v := (.int .i64 ((viewOf a0).2))) rfl) <| L_op (.guard 4 false 83 rfl rfl (ltb rfl) (congrArg Value.bool b107_)) rfl (ltb rfl) (X_move (v := (.int .i64 ((viewOf a0).2))) ((K74 5 rfl).trans ((K67 5 rfl).trans (K40 5 rfl)))) <| L_op (.guard 4 false 83 rfl rfl (ltb rfl) (congrArg Value.bool b107_)) rfl (ltb rfl) (X_neq rfl rfl) <| L_op (.plain rfl) rfl (ltb rfl) (X_pick (b := false) (v := (.bool (!decide (((viewOf a0).2) = ((viewOf a0).2))))) (congrArg Value.bool b107_) rfl) <| L_nil <| thn_n ⟨(Kp.upd (Kp.upd (Kp.upd (Kp.upd (Kp.refl _ _) rfl) rfl) rfl) rfl), (or_f b107_), (Ext.refl w106)⟩
              intro s113 w109 K110 h111 e112
              refine L_nil <| thn_n ?_
              rcases bif_two H with ⟨q114, H⟩ | ⟨q114, H⟩
              · refine W_true (h111.trans (congrArg Value.bool q114)) <| W_seq <| W_reg <| L_op (.plain rfl) rfl (ltb rfl) (X_assign (v := (.bool false)) rfl) <| L_nil <| thn_n <| W_ret <| thn_r <| fin_r ?_
                obtain rfl := Option.some.inj H
                exact fin1 rfl (Ext.trans (Ext.trans (Ext.trans (Ext.trans (Ext.trans (Ext.trans (Ext.trans (Ext.trans e7 e12) e19) (Ext.gr (Ext.trans (Ext.trans (Ext.gr (Ext.trans (Ext.trans (Ext.trans (Ext.trans (Ext.trans e25 e32) e37) e42) e48) e54) e61 (Ext.refl w18).size) e69) e76) e83 e25.size)) e89) e95) e102) e107) e112)
              · refine W_false (h111.trans (congrArg Value.bool q114)) <| W_skip <| thn_n <| W_seq <| W_reg <| L_op (.plain rfl) rfl (ltb rfl) (X_assign (v := (.int .i64 1)) rfl) <| L_nil <| thn_n <| W_seq <| W_reg <| L_op (.plain rfl) rfl (ltb rfl) (X_move (v := v33) ((K110 7 rfl).trans ((K74 7 rfl).trans ((K67 7 rfl).trans (K40 7 rfl))))) <| L_op (.plain rfl) rfl (ltb rfl) (X_move (v := (.int .i64 1)) rfl) ?_
                obtain ⟨c115, H⟩ := bif_some H
                obtain ⟨c116, H⟩ := bif_some H
                obtain ⟨c117, H⟩ := bif_some H
                refine L_callP (.plain rfl) rfl (ltb rfl) rfl Tryz.call30 (laws_heldNodeS.calls (w := w109) (a0 := (marksN ((viewOf a0).1).length 1)) (a1 := 1) (Ow.rd (Ow.ext o84 (Ext.trans (Ext.trans (Ext.trans (Ext.trans e89 e95) e102) e107) e112))) (of_decide_eq_true c115) (of_decide_eq_true c116) (of_decide_eq_true c117)) rfl <| fun w118 e119 => L_op (.plain rfl) rfl (ltb rfl) (X_assign (v := (.int .i64 (heldN (marksN ((viewOf a0).1).length 1) 1))) rfl) <| L_nil <| thn_n <| W_seq <| W_seq <| W_reg <| L_op (.plain rfl) rfl (ltb rfl) (X_move (v := (.int .i64 (heldN (marksN ((viewOf a0).1).length 1) 1))) rfl) <| L_op (.plain rfl) rfl (ltb rfl) (X_lss rfl rfl) <| L_nil <| thn_n ?_
                rcases bif_two H with ⟨q120, H⟩ | ⟨q120, H⟩
                · refine W_true (congrArg Value.bool q120) <| W_seq <| W_reg <| L_op (.plain rfl) rfl (ltb rfl) (X_assign (v := (.bool false)) rfl) <| L_nil <| thn_n <| W_ret <| thn_r <| fin_r ?_
                  obtain rfl := Option.some.inj H
                  exact fin1 rfl (Ext.trans (Ext.trans (Ext.trans (Ext.trans (Ext.trans (Ext.trans (Ext.trans (Ext.trans (Ext.trans e7 e12) e19) (Ext.gr (Ext.trans (Ext.trans (Ext.gr (Ext.trans (Ext.trans (Ext.trans (Ext.trans (Ext.trans e25 e32) e37) e42) e48) e54) e61 (Ext.refl w18).size) e69) e76) e83 e25.size)) e89) e95) e102) e107) e112) e119)
                · refine W_false (congrArg Value.bool q120) <| W_skip <| thn_n <| W_seq <| W_seq <| W_reg <| L_op (.plain rfl) rfl (ltb rfl) (X_move (v := (.int .i64 (heldN (marksN ((viewOf a0).1).length 1) 1))) rfl) <| L_op (.plain rfl) rfl (ltb rfl) (X_move (v := (.int .i64 (1 + 4 * (((viewOf a0).1).length : Int)))) (K110 10 rfl)) <| L_op (.plain rfl) rfl (ltb rfl) (X_neq rfl rfl) <| L_nil <| thn_n ?_
                  rcases bif_two H with ⟨q121, H⟩ | ⟨q121, H⟩
                  · refine W_true (congrArg Value.bool q121) <| W_seq <| W_reg <| L_op (.plain rfl) rfl (ltb rfl) (X_assign (v := (.bool false)) rfl) <| L_nil <| thn_n <| W_ret <| thn_r <| fin_r ?_
                    obtain rfl := Option.some.inj H
                    exact fin1 rfl (Ext.trans (Ext.trans (Ext.trans (Ext.trans (Ext.trans (Ext.trans (Ext.trans (Ext.trans (Ext.trans e7 e12) e19) (Ext.gr (Ext.trans (Ext.trans (Ext.gr (Ext.trans (Ext.trans (Ext.trans (Ext.trans (Ext.trans e25 e32) e37) e42) e48) e54) e61 (Ext.refl w18).size) e69) e76) e83 e25.size)) e89) e95) e102) e107) e112) e119)
                  · refine W_false (congrArg Value.bool q121) <| W_skip <| thn_n <| W_seq <| W_reg <| L_op (.plain rfl) rfl (ltb rfl) (X_assign (v := (.bool true)) rfl) <| L_nil <| thn_n <| W_ret <| fin_r ?_
                    obtain rfl := Option.some.inj H
                    exact fin1 rfl (Ext.trans (Ext.trans (Ext.trans (Ext.trans (Ext.trans (Ext.trans (Ext.trans (Ext.trans (Ext.trans e7 e12) e19) (Ext.gr (Ext.trans (Ext.trans (Ext.gr (Ext.trans (Ext.trans (Ext.trans (Ext.trans (Ext.trans e25 e32) e37) e42) e48) e54) e61 (Ext.refl w18).size) e69) e76) e83 e25.size)) e89) e95) e102) e107) e112) e119)
theorem law_ViewOf.calls {w : World} {a0 : List (List Rec)} (gv : GV 0 w) {v_a0 : Value} (f_a0 : Rd2 5 encRec w v_a0 a0) (h0 : ∀ l ∈ a0, ∀ x ∈ l, okRec x) (h1 : a0.length ≤ 9223372036854775807) (h2 : ∀ l ∈ a0, l.length ≤ 9223372036854775807) :
    Calls Tryz.prog 4 #[v_a0] w (Rt (RP w (.bool true))) := law_ViewOf.walk gv f_a0 (law_ViewOf.eq a0 h0 h1 h2)
end Go.Proofs.YthpjkenkbfkdhaaGreatDoor
