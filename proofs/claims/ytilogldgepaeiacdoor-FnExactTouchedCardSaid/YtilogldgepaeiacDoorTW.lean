/- The walks, by program (wip/tools). -/
import Derived.Test.YtilogldgepaeiacDoorProg
import Derived.Test.YtilogldgepaeiacDoorTWA
set_option linter.unusedVariables false
set_option maxRecDepth 10000
namespace Go.Proofs.YtilogldgepaeiacDoor
open Go.UL Go.RowKit
/-! spec.l04OK -/
abbrev spec_l04OK.e1 (a0 : List Nd) (x3_2 : Int) := ((decide (((gt a0 x3_2).kind) = 4)) || (!(decide (recFault (recOf (gt a0 x3_2)) = 0))))
abbrev spec_l04OK.e2 (a0 : List Nd) (x3_2 : Int) := ((!(spec_l04OK.e1 a0 x3_2)) && (decide (0 < x3_2)))
abbrev spec_l04OK.e3 (a0 : List Nd) (x3_2 : Int) := (lessL (cut 47 ((gt a0 (IntKind.wrap .i64 (x3_2 - 1))).path)) (cut 47 ((gt a0 x3_2).path)))
theorem spec_l04OK.walk {k : Nat} {w : World} {a0 : List Nd} {v_a0 : Value} (f_a0 : Rd 4 encNd w v_a0 a0) {r : Bool} (H : spec_l04OK.sh k a0 = some r) :
    Calls Tryd.prog 34 #[v_a0] w (Rt (RP w (.bool r))) := by
  unfold spec_l04OK.sh at H
  refine calls_of_W Tryd.func34 rfl (Nat.le_of_ble_eq_true rfl) Tryd.ntmps34 rfl ?_
  refine W_seq <| W_reg <| L_op (.plain rfl) rfl (ltb rfl) (X_assign (v := (.bool false)) rfl) <| L_nil <| thn_n <| W_seq <| W_seq <| W_reg <| L_op (.plain rfl) rfl (ltb rfl) (X_move (v := v_a0) rfl) <| L_op (.plain rfl) rfl (ltb rfl) (X_lenR Tryd.underlying38 rfl f_a0) <| L_op (.plain rfl) rfl (ltb rfl) (X_gtr rfl rfl) <| L_nil <| thn_n ?_
  rcases bif_two H with ⟨q1, H⟩ | ⟨q1, H⟩
  · refine W_true (congrArg Value.bool q1) <| W_seq <| W_reg <| L_op (.plain rfl) rfl (ltb rfl) (X_assign (v := (.bool false)) rfl) <| L_nil <| thn_n <| W_ret <| thn_r <| fin_r ?_
    obtain rfl := Option.some.inj H
    exact fin1 rfl (Ext.refl w)
  · refine W_false (congrArg Value.bool q1) <| W_skip <| thn_n <| W_seq <| W_seq <| W_reg <| L_op (.plain rfl) rfl (ltb rfl) (X_assign (v := (.int .i64 0)) rfl) <| L_nil <| thn_n ?_
    obtain ⟨z3, L4, C5⟩ := bind_some H
    clear H
    refine  W_cutQ (fun s0 sQ wQ => Kp [(2, 6), (9, 72)] s0 sQ ∧ Ext w wQ ∧ z3 = .inr ()) ?_ ?_
    · refine W_block <| W_loopI (fun s0 kk sQ wQ => ∃ (x3_2 : Int), Kp [(2, 6), (9, 72)] s0 sQ ∧ sQ 3 = .int .i64 x3_2 ∧ Ext w wQ ∧ loopF (spec_l04OK.b1 a0) kk x3_2 = some z3) k ⟨0, (Kp.refl _ _), rfl, (Ext.refl w), L4⟩ ?_
      rintro k10 s11 w12 ⟨x3_2, K13, h16, e14, L15⟩
      cases k10 with
      | zero => exact absurd L15 (by simp [loopF])
      | succ k10 =>
        obtain ⟨t17, H, S18⟩ := loopF_succ L15
        clear L15
        unfold spec_l04OK.b1 at H
        refine W_seq <| W_seq <| W_reg <| L_op (.plain rfl) rfl (ltb rfl) (X_move (v := (.int .i64 x3_2)) h16) <| L_op (.plain rfl) rfl (ltb rfl) (X_move (v := v_a0) (K13 0 rfl)) <| L_op (.plain rfl) rfl (ltb rfl) (X_lenR Tryd.underlying38 rfl (Rd.ext f_a0 e14)) <| L_op (.plain rfl) rfl (ltb rfl) (X_lss rfl rfl) <| L_nil <| thn_n ?_
        rcases bif_two H with ⟨q19, H⟩ | ⟨q19, H⟩
        · refine W_true (congrArg Value.bool q19) <| W_skip <| thn_n <| W_seq <| W_block <| W_seq <| W_seq ?_
          obtain ⟨c20, H⟩ := bif_some H
          obtain ⟨c23, H⟩ := bif_some H
          obtain ⟨c30, H⟩ := bif_some H
          obtain ⟨c33, H⟩ := bif_some H
          obtain ⟨c36, H⟩ := bif_some H
          obtain ⟨c37, H⟩ := bif_some H
          refine W_drawM [LEq v_a0, LEq (.int .i64 x3_2), LAt0 (encNd (gt a0 x3_2)), LAt 0 (encNd (gt a0 x3_2)), LEq (.int .i64 ((gt a0 x3_2).kind)), LEq (.bool (decide (((gt a0 x3_2).kind) = 4))), LEq (.bool (decide (((gt a0 x3_2).kind) = 4))), LIf (!(decide (((gt a0 x3_2).kind) = 4))) (LEq v_a0), LIf (!(decide (((gt a0 x3_2).kind) = 4))) (LEq (.int .i64 x3_2)), LIf (!(decide (((gt a0 x3_2).kind) = 4))) (LAt0 (encNd (gt a0 x3_2))), LIf (!(decide (((gt a0 x3_2).kind) = 4))) (LEq (.agg (encNd (gt a0 x3_2)).toArray)), LIf (!(decide (((gt a0 x3_2).kind) = 4))) (LEq (.agg (encRec (recOf (gt a0 x3_2))).toArray)), LIf (!(decide (((gt a0 x3_2).kind) = 4))) (LEq (.bool (decide (recFault (recOf (gt a0 x3_2)) = 0)))), LIf (!(decide (((gt a0 x3_2).kind) = 4))) (LEq (.bool (!(decide (recFault (recOf (gt a0 x3_2)) = 0))))), LEq (.bool (spec_l04OK.e1 a0 x3_2)), LEq (.bool (spec_l04OK.e1 a0 x3_2)), LIf (!(spec_l04OK.e1 a0 x3_2)) (LEq (.int .i64 x3_2)), LIf (!(spec_l04OK.e1 a0 x3_2)) (LEq (.bool (decide (0 < x3_2)))), LIf (!(spec_l04OK.e1 a0 x3_2)) (LEq (.bool (decide (0 < x3_2)))), LIf (spec_l04OK.e2 a0 x3_2) (LEq v_a0), LIf (spec_l04OK.e2 a0 x3_2) (LEq (.int .i64 x3_2)), LIf (spec_l04OK.e2 a0 x3_2) (LEq (.int .i64 (IntKind.wrap .i64 (x3_2 - 1)))), LIf (spec_l04OK.e2 a0 x3_2) (LAt0 (encNd (gt a0 (IntKind.wrap .i64 (x3_2 - 1))))), LIf (spec_l04OK.e2 a0 x3_2) (LAt 1 (encNd (gt a0 (IntKind.wrap .i64 (x3_2 - 1))))), LIf (spec_l04OK.e2 a0 x3_2) (LEq (S ((gt a0 (IntKind.wrap .i64 (x3_2 - 1))).path))), LIf (spec_l04OK.e2 a0 x3_2) (LEq v_a0), LIf (spec_l04OK.e2 a0 x3_2) (LEq (.int .i64 x3_2)), LIf (spec_l04OK.e2 a0 x3_2) (LAt0 (encNd (gt a0 x3_2))), LIf (spec_l04OK.e2 a0 x3_2) (LAt 1 (encNd (gt a0 x3_2))), LIf (spec_l04OK.e2 a0 x3_2) (LEq (S ((gt a0 x3_2).path))), LIf (spec_l04OK.e2 a0 x3_2) (LEq (.bool (spec_l04OK.e3 a0 x3_2))), LIf (spec_l04OK.e2 a0 x3_2) (LEq (.bool (!(spec_l04OK.e3 a0 x3_2)))), LIf (!(spec_l04OK.e1 a0 x3_2)) (LEq (.bool ((decide (0 < x3_2)) && (!(spec_l04OK.e3 a0 x3_2))))), LEq (.bool ((spec_l04OK.e1 a0 x3_2) || ((decide (0 < x3_2)) && (!(spec_l04OK.e3 a0 x3_2)))))] (by kernel_rfl) (by kernel_rfl) ⟨LEq.mono, LEq.mono, LAt0.mono, LAt.mono, LEq.mono, LEq.mono, LEq.mono, (LIf.mono LEq.mono), (LIf.mono LEq.mono), (LIf.mono LAt0.mono), (LIf.mono LEq.mono), (LIf.mono LEq.mono), (LIf.mono LEq.mono), (LIf.mono LEq.mono), LEq.mono, LEq.mono, (LIf.mono LEq.mono), (LIf.mono LEq.mono), (LIf.mono LEq.mono), (LIf.mono LEq.mono), (LIf.mono LEq.mono), (LIf.mono LEq.mono), (LIf.mono LAt0.mono), (LIf.mono LAt.mono), (LIf.mono LEq.mono), (LIf.mono LEq.mono), (LIf.mono LEq.mono), (LIf.mono LAt0.mono), (LIf.mono LAt.mono), (LIf.mono LEq.mono), (LIf.mono LEq.mono), (LIf.mono LEq.mono), (LIf.mono LEq.mono), LEq.mono, trivial⟩ ⟨?_, ?_, ?_, ?_, ?_, ?_, ?_, ?_, ?_, ?_, ?_, ?_, ?_, ?_, ?_, ?_, ?_, ?_, ?_, ?_, ?_, ?_, ?_, ?_, ?_, ?_, ?_, ?_, ?_, ?_, ?_, ?_, ?_, ?_, trivial⟩ ?_
          · intro s40 w41 e42 hf43 hd44 hu45
            exact L_op (.plain rfl) rfl (ltb rfl) (X_move (v := v_a0) ((hf43 0 rfl).trans (K13 0 rfl))) <| L_nil <| stepEnd rfl rfl (Ext.refl w41) rfl
          · intro s46 w47 e48 hf49 hd50 hu51
            exact L_op (.plain rfl) rfl (ltb rfl) (X_move (v := (.int .i64 x3_2)) ((hf49 3 rfl).trans h16)) <| L_nil <| stepEnd rfl rfl (Ext.refl w47) rfl
          · intro s52 w53 e54 hf55 hd56 hu57
            have d58 : s52 15 = v_a0 := (hd56 0 rfl)
            have d59 : s52 16 = (.int .i64 x3_2) := (hd56 1 rfl)
            have c60 := c20
            exact L_idx (.plain rfl) rfl (ltb rfl) rfl Tryd.underlying38 Tryd.sizeOf42 d58 (Rd.ext f_a0 (Ext.trans e14 e54)) d59 c60 <| fun p61 h62 => L_nil <| stepEnd rfl rfl (Ext.refl w53) ⟨_, rfl, h62⟩
          · intro s63 w64 e65 hf66 hd67 hu68
            obtain ⟨p69, h70, h71⟩ := (hd67 2 rfl)
            exact L_op (.plain rfl) rfl (ltb rfl) (X_fieldAddr Tryd.underlying42 rfl Tryd.sizeOf3 rfl h70) <| L_nil <| stepEnd rfl rfl (Ext.refl w64) ⟨_, rfl, h71⟩
          · intro s72 w73 e74 hf75 hd76 hu77
            obtain ⟨p78, h79, h80⟩ := (hd76 3 rfl)
            exact L_op (.plain rfl) rfl (ltb rfl) (X_loadF Tryd.isAgg3 (j := 0) h80 h79 rfl) <| L_nil <| stepEnd rfl rfl (Ext.refl w73) rfl
          · intro s81 w82 e83 hf84 hd85 hu86
            have d87 : s81 19 = (.int .i64 ((gt a0 x3_2).kind)) := (hd85 4 rfl)
            exact L_op (.plain rfl) rfl (ltb rfl) (X_eql d87 rfl) <| L_nil <| stepEnd rfl rfl (Ext.refl w82) rfl
          · intro s88 w89 e90 hf91 hd92 hu93
            have d94 : s88 20 = (.bool (decide (((gt a0 x3_2).kind) = 4))) := (hd92 5 rfl)
            exact L_op (.plain rfl) rfl (ltb rfl) (X_move (v := (.bool (decide (((gt a0 x3_2).kind) = 4)))) d94) <| L_nil <| stepEnd rfl rfl (Ext.refl w89) rfl
          · intro s95 w96 e97 hf98 hd99 hu100
            rcases bool_two (!(decide (((gt a0 x3_2).kind) = 4))) with b101 | b101
            · have g102 : (decide (((gt a0 x3_2).kind) = 4)) = false := (not_f b101)
              have d103 : s95 21 = (.bool (decide (((gt a0 x3_2).kind) = 4))) := (hd99 6 rfl)
              have d104 : s95 21 = (.bool (decide (((gt a0 x3_2).kind) = 4))) := (hd99 6 rfl)
              exact L_op (.guard 6 false 21 rfl rfl (ltb rfl) (d103.trans (congrArg Value.bool g102))) rfl (ltb rfl) (X_move (v := v_a0) ((hf98 0 rfl).trans (K13 0 rfl))) <| L_nil <| stepEnd rfl rfl (Ext.refl w96) ⟨fun _ => rfl, fun h => absurd (b101.symm.trans h) (by decide)⟩
            · have d105 : s95 21 = (.bool (decide (((gt a0 x3_2).kind) = 4))) := (hd99 6 rfl)
              have g106 : (decide (((gt a0 x3_2).kind) = 4)) = true := (not_ff b101)
              exact L_skip rfl rfl (ltb rfl) (d105.trans (congrArg Value.bool g106)) rfl rfl (ltb rfl) <| L_nil <| stepEnd rfl rfl (Ext.refl w96) ⟨fun h => absurd (b101.symm.trans h) (by decide), fun _ => rfl⟩
          · intro s107 w108 e109 hf110 hd111 hu112
            rcases bool_two (!(decide (((gt a0 x3_2).kind) = 4))) with b113 | b113
            · have g114 : (decide (((gt a0 x3_2).kind) = 4)) = false := (not_f b113)
              have d115 : s107 21 = (.bool (decide (((gt a0 x3_2).kind) = 4))) := (hd111 6 rfl)
              have d116 : s107 21 = (.bool (decide (((gt a0 x3_2).kind) = 4))) := (hd111 6 rfl)
              exact L_op (.guard 6 false 21 rfl rfl (ltb rfl) (d115.trans (congrArg Value.bool g114))) rfl (ltb rfl) (X_move (v := (.int .i64 x3_2)) ((hf110 3 rfl).trans h16)) <| L_nil <| stepEnd rfl rfl (Ext.refl w108) ⟨fun _ => rfl, fun h => absurd (b113.symm.trans h) (by decide)⟩
            · have d117 : s107 21 = (.bool (decide (((gt a0 x3_2).kind) = 4))) := (hd111 6 rfl)
              have g118 : (decide (((gt a0 x3_2).kind) = 4)) = true := (not_ff b113)
              exact L_skip rfl rfl (ltb rfl) (d117.trans (congrArg Value.bool g118)) rfl rfl (ltb rfl) <| L_nil <| stepEnd rfl rfl (Ext.refl w108) ⟨fun h => absurd (b113.symm.trans h) (by decide), fun _ => rfl⟩
          · intro s119 w120 e121 hf122 hd123 hu124
            rcases bool_two (!(decide (((gt a0 x3_2).kind) = 4))) with b125 | b125
            · have g126 : (decide (((gt a0 x3_2).kind) = 4)) = false := (not_f b125)
              have d127 : s119 21 = (.bool (decide (((gt a0 x3_2).kind) = 4))) := (hd123 6 rfl)
              have d128 : s119 21 = (.bool (decide (((gt a0 x3_2).kind) = 4))) := (hd123 6 rfl)
              have d129 : s119 22 = v_a0 := ((hd123 7 rfl).1 (not_mk (not_f b125)))
              have d130 : s119 23 = (.int .i64 x3_2) := ((hd123 8 rfl).1 (not_mk (not_f b125)))
              have c131 := imp_take b125 c23
              exact L_idx (.guard 6 false 21 rfl rfl (ltb rfl) (d127.trans (congrArg Value.bool g126))) rfl (ltb rfl) rfl Tryd.underlying38 Tryd.sizeOf42 d129 (Rd.ext f_a0 (Ext.trans e14 e121)) d130 c131 <| fun p132 h133 => L_nil <| stepEnd rfl rfl (Ext.refl w120) ⟨fun _ => ⟨_, rfl, h133⟩, fun h => absurd (b125.symm.trans h) (by decide)⟩
            · have d134 : s119 21 = (.bool (decide (((gt a0 x3_2).kind) = 4))) := (hd123 6 rfl)
              have g135 : (decide (((gt a0 x3_2).kind) = 4)) = true := (not_ff b125)
              exact L_skip rfl rfl (ltb rfl) (d134.trans (congrArg Value.bool g135)) rfl rfl (ltb rfl) <| L_nil <| stepEnd rfl rfl (Ext.refl w120) ⟨fun h => absurd (b125.symm.trans h) (by decide), fun _ => rfl⟩
          · intro s136 w137 e138 hf139 hd140 hu141
            rcases bool_two (!(decide (((gt a0 x3_2).kind) = 4))) with b142 | b142
            · have g143 : (decide (((gt a0 x3_2).kind) = 4)) = false := (not_f b142)
              have d144 : s136 21 = (.bool (decide (((gt a0 x3_2).kind) = 4))) := (hd140 6 rfl)
              have d145 : s136 21 = (.bool (decide (((gt a0 x3_2).kind) = 4))) := (hd140 6 rfl)
              obtain ⟨p146, h147, h148⟩ := ((hd140 9 rfl).1 (not_mk (not_f b142)))
              exact L_op (.guard 6 false 21 rfl rfl (ltb rfl) (d144.trans (congrArg Value.bool g143))) rfl (ltb rfl) (X_loadS Tryd.isAgg42 Tryd.sizeOf42 rfl h147 h148) <| L_nil <| stepEnd rfl rfl (Ext.refl w137) ⟨fun _ => rfl, fun h => absurd (b142.symm.trans h) (by decide)⟩
            · have d149 : s136 21 = (.bool (decide (((gt a0 x3_2).kind) = 4))) := (hd140 6 rfl)
              have g150 : (decide (((gt a0 x3_2).kind) = 4)) = true := (not_ff b142)
              exact L_skip rfl rfl (ltb rfl) (d149.trans (congrArg Value.bool g150)) rfl rfl (ltb rfl) <| L_nil <| stepEnd rfl rfl (Ext.refl w137) ⟨fun h => absurd (b142.symm.trans h) (by decide), fun _ => rfl⟩
          · intro s151 w152 e153 hf154 hd155 hu156
            rcases bool_two (!(decide (((gt a0 x3_2).kind) = 4))) with b157 | b157
            · have g158 : (decide (((gt a0 x3_2).kind) = 4)) = false := (not_f b157)
              have d159 : s151 21 = (.bool (decide (((gt a0 x3_2).kind) = 4))) := (hd155 6 rfl)
              have d160 : s151 21 = (.bool (decide (((gt a0 x3_2).kind) = 4))) := (hd155 6 rfl)
              have d161 : s151 25 = (.agg (encNd (gt a0 x3_2)).toArray) := ((hd155 10 rfl).1 (not_mk (not_f b157)))
              exact L_callP (.guard 6 false 21 rfl rfl (ltb rfl) (d159.trans (congrArg Value.bool g158))) rfl (ltb rfl) rfl Tryd.call36 (spec_l04Record.calls (w := w152) (a0 := gt a0 x3_2)) (cons2 d161 rfl) <| fun w162 e163 => L_nil <| stepEnd rfl rfl e163 ⟨fun _ => rfl, fun h => absurd (b157.symm.trans h) (by decide)⟩
            · have d164 : s151 21 = (.bool (decide (((gt a0 x3_2).kind) = 4))) := (hd155 6 rfl)
              have g165 : (decide (((gt a0 x3_2).kind) = 4)) = true := (not_ff b157)
              exact L_skip rfl rfl (ltb rfl) (d164.trans (congrArg Value.bool g165)) rfl rfl (ltb rfl) <| L_nil <| stepEnd rfl rfl (Ext.refl w152) ⟨fun h => absurd (b157.symm.trans h) (by decide), fun _ => rfl⟩
          · intro s166 w167 e168 hf169 hd170 hu171
            rcases bool_two (!(decide (((gt a0 x3_2).kind) = 4))) with b172 | b172
            · have g173 : (decide (((gt a0 x3_2).kind) = 4)) = false := (not_f b172)
              have d174 : s166 21 = (.bool (decide (((gt a0 x3_2).kind) = 4))) := (hd170 6 rfl)
              have d175 : s166 21 = (.bool (decide (((gt a0 x3_2).kind) = 4))) := (hd170 6 rfl)
              have d176 : s166 26 = (.agg (encRec (recOf (gt a0 x3_2))).toArray) := ((hd170 11 rfl).1 (not_mk (not_f b172)))
              exact L_callP (.guard 6 false 21 rfl rfl (ltb rfl) (d174.trans (congrArg Value.bool g173))) rfl (ltb rfl) rfl Tryd.call35 (spec_l02OK.calls (w := w167) (a0 := (recOf (gt a0 x3_2)))) (cons2 d176 rfl) <| fun w177 e178 => L_nil <| stepEnd rfl rfl e178 ⟨fun _ => rfl, fun h => absurd (b172.symm.trans h) (by decide)⟩
            · have d179 : s166 21 = (.bool (decide (((gt a0 x3_2).kind) = 4))) := (hd170 6 rfl)
              have g180 : (decide (((gt a0 x3_2).kind) = 4)) = true := (not_ff b172)
              exact L_skip rfl rfl (ltb rfl) (d179.trans (congrArg Value.bool g180)) rfl rfl (ltb rfl) <| L_nil <| stepEnd rfl rfl (Ext.refl w167) ⟨fun h => absurd (b172.symm.trans h) (by decide), fun _ => rfl⟩
          · intro s181 w182 e183 hf184 hd185 hu186
            rcases bool_two (!(decide (((gt a0 x3_2).kind) = 4))) with b187 | b187
            · have g188 : (decide (((gt a0 x3_2).kind) = 4)) = false := (not_f b187)
              have d189 : s181 21 = (.bool (decide (((gt a0 x3_2).kind) = 4))) := (hd185 6 rfl)
              have d190 : s181 21 = (.bool (decide (((gt a0 x3_2).kind) = 4))) := (hd185 6 rfl)
              have d191 : s181 27 = (.bool (decide (recFault (recOf (gt a0 x3_2)) = 0))) := ((hd185 12 rfl).1 (not_mk (not_f b187)))
              exact L_op (.guard 6 false 21 rfl rfl (ltb rfl) (d189.trans (congrArg Value.bool g188))) rfl (ltb rfl) (X_not d191) <| L_nil <| stepEnd rfl rfl (Ext.refl w182) ⟨fun _ => rfl, fun h => absurd (b187.symm.trans h) (by decide)⟩
            · have d192 : s181 21 = (.bool (decide (((gt a0 x3_2).kind) = 4))) := (hd185 6 rfl)
              have g193 : (decide (((gt a0 x3_2).kind) = 4)) = true := (not_ff b187)
              exact L_skip rfl rfl (ltb rfl) (d192.trans (congrArg Value.bool g193)) rfl rfl (ltb rfl) <| L_nil <| stepEnd rfl rfl (Ext.refl w182) ⟨fun h => absurd (b187.symm.trans h) (by decide), fun _ => rfl⟩
          · intro s194 w195 e196 hf197 hd198 hu199
            rcases bool_two (decide (((gt a0 x3_2).kind) = 4)) with b200 | b200
            · have d201 : s194 21 = (.bool (decide (((gt a0 x3_2).kind) = 4))) := (hd198 6 rfl)
              exact L_op (.plain rfl) rfl (ltb rfl) (X_pick (b := true) (v := (.bool true)) (d201.trans (congrArg Value.bool b200)) rfl) <| L_nil <| stepEnd rfl rfl (Ext.refl w195) (or_t b200)
            · have d202 : s194 21 = (.bool (decide (((gt a0 x3_2).kind) = 4))) := (hd198 6 rfl)
              have d203 : s194 28 = (.bool (!(decide (recFault (recOf (gt a0 x3_2)) = 0)))) := ((hd198 13 rfl).1 (not_mk b200))
              exact L_op (.plain rfl) rfl (ltb rfl) (X_pick (b := false) (v := (.bool (!(decide (recFault (recOf (gt a0 x3_2)) = 0))))) (d202.trans (congrArg Value.bool b200)) d203) <| L_nil <| stepEnd rfl rfl (Ext.refl w195) (or_f b200)
          · intro s204 w205 e206 hf207 hd208 hu209
            have d210 : s204 29 = (.bool (spec_l04OK.e1 a0 x3_2)) := (hd208 14 rfl)
            exact L_op (.plain rfl) rfl (ltb rfl) (X_move d210) <| L_nil <| stepEnd rfl rfl (Ext.refl w205) rfl
          · intro s211 w212 e213 hf214 hd215 hu216
            rcases bool_two (!(spec_l04OK.e1 a0 x3_2)) with b217 | b217
            · have g218 : (spec_l04OK.e1 a0 x3_2) = false := (not_f b217)
              have d219 : s211 30 = (.bool (spec_l04OK.e1 a0 x3_2)) := (hd215 15 rfl)
              have d220 : s211 30 = (.bool (spec_l04OK.e1 a0 x3_2)) := (hd215 15 rfl)
              exact L_op (.guard 15 false 30 rfl rfl (ltb rfl) (d219.trans (congrArg Value.bool g218))) rfl (ltb rfl) (X_move (v := (.int .i64 x3_2)) ((hf214 3 rfl).trans h16)) <| L_nil <| stepEnd rfl rfl (Ext.refl w212) ⟨fun _ => rfl, fun h => absurd (b217.symm.trans h) (by decide)⟩
            · have d221 : s211 30 = (.bool (spec_l04OK.e1 a0 x3_2)) := (hd215 15 rfl)
              have g222 : (spec_l04OK.e1 a0 x3_2) = true := (not_ff b217)
              exact L_skip rfl rfl (ltb rfl) (d221.trans (congrArg Value.bool g222)) rfl rfl (ltb rfl) <| L_nil <| stepEnd rfl rfl (Ext.refl w212) ⟨fun h => absurd (b217.symm.trans h) (by decide), fun _ => rfl⟩
          · intro s223 w224 e225 hf226 hd227 hu228
            rcases bool_two (!(spec_l04OK.e1 a0 x3_2)) with b229 | b229
            · have g230 : (spec_l04OK.e1 a0 x3_2) = false := (not_f b229)
              have d231 : s223 30 = (.bool (spec_l04OK.e1 a0 x3_2)) := (hd227 15 rfl)
              have d232 : s223 30 = (.bool (spec_l04OK.e1 a0 x3_2)) := (hd227 15 rfl)
              have d233 : s223 31 = (.int .i64 x3_2) := ((hd227 16 rfl).1 (not_mk (not_f b229)))
              exact L_op (.guard 15 false 30 rfl rfl (ltb rfl) (d231.trans (congrArg Value.bool g230))) rfl (ltb rfl) (X_gtr d233 rfl) <| L_nil <| stepEnd rfl rfl (Ext.refl w224) ⟨fun _ => rfl, fun h => absurd (b229.symm.trans h) (by decide)⟩
            · have d234 : s223 30 = (.bool (spec_l04OK.e1 a0 x3_2)) := (hd227 15 rfl)
              have g235 : (spec_l04OK.e1 a0 x3_2) = true := (not_ff b229)
              exact L_skip rfl rfl (ltb rfl) (d234.trans (congrArg Value.bool g235)) rfl rfl (ltb rfl) <| L_nil <| stepEnd rfl rfl (Ext.refl w224) ⟨fun h => absurd (b229.symm.trans h) (by decide), fun _ => rfl⟩
          · intro s236 w237 e238 hf239 hd240 hu241
            rcases bool_two (!(spec_l04OK.e1 a0 x3_2)) with b242 | b242
            · have g243 : (spec_l04OK.e1 a0 x3_2) = false := (not_f b242)
              have d244 : s236 30 = (.bool (spec_l04OK.e1 a0 x3_2)) := (hd240 15 rfl)
              have d245 : s236 30 = (.bool (spec_l04OK.e1 a0 x3_2)) := (hd240 15 rfl)
              have d246 : s236 32 = (.bool (decide (0 < x3_2))) := ((hd240 17 rfl).1 (not_mk (not_f b242)))
              exact L_op (.guard 15 false 30 rfl rfl (ltb rfl) (d244.trans (congrArg Value.bool g243))) rfl (ltb rfl) (X_move (v := (.bool (decide (0 < x3_2)))) d246) <| L_nil <| stepEnd rfl rfl (Ext.refl w237) ⟨fun _ => rfl, fun h => absurd (b242.symm.trans h) (by decide)⟩
            · have d247 : s236 30 = (.bool (spec_l04OK.e1 a0 x3_2)) := (hd240 15 rfl)
              have g248 : (spec_l04OK.e1 a0 x3_2) = true := (not_ff b242)
              exact L_skip rfl rfl (ltb rfl) (d247.trans (congrArg Value.bool g248)) rfl rfl (ltb rfl) <| L_nil <| stepEnd rfl rfl (Ext.refl w237) ⟨fun h => absurd (b242.symm.trans h) (by decide), fun _ => rfl⟩
          · intro s249 w250 e251 hf252 hd253 hu254
            rcases bool_two (spec_l04OK.e2 a0 x3_2) with b255 | b255
            · have g256 : (decide (0 < x3_2)) = true := (and_r b255)
              have d257 : s249 33 = (.bool (decide (0 < x3_2))) := ((hd253 18 rfl).1 (not_mk (not_f (and_l b255))))
              have d258 : s249 33 = (.bool (decide (0 < x3_2))) := ((hd253 18 rfl).1 (not_mk (not_f (and_l b255))))
              exact L_op (.guard 18 true 33 rfl rfl (ltb rfl) (d257.trans (congrArg Value.bool g256))) rfl (ltb rfl) (X_move (v := v_a0) ((hf252 0 rfl).trans (K13 0 rfl))) <| L_nil <| stepEnd rfl rfl (Ext.refl w250) ⟨fun _ => rfl, fun h => absurd (b255.symm.trans h) (by decide)⟩
            · rcases bool_two (!(spec_l04OK.e1 a0 x3_2)) with b259 | b259
              · have d260 : s249 33 = (.bool (decide (0 < x3_2))) := ((hd253 18 rfl).1 (not_mk (not_f b259)))
                have g261 : (decide (0 < x3_2)) = false := (and_fr b255 b259)
                exact L_skip rfl rfl (ltb rfl) (d260.trans (congrArg Value.bool g261)) rfl rfl (ltb rfl) <| L_nil <| stepEnd rfl rfl (Ext.refl w250) ⟨fun h => absurd (b255.symm.trans h) (by decide), fun _ => rfl⟩
              · exact L_skipU rfl rfl (ltb rfl) ((hd253 18 rfl).2 b259) rfl (ltb rfl) <| L_nil <| stepEnd rfl rfl (Ext.refl w250) ⟨fun h => absurd (b255.symm.trans h) (by decide), fun _ => rfl⟩
          · intro s262 w263 e264 hf265 hd266 hu267
            rcases bool_two (spec_l04OK.e2 a0 x3_2) with b268 | b268
            · have g269 : (decide (0 < x3_2)) = true := (and_r b268)
              have d270 : s262 33 = (.bool (decide (0 < x3_2))) := ((hd266 18 rfl).1 (not_mk (not_f (and_l b268))))
              have d271 : s262 33 = (.bool (decide (0 < x3_2))) := ((hd266 18 rfl).1 (not_mk (not_f (and_l b268))))
              exact L_op (.guard 18 true 33 rfl rfl (ltb rfl) (d270.trans (congrArg Value.bool g269))) rfl (ltb rfl) (X_move (v := (.int .i64 x3_2)) ((hf265 3 rfl).trans h16)) <| L_nil <| stepEnd rfl rfl (Ext.refl w263) ⟨fun _ => rfl, fun h => absurd (b268.symm.trans h) (by decide)⟩
            · rcases bool_two (!(spec_l04OK.e1 a0 x3_2)) with b272 | b272
              · have d273 : s262 33 = (.bool (decide (0 < x3_2))) := ((hd266 18 rfl).1 (not_mk (not_f b272)))
                have g274 : (decide (0 < x3_2)) = false := (and_fr b268 b272)
                exact L_skip rfl rfl (ltb rfl) (d273.trans (congrArg Value.bool g274)) rfl rfl (ltb rfl) <| L_nil <| stepEnd rfl rfl (Ext.refl w263) ⟨fun h => absurd (b268.symm.trans h) (by decide), fun _ => rfl⟩
              · exact L_skipU rfl rfl (ltb rfl) ((hd266 18 rfl).2 b272) rfl (ltb rfl) <| L_nil <| stepEnd rfl rfl (Ext.refl w263) ⟨fun h => absurd (b268.symm.trans h) (by decide), fun _ => rfl⟩
          · intro s275 w276 e277 hf278 hd279 hu280
            rcases bool_two (spec_l04OK.e2 a0 x3_2) with b281 | b281
            · have g282 : (decide (0 < x3_2)) = true := (and_r b281)
              have d283 : s275 33 = (.bool (decide (0 < x3_2))) := ((hd279 18 rfl).1 (not_mk (not_f (and_l b281))))
              have d284 : s275 33 = (.bool (decide (0 < x3_2))) := ((hd279 18 rfl).1 (not_mk (not_f (and_l b281))))
              have d285 : s275 35 = (.int .i64 x3_2) := ((hd279 20 rfl).1 (and_mk (not_mk (not_f (and_l b281))) (and_r b281)))
              exact L_op (.guard 18 true 33 rfl rfl (ltb rfl) (d283.trans (congrArg Value.bool g282))) rfl (ltb rfl) (X_sub d285 rfl) <| L_nil <| stepEnd rfl rfl (Ext.refl w276) ⟨fun _ => rfl, fun h => absurd (b281.symm.trans h) (by decide)⟩
            · rcases bool_two (!(spec_l04OK.e1 a0 x3_2)) with b286 | b286
              · have d287 : s275 33 = (.bool (decide (0 < x3_2))) := ((hd279 18 rfl).1 (not_mk (not_f b286)))
                have g288 : (decide (0 < x3_2)) = false := (and_fr b281 b286)
                exact L_skip rfl rfl (ltb rfl) (d287.trans (congrArg Value.bool g288)) rfl rfl (ltb rfl) <| L_nil <| stepEnd rfl rfl (Ext.refl w276) ⟨fun h => absurd (b281.symm.trans h) (by decide), fun _ => rfl⟩
              · exact L_skipU rfl rfl (ltb rfl) ((hd279 18 rfl).2 b286) rfl (ltb rfl) <| L_nil <| stepEnd rfl rfl (Ext.refl w276) ⟨fun h => absurd (b281.symm.trans h) (by decide), fun _ => rfl⟩
          · intro s289 w290 e291 hf292 hd293 hu294
            rcases bool_two (spec_l04OK.e2 a0 x3_2) with b295 | b295
            · have g296 : (decide (0 < x3_2)) = true := (and_r b295)
              have d297 : s289 33 = (.bool (decide (0 < x3_2))) := ((hd293 18 rfl).1 (not_mk (not_f (and_l b295))))
              have d298 : s289 33 = (.bool (decide (0 < x3_2))) := ((hd293 18 rfl).1 (not_mk (not_f (and_l b295))))
              have d299 : s289 34 = v_a0 := ((hd293 19 rfl).1 (and_mk (not_mk (not_f (and_l b295))) (and_r b295)))
              have d300 : s289 36 = (.int .i64 (IntKind.wrap .i64 (x3_2 - 1))) := ((hd293 21 rfl).1 (and_mk (not_mk (not_f (and_l b295))) (and_r b295)))
              have c301 := imp_take b295 c30
              exact L_idx (.guard 18 true 33 rfl rfl (ltb rfl) (d297.trans (congrArg Value.bool g296))) rfl (ltb rfl) rfl Tryd.underlying38 Tryd.sizeOf42 d299 (Rd.ext f_a0 (Ext.trans e14 e291)) d300 c301 <| fun p302 h303 => L_nil <| stepEnd rfl rfl (Ext.refl w290) ⟨fun _ => ⟨_, rfl, h303⟩, fun h => absurd (b295.symm.trans h) (by decide)⟩
            · rcases bool_two (!(spec_l04OK.e1 a0 x3_2)) with b304 | b304
              · have d305 : s289 33 = (.bool (decide (0 < x3_2))) := ((hd293 18 rfl).1 (not_mk (not_f b304)))
                have g306 : (decide (0 < x3_2)) = false := (and_fr b295 b304)
                exact L_skip rfl rfl (ltb rfl) (d305.trans (congrArg Value.bool g306)) rfl rfl (ltb rfl) <| L_nil <| stepEnd rfl rfl (Ext.refl w290) ⟨fun h => absurd (b295.symm.trans h) (by decide), fun _ => rfl⟩
              · exact L_skipU rfl rfl (ltb rfl) ((hd293 18 rfl).2 b304) rfl (ltb rfl) <| L_nil <| stepEnd rfl rfl (Ext.refl w290) ⟨fun h => absurd (b295.symm.trans h) (by decide), fun _ => rfl⟩
          · intro s307 w308 e309 hf310 hd311 hu312
            rcases bool_two (spec_l04OK.e2 a0 x3_2) with b313 | b313
            · have g314 : (decide (0 < x3_2)) = true := (and_r b313)
              have d315 : s307 33 = (.bool (decide (0 < x3_2))) := ((hd311 18 rfl).1 (not_mk (not_f (and_l b313))))
              have d316 : s307 33 = (.bool (decide (0 < x3_2))) := ((hd311 18 rfl).1 (not_mk (not_f (and_l b313))))
              obtain ⟨p317, h318, h319⟩ := ((hd311 22 rfl).1 (and_mk (not_mk (not_f (and_l b313))) (and_r b313)))
              exact L_op (.guard 18 true 33 rfl rfl (ltb rfl) (d315.trans (congrArg Value.bool g314))) rfl (ltb rfl) (X_fieldAddr Tryd.underlying42 rfl Tryd.sizeOf9 rfl h318) <| L_nil <| stepEnd rfl rfl (Ext.refl w308) ⟨fun _ => ⟨_, rfl, h319⟩, fun h => absurd (b313.symm.trans h) (by decide)⟩
            · rcases bool_two (!(spec_l04OK.e1 a0 x3_2)) with b320 | b320
              · have d321 : s307 33 = (.bool (decide (0 < x3_2))) := ((hd311 18 rfl).1 (not_mk (not_f b320)))
                have g322 : (decide (0 < x3_2)) = false := (and_fr b313 b320)
                exact L_skip rfl rfl (ltb rfl) (d321.trans (congrArg Value.bool g322)) rfl rfl (ltb rfl) <| L_nil <| stepEnd rfl rfl (Ext.refl w308) ⟨fun h => absurd (b313.symm.trans h) (by decide), fun _ => rfl⟩
              · exact L_skipU rfl rfl (ltb rfl) ((hd311 18 rfl).2 b320) rfl (ltb rfl) <| L_nil <| stepEnd rfl rfl (Ext.refl w308) ⟨fun h => absurd (b313.symm.trans h) (by decide), fun _ => rfl⟩
          · intro s323 w324 e325 hf326 hd327 hu328
            rcases bool_two (spec_l04OK.e2 a0 x3_2) with b329 | b329
            · have g330 : (decide (0 < x3_2)) = true := (and_r b329)
              have d331 : s323 33 = (.bool (decide (0 < x3_2))) := ((hd327 18 rfl).1 (not_mk (not_f (and_l b329))))
              have d332 : s323 33 = (.bool (decide (0 < x3_2))) := ((hd327 18 rfl).1 (not_mk (not_f (and_l b329))))
              obtain ⟨p333, h334, h335⟩ := ((hd327 23 rfl).1 (and_mk (not_mk (not_f (and_l b329))) (and_r b329)))
              exact L_op (.guard 18 true 33 rfl rfl (ltb rfl) (d331.trans (congrArg Value.bool g330))) rfl (ltb rfl) (X_loadF Tryd.isAgg9 (j := 1) h335 h334 rfl) <| L_nil <| stepEnd rfl rfl (Ext.refl w324) ⟨fun _ => rfl, fun h => absurd (b329.symm.trans h) (by decide)⟩
            · rcases bool_two (!(spec_l04OK.e1 a0 x3_2)) with b336 | b336
              · have d337 : s323 33 = (.bool (decide (0 < x3_2))) := ((hd327 18 rfl).1 (not_mk (not_f b336)))
                have g338 : (decide (0 < x3_2)) = false := (and_fr b329 b336)
                exact L_skip rfl rfl (ltb rfl) (d337.trans (congrArg Value.bool g338)) rfl rfl (ltb rfl) <| L_nil <| stepEnd rfl rfl (Ext.refl w324) ⟨fun h => absurd (b329.symm.trans h) (by decide), fun _ => rfl⟩
              · exact L_skipU rfl rfl (ltb rfl) ((hd327 18 rfl).2 b336) rfl (ltb rfl) <| L_nil <| stepEnd rfl rfl (Ext.refl w324) ⟨fun h => absurd (b329.symm.trans h) (by decide), fun _ => rfl⟩
          · intro s339 w340 e341 hf342 hd343 hu344
            rcases bool_two (spec_l04OK.e2 a0 x3_2) with b345 | b345
            · have g346 : (decide (0 < x3_2)) = true := (and_r b345)
              have d347 : s339 33 = (.bool (decide (0 < x3_2))) := ((hd343 18 rfl).1 (not_mk (not_f (and_l b345))))
              have d348 : s339 33 = (.bool (decide (0 < x3_2))) := ((hd343 18 rfl).1 (not_mk (not_f (and_l b345))))
              exact L_op (.guard 18 true 33 rfl rfl (ltb rfl) (d347.trans (congrArg Value.bool g346))) rfl (ltb rfl) (X_move (v := v_a0) ((hf342 0 rfl).trans (K13 0 rfl))) <| L_nil <| stepEnd rfl rfl (Ext.refl w340) ⟨fun _ => rfl, fun h => absurd (b345.symm.trans h) (by decide)⟩
            · rcases bool_two (!(spec_l04OK.e1 a0 x3_2)) with b349 | b349
              · have d350 : s339 33 = (.bool (decide (0 < x3_2))) := ((hd343 18 rfl).1 (not_mk (not_f b349)))
                have g351 : (decide (0 < x3_2)) = false := (and_fr b345 b349)
                exact L_skip rfl rfl (ltb rfl) (d350.trans (congrArg Value.bool g351)) rfl rfl (ltb rfl) <| L_nil <| stepEnd rfl rfl (Ext.refl w340) ⟨fun h => absurd (b345.symm.trans h) (by decide), fun _ => rfl⟩
              · exact L_skipU rfl rfl (ltb rfl) ((hd343 18 rfl).2 b349) rfl (ltb rfl) <| L_nil <| stepEnd rfl rfl (Ext.refl w340) ⟨fun h => absurd (b345.symm.trans h) (by decide), fun _ => rfl⟩
          · intro s352 w353 e354 hf355 hd356 hu357
            rcases bool_two (spec_l04OK.e2 a0 x3_2) with b358 | b358
            · have g359 : (decide (0 < x3_2)) = true := (and_r b358)
              have d360 : s352 33 = (.bool (decide (0 < x3_2))) := ((hd356 18 rfl).1 (not_mk (not_f (and_l b358))))
              have d361 : s352 33 = (.bool (decide (0 < x3_2))) := ((hd356 18 rfl).1 (not_mk (not_f (and_l b358))))
              exact L_op (.guard 18 true 33 rfl rfl (ltb rfl) (d360.trans (congrArg Value.bool g359))) rfl (ltb rfl) (X_move (v := (.int .i64 x3_2)) ((hf355 3 rfl).trans h16)) <| L_nil <| stepEnd rfl rfl (Ext.refl w353) ⟨fun _ => rfl, fun h => absurd (b358.symm.trans h) (by decide)⟩
            · rcases bool_two (!(spec_l04OK.e1 a0 x3_2)) with b362 | b362
              · have d363 : s352 33 = (.bool (decide (0 < x3_2))) := ((hd356 18 rfl).1 (not_mk (not_f b362)))
                have g364 : (decide (0 < x3_2)) = false := (and_fr b358 b362)
                exact L_skip rfl rfl (ltb rfl) (d363.trans (congrArg Value.bool g364)) rfl rfl (ltb rfl) <| L_nil <| stepEnd rfl rfl (Ext.refl w353) ⟨fun h => absurd (b358.symm.trans h) (by decide), fun _ => rfl⟩
              · exact L_skipU rfl rfl (ltb rfl) ((hd356 18 rfl).2 b362) rfl (ltb rfl) <| L_nil <| stepEnd rfl rfl (Ext.refl w353) ⟨fun h => absurd (b358.symm.trans h) (by decide), fun _ => rfl⟩
          · intro s365 w366 e367 hf368 hd369 hu370
            rcases bool_two (spec_l04OK.e2 a0 x3_2) with b371 | b371
            · have g372 : (decide (0 < x3_2)) = true := (and_r b371)
              have d373 : s365 33 = (.bool (decide (0 < x3_2))) := ((hd369 18 rfl).1 (not_mk (not_f (and_l b371))))
              have d374 : s365 33 = (.bool (decide (0 < x3_2))) := ((hd369 18 rfl).1 (not_mk (not_f (and_l b371))))
              have d375 : s365 40 = v_a0 := ((hd369 25 rfl).1 (and_mk (not_mk (not_f (and_l b371))) (and_r b371)))
              have d376 : s365 41 = (.int .i64 x3_2) := ((hd369 26 rfl).1 (and_mk (not_mk (not_f (and_l b371))) (and_r b371)))
              have c377 := imp_take b371 c33
              exact L_idx (.guard 18 true 33 rfl rfl (ltb rfl) (d373.trans (congrArg Value.bool g372))) rfl (ltb rfl) rfl Tryd.underlying38 Tryd.sizeOf42 d375 (Rd.ext f_a0 (Ext.trans e14 e367)) d376 c377 <| fun p378 h379 => L_nil <| stepEnd rfl rfl (Ext.refl w366) ⟨fun _ => ⟨_, rfl, h379⟩, fun h => absurd (b371.symm.trans h) (by decide)⟩
            · rcases bool_two (!(spec_l04OK.e1 a0 x3_2)) with b380 | b380
              · have d381 : s365 33 = (.bool (decide (0 < x3_2))) := ((hd369 18 rfl).1 (not_mk (not_f b380)))
                have g382 : (decide (0 < x3_2)) = false := (and_fr b371 b380)
                exact L_skip rfl rfl (ltb rfl) (d381.trans (congrArg Value.bool g382)) rfl rfl (ltb rfl) <| L_nil <| stepEnd rfl rfl (Ext.refl w366) ⟨fun h => absurd (b371.symm.trans h) (by decide), fun _ => rfl⟩
              · exact L_skipU rfl rfl (ltb rfl) ((hd369 18 rfl).2 b380) rfl (ltb rfl) <| L_nil <| stepEnd rfl rfl (Ext.refl w366) ⟨fun h => absurd (b371.symm.trans h) (by decide), fun _ => rfl⟩
          · intro s383 w384 e385 hf386 hd387 hu388
            rcases bool_two (spec_l04OK.e2 a0 x3_2) with b389 | b389
            · have g390 : (decide (0 < x3_2)) = true := (and_r b389)
              have d391 : s383 33 = (.bool (decide (0 < x3_2))) := ((hd387 18 rfl).1 (not_mk (not_f (and_l b389))))
              have d392 : s383 33 = (.bool (decide (0 < x3_2))) := ((hd387 18 rfl).1 (not_mk (not_f (and_l b389))))
              obtain ⟨p393, h394, h395⟩ := ((hd387 27 rfl).1 (and_mk (not_mk (not_f (and_l b389))) (and_r b389)))
              exact L_op (.guard 18 true 33 rfl rfl (ltb rfl) (d391.trans (congrArg Value.bool g390))) rfl (ltb rfl) (X_fieldAddr Tryd.underlying42 rfl Tryd.sizeOf9 rfl h394) <| L_nil <| stepEnd rfl rfl (Ext.refl w384) ⟨fun _ => ⟨_, rfl, h395⟩, fun h => absurd (b389.symm.trans h) (by decide)⟩
            · rcases bool_two (!(spec_l04OK.e1 a0 x3_2)) with b396 | b396
              · have d397 : s383 33 = (.bool (decide (0 < x3_2))) := ((hd387 18 rfl).1 (not_mk (not_f b396)))
                have g398 : (decide (0 < x3_2)) = false := (and_fr b389 b396)
                exact L_skip rfl rfl (ltb rfl) (d397.trans (congrArg Value.bool g398)) rfl rfl (ltb rfl) <| L_nil <| stepEnd rfl rfl (Ext.refl w384) ⟨fun h => absurd (b389.symm.trans h) (by decide), fun _ => rfl⟩
              · exact L_skipU rfl rfl (ltb rfl) ((hd387 18 rfl).2 b396) rfl (ltb rfl) <| L_nil <| stepEnd rfl rfl (Ext.refl w384) ⟨fun h => absurd (b389.symm.trans h) (by decide), fun _ => rfl⟩
          · intro s399 w400 e401 hf402 hd403 hu404
            rcases bool_two (spec_l04OK.e2 a0 x3_2) with b405 | b405
            · have g406 : (decide (0 < x3_2)) = true := (and_r b405)
              have d407 : s399 33 = (.bool (decide (0 < x3_2))) := ((hd403 18 rfl).1 (not_mk (not_f (and_l b405))))
              have d408 : s399 33 = (.bool (decide (0 < x3_2))) := ((hd403 18 rfl).1 (not_mk (not_f (and_l b405))))
              obtain ⟨p409, h410, h411⟩ := ((hd403 28 rfl).1 (and_mk (not_mk (not_f (and_l b405))) (and_r b405)))
              exact L_op (.guard 18 true 33 rfl rfl (ltb rfl) (d407.trans (congrArg Value.bool g406))) rfl (ltb rfl) (X_loadF Tryd.isAgg9 (j := 1) h411 h410 rfl) <| L_nil <| stepEnd rfl rfl (Ext.refl w400) ⟨fun _ => rfl, fun h => absurd (b405.symm.trans h) (by decide)⟩
            · rcases bool_two (!(spec_l04OK.e1 a0 x3_2)) with b412 | b412
              · have d413 : s399 33 = (.bool (decide (0 < x3_2))) := ((hd403 18 rfl).1 (not_mk (not_f b412)))
                have g414 : (decide (0 < x3_2)) = false := (and_fr b405 b412)
                exact L_skip rfl rfl (ltb rfl) (d413.trans (congrArg Value.bool g414)) rfl rfl (ltb rfl) <| L_nil <| stepEnd rfl rfl (Ext.refl w400) ⟨fun h => absurd (b405.symm.trans h) (by decide), fun _ => rfl⟩
              · exact L_skipU rfl rfl (ltb rfl) ((hd403 18 rfl).2 b412) rfl (ltb rfl) <| L_nil <| stepEnd rfl rfl (Ext.refl w400) ⟨fun h => absurd (b405.symm.trans h) (by decide), fun _ => rfl⟩
          · intro s415 w416 e417 hf418 hd419 hu420
            rcases bool_two (spec_l04OK.e2 a0 x3_2) with b421 | b421
            · have g422 : (decide (0 < x3_2)) = true := (and_r b421)
              have d423 : s415 33 = (.bool (decide (0 < x3_2))) := ((hd419 18 rfl).1 (not_mk (not_f (and_l b421))))
              have d424 : s415 33 = (.bool (decide (0 < x3_2))) := ((hd419 18 rfl).1 (not_mk (not_f (and_l b421))))
              have d425 : s415 39 = (S ((gt a0 (IntKind.wrap .i64 (x3_2 - 1))).path)) := ((hd419 24 rfl).1 (and_mk (not_mk (not_f (and_l b421))) (and_r b421)))
              have d426 : s415 44 = (S ((gt a0 x3_2).path)) := ((hd419 29 rfl).1 (and_mk (not_mk (not_f (and_l b421))) (and_r b421)))
              have c427 := imp_take b421 c36
              have c428 := imp_take b421 c37
              exact L_callP (.guard 18 true 33 rfl rfl (ltb rfl) (d423.trans (congrArg Value.bool g422))) rfl (ltb rfl) rfl Tryd.call53 (spec_l01Less.calls (w := w416) (a0 := (gt a0 (IntKind.wrap .i64 (x3_2 - 1))).path) (a1 := (gt a0 x3_2).path) (of_decide_eq_true c427) (of_decide_eq_true c428)) (cons2 d425 (cons2 d426 rfl)) <| fun w429 e430 => L_nil <| stepEnd rfl rfl e430 ⟨fun _ => rfl, fun h => absurd (b421.symm.trans h) (by decide)⟩
            · rcases bool_two (!(spec_l04OK.e1 a0 x3_2)) with b431 | b431
              · have d432 : s415 33 = (.bool (decide (0 < x3_2))) := ((hd419 18 rfl).1 (not_mk (not_f b431)))
                have g433 : (decide (0 < x3_2)) = false := (and_fr b421 b431)
                exact L_skip rfl rfl (ltb rfl) (d432.trans (congrArg Value.bool g433)) rfl rfl (ltb rfl) <| L_nil <| stepEnd rfl rfl (Ext.refl w416) ⟨fun h => absurd (b421.symm.trans h) (by decide), fun _ => rfl⟩
              · exact L_skipU rfl rfl (ltb rfl) ((hd419 18 rfl).2 b431) rfl (ltb rfl) <| L_nil <| stepEnd rfl rfl (Ext.refl w416) ⟨fun h => absurd (b421.symm.trans h) (by decide), fun _ => rfl⟩
          · intro s434 w435 e436 hf437 hd438 hu439
            rcases bool_two (spec_l04OK.e2 a0 x3_2) with b440 | b440
            · have g441 : (decide (0 < x3_2)) = true := (and_r b440)
              have d442 : s434 33 = (.bool (decide (0 < x3_2))) := ((hd438 18 rfl).1 (not_mk (not_f (and_l b440))))
              have d443 : s434 33 = (.bool (decide (0 < x3_2))) := ((hd438 18 rfl).1 (not_mk (not_f (and_l b440))))
              have d444 : s434 45 = (.bool (spec_l04OK.e3 a0 x3_2)) := ((hd438 30 rfl).1 (and_mk (not_mk (not_f (and_l b440))) (and_r b440)))
              exact L_op (.guard 18 true 33 rfl rfl (ltb rfl) (d442.trans (congrArg Value.bool g441))) rfl (ltb rfl) (X_not d444) <| L_nil <| stepEnd rfl rfl (Ext.refl w435) ⟨fun _ => rfl, fun h => absurd (b440.symm.trans h) (by decide)⟩
            · rcases bool_two (!(spec_l04OK.e1 a0 x3_2)) with b445 | b445
              · have d446 : s434 33 = (.bool (decide (0 < x3_2))) := ((hd438 18 rfl).1 (not_mk (not_f b445)))
                have g447 : (decide (0 < x3_2)) = false := (and_fr b440 b445)
                exact L_skip rfl rfl (ltb rfl) (d446.trans (congrArg Value.bool g447)) rfl rfl (ltb rfl) <| L_nil <| stepEnd rfl rfl (Ext.refl w435) ⟨fun h => absurd (b440.symm.trans h) (by decide), fun _ => rfl⟩
              · exact L_skipU rfl rfl (ltb rfl) ((hd438 18 rfl).2 b445) rfl (ltb rfl) <| L_nil <| stepEnd rfl rfl (Ext.refl w435) ⟨fun h => absurd (b440.symm.trans h) (by decide), fun _ => rfl⟩
          · intro s448 w449 e450 hf451 hd452 hu453
            rcases bool_two (!(spec_l04OK.e1 a0 x3_2)) with b454 | b454
            · have g455 : (spec_l04OK.e1 a0 x3_2) = false := (not_f b454)
              have d456 : s448 30 = (.bool (spec_l04OK.e1 a0 x3_2)) := (hd452 15 rfl)
              rcases bool_two (decide (0 < x3_2)) with b457 | b457
              · have d458 : s448 33 = (.bool (decide (0 < x3_2))) := ((hd452 18 rfl).1 (not_mk (not_f b454)))
                have d459 : s448 46 = (.bool (!(spec_l04OK.e3 a0 x3_2))) := ((hd452 31 rfl).1 (and_mk (not_mk (not_f b454)) b457))
                exact L_op (.guard 15 false 30 rfl rfl (ltb rfl) (d456.trans (congrArg Value.bool g455))) rfl (ltb rfl) (X_pick (b := true) (v := (.bool (!(spec_l04OK.e3 a0 x3_2)))) (d458.trans (congrArg Value.bool b457)) d459) <| L_nil <| stepEnd rfl rfl (Ext.refl w449) ⟨fun _ => (and_t b457), fun h => absurd (b454.symm.trans h) (by decide)⟩
              · have d460 : s448 33 = (.bool (decide (0 < x3_2))) := ((hd452 18 rfl).1 (not_mk (not_f b454)))
                exact L_op (.guard 15 false 30 rfl rfl (ltb rfl) (d456.trans (congrArg Value.bool g455))) rfl (ltb rfl) (X_pick (b := false) (v := (.bool false)) (d460.trans (congrArg Value.bool b457)) rfl) <| L_nil <| stepEnd rfl rfl (Ext.refl w449) ⟨fun _ => (and_f b457), fun h => absurd (b454.symm.trans h) (by decide)⟩
            · have d461 : s448 30 = (.bool (spec_l04OK.e1 a0 x3_2)) := (hd452 15 rfl)
              have g462 : (spec_l04OK.e1 a0 x3_2) = true := (not_ff b454)
              exact L_skip rfl rfl (ltb rfl) (d461.trans (congrArg Value.bool g462)) rfl rfl (ltb rfl) <| L_nil <| stepEnd rfl rfl (Ext.refl w449) ⟨fun h => absurd (b454.symm.trans h) (by decide), fun _ => rfl⟩
          · intro s463 w464 e465 hf466 hd467 hu468
            rcases bool_two (spec_l04OK.e1 a0 x3_2) with b469 | b469
            · have d470 : s463 30 = (.bool (spec_l04OK.e1 a0 x3_2)) := (hd467 15 rfl)
              exact L_op (.plain rfl) rfl (ltb rfl) (X_pick (b := true) (v := (.bool true)) (d470.trans (congrArg Value.bool b469)) rfl) <| L_nil <| stepEnd rfl rfl (Ext.refl w464) (or_t b469)
            · have d471 : s463 30 = (.bool (spec_l04OK.e1 a0 x3_2)) := (hd467 15 rfl)
              have d472 : s463 47 = (.bool ((decide (0 < x3_2)) && (!(spec_l04OK.e3 a0 x3_2)))) := ((hd467 32 rfl).1 (not_mk b469))
              exact L_op (.plain rfl) rfl (ltb rfl) (X_pick (b := false) (v := (.bool ((decide (0 < x3_2)) && (!(spec_l04OK.e3 a0 x3_2))))) (d471.trans (congrArg Value.bool b469)) d472) <| L_nil <| stepEnd rfl rfl (Ext.refl w464) (or_f b469)
          intro s473 w474 e475 hf476 ha477
          have K478 := Kp.ofD (kp := [(15, 49)]) rfl hf476
          have d479 : s473 48 = (.bool ((spec_l04OK.e1 a0 x3_2) || ((decide (0 < x3_2)) && (!(spec_l04OK.e3 a0 x3_2))))) := ha477 33 rfl
          clear ha477 hf476
          refine thn_n ?_
          rcases bif_two H with ⟨q480, H⟩ | ⟨q480, H⟩
          · refine W_true (d479.trans (congrArg Value.bool q480)) <| W_seq <| W_reg <| L_op (.plain rfl) rfl (ltb rfl) (X_assign (v := (.bool false)) rfl) <| L_nil <| thn_n <| W_ret <| thn_r <| blk_r <| thn_r <| thn_r <| blk_r <| thn_r <| thn_r <| fin_r ?_
            obtain rfl := Option.some.inj H
            obtain rfl := Option.some.inj S18
            have H := C5
            obtain rfl := Option.some.inj H
            exact fin1 rfl (Ext.trans e14 e475)
          · refine W_false (d479.trans (congrArg Value.bool q480)) <| W_skip <| thn_n <| W_seq <| W_reg <| L_op (.plain rfl) rfl (ltb rfl) (X_move (v := v_a0) ((K478 0 rfl).trans (K13 0 rfl))) <| L_op (.plain rfl) rfl (ltb rfl) (X_move (v := (.int .i64 x3_2)) ((K478 3 rfl).trans h16)) ?_
            obtain ⟨c481, H⟩ := bif_some H
            refine L_idx (.plain rfl) rfl (ltb rfl) rfl Tryd.underlying38 Tryd.sizeOf42 rfl (Rd.ext f_a0 (Ext.trans e14 e475)) rfl c481 <| fun p482 h483 => L_op (.plain rfl) rfl (ltb rfl) (X_fieldAddr Tryd.underlying42 rfl Tryd.sizeOf9 rfl rfl) <| L_op (.plain rfl) rfl (ltb rfl) (X_loadF Tryd.isAgg9 (j := 1) h483 rfl rfl) ?_
            obtain ⟨c484, H⟩ := bif_some H
            refine L_callP (.plain rfl) rfl (ltb rfl) rfl Tryd.call38 (spec_l01Parent.calls (w := w474) (a0 := (gt a0 x3_2).path) (of_decide_eq_true c484)) rfl <| fun w485 e486 => L_op (.plain rfl) rfl (ltb rfl) (X_assign (v := (S (parentP ((gt a0 x3_2).path)))) rfl) <| L_nil <| thn_n <| W_seq <| W_reg <| L_op (.plain rfl) rfl (ltb rfl) (X_move (v := (S (parentP ((gt a0 x3_2).path)))) rfl) <| L_op (.plain rfl) rfl (ltb rfl) (X_sne rfl rfl) <| L_nil <| thn_n ?_
            rcases bif_two H with ⟨q487, H⟩ | ⟨q487, H⟩
            · refine W_true (congrArg Value.bool q487) <| W_seq <| W_reg <| L_op (.plain rfl) rfl (ltb rfl) (X_move (v := v_a0) ((K478 0 rfl).trans (K13 0 rfl))) <| L_op (.plain rfl) rfl (ltb rfl) (X_move (v := (.int .i64 x3_2)) ((K478 3 rfl).trans h16)) ?_
              obtain ⟨c488, H⟩ := bif_some H
              refine L_sub (.plain rfl) rfl (ltb rfl) rfl Tryd.underlying38 Tryd.sizeOf42 rfl (Rd.ext f_a0 (Ext.trans (Ext.trans e14 e475) e486)) (l := 0) (h := x3_2) rfl ⟨_, rfl⟩ c488 <| fun v489 h490 => L_op (.plain rfl) rfl (ltb rfl) (X_move (v := (S (parentP ((gt a0 x3_2).path)))) rfl) ?_
              obtain ⟨c491, H⟩ := bif_some H
              refine L_callP (.plain rfl) rfl (ltb rfl) rfl Tryd.call39 (spec_l04At.calls (w := w485) (a0 := sub a0 0 x3_2) (a1 := (parentP ((gt a0 x3_2).path))) h490 (of_decide_eq_true c491)) rfl <| fun w492 e493 => L_op (.plain rfl) rfl (ltb rfl) (X_assign (v := (.int .i64 (findN (sub a0 0 x3_2) (parentP ((gt a0 x3_2).path))))) rfl) <| L_nil <| thn_n <| W_seq <| W_reg <| L_op (.plain rfl) rfl (ltb rfl) (X_move (v := (.int .i64 (findN (sub a0 0 x3_2) (parentP ((gt a0 x3_2).path))))) rfl) <| L_op (.plain rfl) rfl (ltb rfl) (X_lss rfl rfl) <| L_op (.plain rfl) rfl (ltb rfl) (X_move rfl) ?_
              obtain ⟨z495, x496, H⟩ := bind_some H
              refine L_grpE 7 [(65, 72)] 71 (fun q => q = z495) ?_ ?_
              · rcases bif_two x496 with ⟨b493_, H⟩ | ⟨b493_, H⟩
                · refine L_skip rfl rfl (ltb rfl) (congrArg Value.bool b493_) rfl rfl (ltb rfl) <| L_skip rfl rfl (ltb rfl) (congrArg Value.bool b493_) rfl rfl (ltb rfl) <| L_skip rfl rfl (ltb rfl) (congrArg Value.bool b493_) rfl rfl (ltb rfl) <| L_skip rfl rfl (ltb rfl) (congrArg Value.bool b493_) rfl rfl (ltb rfl) <| L_skip rfl rfl (ltb rfl) (congrArg Value.bool b493_) rfl rfl (ltb rfl) <| L_skip rfl rfl (ltb rfl) (congrArg Value.bool b493_) rfl rfl (ltb rfl) <| L_op (.plain rfl) rfl (ltb rfl) (X_pick (b := true) (v := (.bool true)) (congrArg Value.bool b493_) rfl) ?_
                  obtain rfl := Option.some.inj H
                  exact L_nil <| thn_n ⟨(Kp.upd (Kp.upd (Kp.upd (Kp.upd (Kp.upd (Kp.upd (Kp.upd (Kp.refl _ _) rfl) rfl) rfl) rfl) rfl) rfl) rfl), ⟨_, rfl, rfl⟩, (Ext.refl w492)⟩
                · refine L_op (.guard 2 false 64 rfl rfl (ltb rfl) (congrArg Value.bool b493_)) rfl (ltb rfl) (X_move (v := v_a0) ((K478 0 rfl).trans (K13 0 rfl))) <| L_op (.guard 2 false 64 rfl rfl (ltb rfl) (congrArg Value.bool b493_)) rfl (ltb rfl) (X_move (v := (.int .i64 (findN (sub a0 0 x3_2) (parentP ((gt a0 x3_2).path))))) rfl) ?_
                  obtain ⟨c495, H⟩ := bif_some H
                  refine L_idx (.guard 2 false 64 rfl rfl (ltb rfl) (congrArg Value.bool b493_)) rfl (ltb rfl) rfl Tryd.underlying38 Tryd.sizeOf42 rfl (Rd.ext f_a0 (Ext.trans (Ext.trans (Ext.trans e14 e475) e486) e493)) rfl c495 <| fun p496 h497 => L_op (.guard 2 false 64 rfl rfl (ltb rfl) (congrArg Value.bool b493_)) rfl (ltb rfl) (X_fieldAddr Tryd.underlying42 rfl Tryd.sizeOf3 rfl rfl) <| L_op (.guard 2 false 64 rfl rfl (ltb rfl) (congrArg Value.bool b493_)) rfl (ltb rfl) (X_loadF Tryd.isAgg3 (j := 0) h497 rfl rfl) <| L_op (.guard 2 false 64 rfl rfl (ltb rfl) (congrArg Value.bool b493_)) rfl (ltb rfl) (X_neq rfl rfl) <| L_op (.plain rfl) rfl (ltb rfl) (X_pick (b := false) (v := (.bool (!decide (((gt a0 (findN (sub a0 0 x3_2) (parentP ((gt a0 x3_2).path)))).kind) = 3)))) (congrArg Value.bool b493_) rfl) ?_
                  obtain rfl := Option.some.inj H
                  exact L_nil <| thn_n ⟨(Kp.upd (Kp.upd (Kp.upd (Kp.upd (Kp.upd (Kp.upd (Kp.upd (Kp.refl _ _) rfl) rfl) rfl) rfl) rfl) rfl) rfl), ⟨_, rfl, rfl⟩, (Ext.refl w492)⟩
              intro s501 w497 z502 K498 hq h499 e500
              rw [hq] at h499; clear hq
              refine L_nil <| thn_n ?_
              rcases bif_two H with ⟨q503, H⟩ | ⟨q503, H⟩
              · refine W_true (h499.trans (congrArg Value.bool q503)) <| W_seq <| W_reg <| L_op (.plain rfl) rfl (ltb rfl) (X_assign (v := (.bool false)) rfl) <| L_nil <| thn_n <| W_ret <| blk_r <| thn_r <| thn_r <| blk_r <| thn_r <| thn_r <| fin_r ?_
                obtain rfl := Option.some.inj H
                obtain rfl := Option.some.inj S18
                have H := C5
                obtain rfl := Option.some.inj H
                exact fin1 rfl (Ext.trans (Ext.trans (Ext.trans (Ext.trans e14 e475) e486) e493) e500)
              · refine W_false (h499.trans (congrArg Value.bool q503)) <| W_skip <| blk_n <| thn_n <| W_reg <| L_op (.plain rfl) rfl (ltb rfl) (X_move (v := (.int .i64 x3_2)) ((K498 3 rfl).trans ((K478 3 rfl).trans h16))) <| L_op (.plain rfl) rfl (ltb rfl) (X_add rfl rfl) <| L_op (.plain rfl) rfl (ltb rfl) (X_assign (v := (.int .i64 (IntKind.wrap .i64 (x3_2 + 1)))) rfl) <| L_nil <| thn_n ?_
                obtain rfl := Option.some.inj H
                exact ⟨_, Nat.lt_succ_self _, IntKind.wrap .i64 (x3_2 + 1), (Kp.upd (Kp.upd (Kp.upd (Kp.cut (Kp.upd (Kp.upd (Kp.upd (Kp.upd (Kp.upd (Kp.upd (Kp.upd (Kp.upd (Kp.upd (Kp.upd (Kp.upd (Kp.upd (Kp.upd (Kp.upd (Kp.upd (Kp.upd (Kp.upd (Kp.upd (Kp.cut (Kp.upd (Kp.upd (Kp.upd (Kp.upd K13 rfl) rfl) rfl) rfl) K478 rfl) rfl) rfl) rfl) rfl) rfl) rfl) rfl) rfl) rfl) rfl) rfl) rfl) rfl) rfl) rfl) rfl) rfl) rfl) K498 rfl) rfl) rfl) rfl), rfl, (Ext.trans (Ext.trans (Ext.trans (Ext.trans e14 e475) e486) e493) e500), S18⟩
            · refine W_false (congrArg Value.bool q487) <| W_skip <| blk_n <| thn_n <| W_reg <| L_op (.plain rfl) rfl (ltb rfl) (X_move (v := (.int .i64 x3_2)) ((K478 3 rfl).trans h16)) <| L_op (.plain rfl) rfl (ltb rfl) (X_add rfl rfl) <| L_op (.plain rfl) rfl (ltb rfl) (X_assign (v := (.int .i64 (IntKind.wrap .i64 (x3_2 + 1)))) rfl) <| L_nil <| thn_n ?_
              obtain rfl := Option.some.inj H
              exact ⟨_, Nat.lt_succ_self _, IntKind.wrap .i64 (x3_2 + 1), (Kp.upd (Kp.upd (Kp.upd (Kp.upd (Kp.upd (Kp.upd (Kp.upd (Kp.upd (Kp.upd (Kp.upd (Kp.upd (Kp.upd (Kp.cut (Kp.upd (Kp.upd (Kp.upd (Kp.upd K13 rfl) rfl) rfl) rfl) K478 rfl) rfl) rfl) rfl) rfl) rfl) rfl) rfl) rfl) rfl) rfl) rfl) rfl), rfl, (Ext.trans (Ext.trans e14 e475) e486), S18⟩
        · refine W_false (congrArg Value.bool q19) <| W_exit <| thn_x <| thn_x <| blk_x <| thn_n ?_
          obtain rfl := Option.some.inj H
          obtain rfl := Option.some.inj S18
          exact ⟨(Kp.upd (Kp.upd (Kp.upd (Kp.upd K13 rfl) rfl) rfl) rfl), e14, rfl⟩
    · rintro s7 w6 ⟨K8, e9, y504⟩
      rw [y504] at C5
      have H := C5
      replace H : _ = some _ := H
      refine thn_n <| W_seq <| W_reg <| L_op (.plain rfl) rfl (ltb rfl) (X_assign (v := (.bool true)) rfl) <| L_nil <| thn_n <| W_ret <| fin_r ?_
      obtain rfl := Option.some.inj H
      exact fin1 rfl e9
theorem spec_l04OK.calls {w : World} {a0 : List Nd} {v_a0 : Value} (f_a0 : Rd 4 encNd w v_a0 a0) (h0 : ∀ x ∈ a0, x.path.length ≤ 1048576) :
    Calls Tryd.prog 34 #[v_a0] w (Rt (RP w (.bool (treeOK a0)))) := by
  obtain ⟨k, h⟩ := spec_l04OK.eq a0 h0
  exact spec_l04OK.walk f_a0 h
/-! (impl.Node).record -/
theorem impl_Node_record.walk {w : World} {a0 : Nd} {r : Rec} (H : impl_Node_record.sh a0 = some r) :
    Calls Tryd.prog 74 #[.agg (encNd a0).toArray] w (Rt (RP w (.agg (encRec r).toArray))) := by
  unfold impl_Node_record.sh at H
  refine calls_of_WG Tryd.func74 rfl (Nat.le_of_ble_eq_true rfl) Tryd.ntmps74 ?_
  refine W_seq <| W_reg <| L_box (.plain rfl) rfl (ltb rfl) rfl rfl <| fun b1 w2 z3 z4 e5 k6 => L_alloc (.plain rfl) rfl (ltb rfl) rfl Tryd.zeroValue25 <| fun b7 w8 z9 z10 e11 k12 => L_nil <| thn_n <| W_seq <| W_reg <| L_op (.plain rfl) rfl (ltb rfl) (X_fieldAddr Tryd.underlying42 rfl Tryd.sizeOf3 rfl rfl) <| L_op (.plain rfl) rfl (ltb rfl) (X_loadB Tryd.isAgg3 (Blk.ext k6 e11) rfl rfl) <| L_op (.plain rfl) rfl (ltb rfl) (X_fieldAddr Tryd.underlying42 rfl Tryd.sizeOf9 rfl rfl) <| L_op (.plain rfl) rfl (ltb rfl) (X_loadB Tryd.isAgg9 (Blk.ext k6 e11) rfl rfl) <| L_op (.plain rfl) rfl (ltb rfl) (X_fieldAddr Tryd.underlying42 rfl Tryd.sizeOf9 rfl rfl) <| L_op (.plain rfl) rfl (ltb rfl) (X_loadB Tryd.isAgg9 (Blk.ext k6 e11) rfl rfl) <| L_op (.plain rfl) rfl (ltb rfl) (X_fieldAddr Tryd.underlying42 rfl Tryd.sizeOf3 rfl rfl) <| L_op (.plain rfl) rfl (ltb rfl) (X_loadB Tryd.isAgg3 (Blk.ext k6 e11) rfl rfl) <| L_op (.plain rfl) rfl (ltb rfl) (X_build1 (vs := [(0, (.int .i64 a0.kind)), (1, (S a0.path)), (2, (S a0.body)), (3, (.int .i64 a0.mode)), (4, (.bool false))]) (pl := #[(0, 1), (1, 1), (2, 1), (3, 1), (4, 1)]) Tryd.underlying25 Tryd.zeroValue25 rfl (fun _ => by kernel_rfl) rfl rfl rfl) <| L_storeA (.plain rfl) rfl rfl Tryd.sizeOf25 rfl rfl rfl rfl rfl k12 <| fun w13 h14 k15 => L_nil <| thn_n <| W_ret <| finG_r ?_
  obtain rfl := Option.some.inj H
  exact finC1 rfl rfl k15 Tryd.isAgg25 Tryd.sizeOf25 rfl (Ext.trans e5 (Below.trans e11 (Wr.below h14 (Nat.le_of_eq z9))))
theorem impl_Node_record.calls {w : World} {a0 : Nd} :
    Calls Tryd.prog 74 #[.agg (encNd a0).toArray] w (Rt (RP w (.agg (encRec (recOf a0)).toArray))) := impl_Node_record.walk (impl_Node_record.eq a0)
/-! impl.nodeOK -/
theorem impl_nodeOK.walk {w : World} {a0 : Nd} (gv : GV 0 w) {r : Bool} (H : impl_nodeOK.sh a0 = some r) :
    Calls Tryd.prog 44 #[.agg (encNd a0).toArray] w (Rt (RP w (.bool r))) := by
  unfold impl_nodeOK.sh at H
  refine calls_of_W Tryd.func44 rfl (Nat.le_of_ble_eq_true rfl) Tryd.ntmps44 rfl ?_
  refine W_seq <| W_reg <| L_box (.plain rfl) rfl (ltb rfl) rfl rfl <| fun b1 w2 z3 z4 e5 k6 => L_op (.plain rfl) rfl (ltb rfl) (X_assign (v := (.bool false)) rfl) <| L_nil <| thn_n <| W_seq <| W_reg <| L_op (.plain rfl) rfl (ltb rfl) (X_loadS Tryd.isAgg42 Tryd.sizeOf42 rfl rfl (Blk.at0 k6)) <| L_callP (.plain rfl) rfl (ltb rfl) rfl Tryd.call74 (impl_Node_record.calls (w := w2) (a0 := a0)) rfl <| fun w7 e8 => L_callP (.plain rfl) rfl (ltb rfl) rfl Tryd.call73 (impl_RecordOK.calls (w := w7) (a0 := (recOf a0)) (GV.ext gv (Ext.trans e5 e8))) rfl <| fun w9 e10 => L_op (.plain rfl) rfl (ltb rfl) (X_move (v := (.bool (decide (recFault (recOf a0) = 0)))) rfl) <| L_grp 4 [(7, 11)] 10 (.bool ((decide (recFault (recOf a0) = 0)) && (!decide (a0.kind = 4)))) ?_ ?_
  · rcases bool_two (decide (recFault (recOf a0) = 0)) with b10_ | b10_
    · exact L_op (.guard 3 true 6 rfl rfl (ltb rfl) (congrArg Value.bool b10_)) rfl (ltb rfl) (X_fieldAddr Tryd.underlying42 rfl Tryd.sizeOf3 rfl rfl) <| L_op (.guard 3 true 6 rfl rfl (ltb rfl) (congrArg Value.bool b10_)) rfl (ltb rfl) (X_loadB Tryd.isAgg3 (Blk.ext k6 (Ext.trans e8 e10)) rfl rfl) <| L_op (.guard 3 true 6 rfl rfl (ltb rfl) (congrArg Value.bool b10_)) rfl (ltb rfl) (X_neq rfl rfl) <| L_op (.plain rfl) rfl (ltb rfl) (X_pick (b := true) (v := (.bool (!decide (a0.kind = 4)))) (congrArg Value.bool b10_) rfl) <| L_nil <| thn_n ⟨(Kp.upd (Kp.upd (Kp.upd (Kp.upd (Kp.refl _ _) rfl) rfl) rfl) rfl), (and_t b10_), (Ext.refl w9)⟩
    · exact L_skip rfl rfl (ltb rfl) (congrArg Value.bool b10_) rfl rfl (ltb rfl) <| L_skip rfl rfl (ltb rfl) (congrArg Value.bool b10_) rfl rfl (ltb rfl) <| L_skip rfl rfl (ltb rfl) (congrArg Value.bool b10_) rfl rfl (ltb rfl) <| L_op (.plain rfl) rfl (ltb rfl) (X_pick (b := false) (v := (.bool false)) (congrArg Value.bool b10_) rfl) <| L_nil <| thn_n ⟨(Kp.upd (Kp.upd (Kp.upd (Kp.upd (Kp.refl _ _) rfl) rfl) rfl) rfl), (and_f b10_), (Ext.refl w9)⟩
  intro s16 w12 K13 h14 e15
  refine L_op (.plain rfl) rfl (ltb rfl) (X_assign h14) <| L_nil <| thn_n <| W_ret <| fin_r ?_
  obtain rfl := Option.some.inj H
  exact fin1 rfl (Ext.trans (Ext.trans (Ext.trans e5 e8) e10) e15)
theorem impl_nodeOK.calls {w : World} {a0 : Nd} (gv : GV 0 w) :
    Calls Tryd.prog 44 #[.agg (encNd a0).toArray] w (Rt (RP w (.bool (nodeOK a0)))) := impl_nodeOK.walk gv (impl_nodeOK.eq a0)
/-! impl.at$1 -/
theorem impl_at_1.walk {w : World} {a0 : Nd} {a1 : List UInt8} {b_a1 : Nat} (k_a1 : Blk w b_a1 #[(S a1)] 9) {r : Bool} (H : impl_at_1.sh a0 a1 = some r) :
    Calls Tryd.prog 102 #[.agg (encNd a0).toArray, .pointer (some ⟨b_a1, 0, none⟩)] w (Rt (RP w (.bool r))) := by
  unfold impl_at_1.sh at H
  refine calls_of_W Tryd.func102 rfl (Nat.le_of_ble_eq_true rfl) Tryd.ntmps102 rfl ?_
  refine W_seq <| W_reg <| L_box (.plain rfl) rfl (ltb rfl) rfl rfl <| fun b1 w2 z3 z4 e5 k6 => L_op (.plain rfl) rfl (ltb rfl) (X_assign (v := (.bool false)) rfl) <| L_nil <| thn_n <| W_seq <| W_reg <| L_op (.plain rfl) rfl (ltb rfl) (X_fieldAddr Tryd.underlying42 rfl Tryd.sizeOf9 rfl rfl) <| L_op (.plain rfl) rfl (ltb rfl) (X_loadB Tryd.isAgg9 k6 rfl rfl) <| L_op (.plain rfl) rfl (ltb rfl) (X_loadB Tryd.isAgg9 (Blk.ext k_a1 e5) rfl rfl) <| L_op (.plain rfl) rfl (ltb rfl) (X_seq rfl rfl) <| L_op (.plain rfl) rfl (ltb rfl) (X_assign (v := (.bool (decide (a0.path = a1)))) rfl) <| L_nil <| thn_n <| W_ret <| fin_r ?_
  obtain rfl := Option.some.inj H
  exact fin1 rfl e5
theorem impl_at_1.calls {w : World} {a0 : Nd} {a1 : List UInt8} {b_a1 : Nat} (k_a1 : Blk w b_a1 #[(S a1)] 9) :
    Calls Tryd.prog 102 #[.agg (encNd a0).toArray, .pointer (some ⟨b_a1, 0, none⟩)] w (Rt (RP w (.bool (decide (a0.path = a1))))) := impl_at_1.walk k_a1 (impl_at_1.eq a0 a1)
/-! slices.IndexFunc(()impl.Node,impl.Node) -/
theorem slices_IndexFuncN.walk {k : Nat} {w : World} {a0 : List Nd} {a1 : Nd → Option Bool} {v_a0 : Value} (f_a0 : Rd 4 encNd w v_a0 a0) {v_a1 : Value} (f_a1 : ∀ (x0 : Nd) (r : Bool), a1 x0 = some r → FnAt Tryd.prog w v_a1 [(.agg (encNd x0).toArray)] (.bool r)) (g_a1 : v_a1.cells = #[v_a1]) {r : Int} (H : slices_IndexFuncN.sh k a0 a1 = some r) :
    Calls Tryd.prog 101 #[v_a0, v_a1] w (Rt (RP w (.int .i64 r))) := by
  unfold slices_IndexFuncN.sh at H
  refine calls_of_W Tryd.func101 rfl (Nat.le_of_ble_eq_true rfl) Tryd.ntmps101 rfl ?_
  refine W_seq <| W_reg <| L_op (.plain rfl) rfl (ltb rfl) (X_assign (v := (.int .i64 0)) rfl) <| L_nil <| thn_n <| W_seq <| W_seq <| W_reg <| L_op (.plain rfl) rfl (ltb rfl) (X_move (v := v_a0) rfl) <| L_op (.plain rfl) rfl (ltb rfl) (X_lenR Tryd.underlying38 rfl f_a0) <| L_op (.plain rfl) rfl (ltb rfl) (X_move (v := (.int .i64 0)) rfl) <| L_nil <| thn_n ?_
  obtain ⟨z2, L3, C4⟩ := bind_some H
  clear H
  refine  W_cutQ (fun s0 sQ wQ => Kp [(4, 6), (8, 19)] s0 sQ ∧ Ext w wQ ∧ z2 = .inr ()) ?_ ?_
  · refine W_block <| W_loopI (fun s0 kk sQ wQ => ∃ (x8_1 : Int), Kp [(4, 6), (8, 19)] s0 sQ ∧ sQ 8 = .int .i64 x8_1 ∧ Ext w wQ ∧ loopF (slices_IndexFuncN.b1 a0 a1) kk x8_1 = some z2) k ⟨0, (Kp.refl _ _), rfl, (Ext.refl w), L3⟩ ?_
    rintro k9 s10 w11 ⟨x8_1, K12, h15, e13, L14⟩
    cases k9 with
    | zero => exact absurd L14 (by simp [loopF])
    | succ k9 =>
      obtain ⟨t16, H, S17⟩ := loopF_succ L14
      clear L14
      unfold slices_IndexFuncN.b1 at H
      refine W_seq <| W_reg <| L_op (.plain rfl) rfl (ltb rfl) (X_lss h15 (K12 7 rfl)) <| L_nil <| thn_n <| W_seq ?_
      rcases bif_two H with ⟨q18, H⟩ | ⟨q18, H⟩
      · refine W_true (congrArg Value.bool q18) <| W_skip <| thn_n <| W_seq <| W_block <| W_seq <| W_reg <| L_op (.plain rfl) rfl (ltb rfl) (X_move (v := (.int .i64 x8_1)) h15) <| L_op (.plain rfl) rfl (ltb rfl) (X_assign (v := (.int .i64 x8_1)) rfl) <| L_nil <| thn_n <| W_seq <| W_reg <| L_op (.plain rfl) rfl (ltb rfl) (X_move (v := v_a1) (K12 1 rfl)) <| L_op (.plain rfl) rfl (ltb rfl) (X_move (v := v_a0) (K12 0 rfl)) <| L_op (.plain rfl) rfl (ltb rfl) (X_move (v := (.int .i64 x8_1)) rfl) ?_
        obtain ⟨c19, H⟩ := bif_some H
        refine L_idx (.plain rfl) rfl (ltb rfl) rfl Tryd.underlying38 Tryd.sizeOf42 rfl (Rd.ext f_a0 e13) rfl c19 <| fun p20 h21 => L_op (.plain rfl) rfl (ltb rfl) (X_loadS Tryd.isAgg42 Tryd.sizeOf42 rfl rfl h21) ?_
        obtain ⟨z22, x23, H⟩ := bind_some H
        refine L_callF (.plain rfl) rfl (ltb rfl) rfl rfl (FnAt.ext (f_a1 _ _ x23) e13) rfl <| fun w24 e25 => L_nil <| thn_n ?_
        rcases bif_two H with ⟨q26, H⟩ | ⟨q26, H⟩
        · refine W_true (congrArg Value.bool q26) <| W_seq <| W_reg <| L_op (.plain rfl) rfl (ltb rfl) (X_move (v := (.int .i64 x8_1)) rfl) <| L_op (.plain rfl) rfl (ltb rfl) (X_assign (v := (.int .i64 x8_1)) rfl) <| L_nil <| thn_n <| W_ret <| blk_r <| thn_r <| thn_r <| blk_r <| thn_r <| thn_r <| fin_r ?_
          obtain rfl := Option.some.inj H
          obtain rfl := Option.some.inj S17
          have H := C4
          obtain rfl := Option.some.inj H
          exact fin1 rfl (Ext.trans e13 e25)
        · refine W_false (congrArg Value.bool q26) <| W_skip <| blk_n <| thn_n <| W_reg <| L_op (.plain rfl) rfl (ltb rfl) (X_add h15 rfl) <| L_op (.plain rfl) rfl (ltb rfl) (X_move (v := (.int .i64 (IntKind.wrap .i64 (x8_1 + 1)))) rfl) <| L_nil <| thn_n ?_
          obtain rfl := Option.some.inj H
          exact ⟨_, Nat.lt_succ_self _, IntKind.wrap .i64 (x8_1 + 1), (Kp.upd (Kp.upd (Kp.upd (Kp.upd (Kp.upd (Kp.upd (Kp.upd (Kp.upd (Kp.upd (Kp.upd (Kp.upd K12 rfl) rfl) rfl) rfl) rfl) rfl) rfl) rfl) rfl) rfl) rfl), rfl, (Ext.trans e13 e25), S17⟩
      · refine W_false (congrArg Value.bool q18) <| W_exit <| thn_x <| thn_x <| blk_x <| thn_n ?_
        obtain rfl := Option.some.inj H
        obtain rfl := Option.some.inj S17
        exact ⟨(Kp.upd K12 rfl), e13, rfl⟩
  · rintro s6 w5 ⟨K7, e8, y27⟩
    rw [y27] at C4
    have H := C4
    replace H : _ = some _ := H
    refine thn_n <| W_seq <| W_reg <| L_op (.plain rfl) rfl (ltb rfl) (X_assign (v := (.int .i64 (-1))) rfl) <| L_nil <| thn_n <| W_ret <| fin_r ?_
    obtain rfl := Option.some.inj H
    exact fin1 rfl e8
theorem slices_IndexFuncN.calls {w : World} {a0 : List Nd} {a1 : Nd → Option Bool} {r : Int} {v_a0 : Value} (f_a0 : Rd 4 encNd w v_a0 a0) {v_a1 : Value} (f_a1 : ∀ (x0 : Nd) (r : Bool), a1 x0 = some r → FnAt Tryd.prog w v_a1 [(.agg (encNd x0).toArray)] (.bool r)) (g_a1 : v_a1.cells = #[v_a1]) (h0 : a0.length ≤ 4611686018427387904) (H : (idxO a1 a0) = some r) :
    Calls Tryd.prog 101 #[v_a0, v_a1] w (Rt (RP w (.int .i64 r))) := by
  obtain ⟨k, h⟩ := slices_IndexFuncN.eq a0 a1 h0 H
  exact slices_IndexFuncN.walk f_a0 f_a1 g_a1 h
/-! impl.at -/
theorem impl_at.walk {w : World} {a0 : List Nd} {a1 : List UInt8} {v_a0 : Value} (f_a0 : Rd 4 encNd w v_a0 a0) {r : Int} (H : impl_at.sh a0 a1 = some r) :
    Calls Tryd.prog 77 #[v_a0, S a1] w (Rt (RP w (.int .i64 r))) := by
  unfold impl_at.sh at H
  refine calls_of_W Tryd.func77 rfl (Nat.le_of_ble_eq_true rfl) Tryd.ntmps77 rfl ?_
  refine W_seq <| W_reg <| L_box (.plain rfl) rfl (ltb rfl) rfl rfl <| fun b1 w2 z3 z4 e5 k6 => L_op (.plain rfl) rfl (ltb rfl) (X_assign (v := (.int .i64 0)) rfl) <| L_nil <| thn_n <| W_seq <| W_reg <| L_op (.plain rfl) rfl (ltb rfl) (X_move (v := v_a0) rfl) <| L_op (.plain rfl) rfl (ltb rfl) (X_makeFunc (vs := #[]) (us := #[.pointer (some ⟨b1, 0, none⟩)]) rfl rfl) ?_
  obtain ⟨c11, H⟩ := bif_some H
  obtain ⟨z12, x13, H⟩ := bind_some H
  refine L_callP (.plain rfl) rfl (ltb rfl) rfl Tryd.call101 (slices_IndexFuncN.calls (w := w2) (a0 := a0) (a1 := (fun (x0_ : Nd) => some (decide (x0_.path = a1)))) (Rd.ext f_a0 e5) (fun x0_ r h => by have h := Option.some.inj h; subst h; exact FnAt.mk Tryd.call102 (by rfl) fun w9 k10 => impl_at_1.calls (w := w9) (a0 := x0_) (a1 := a1) (Blk.ext k6 k10)) rfl (of_decide_eq_true c11) x13) rfl <| fun w14 e15 => L_op (.plain rfl) rfl (ltb rfl) (X_assign (v := (.int .i64 z12)) rfl) <| L_nil <| thn_n <| W_ret <| fin_r ?_
  obtain rfl := Option.some.inj H
  exact fin1 rfl (Ext.trans e5 e15)
theorem impl_at.calls {w : World} {a0 : List Nd} {a1 : List UInt8} {v_a0 : Value} (f_a0 : Rd 4 encNd w v_a0 a0) (h0 : a0.length ≤ 1048576) :
    Calls Tryd.prog 77 #[v_a0, S a1] w (Rt (RP w (.int .i64 (findN a0 a1)))) := impl_at.walk f_a0 (impl_at.eq a0 a1 h0)
/-! impl.isDir -/
theorem impl_isDir.walk {w : World} {a0 : List Nd} {a1 : List UInt8} {v_a0 : Value} (f_a0 : Rd 4 encNd w v_a0 a0) {r : Bool} (H : impl_isDir.sh a0 a1 = some r) :
    Calls Tryd.prog 46 #[v_a0, S a1] w (Rt (RP w (.bool r))) := by
  unfold impl_isDir.sh at H
  refine calls_of_W Tryd.func46 rfl (Nat.le_of_ble_eq_true rfl) Tryd.ntmps46 rfl ?_
  refine W_seq <| W_reg <| L_op (.plain rfl) rfl (ltb rfl) (X_assign (v := (.bool false)) rfl) <| L_nil <| thn_n <| W_seq <| W_reg <| L_op (.plain rfl) rfl (ltb rfl) (X_move (v := v_a0) rfl) <| L_op (.plain rfl) rfl (ltb rfl) (X_move (v := (S a1)) rfl) ?_
  obtain ⟨c1, H⟩ := bif_some H
  refine L_callP (.plain rfl) rfl (ltb rfl) rfl Tryd.call77 (impl_at.calls (w := w) (a0 := a0) (a1 := a1) f_a0 (of_decide_eq_true c1)) rfl <| fun w2 e3 => L_op (.plain rfl) rfl (ltb rfl) (X_assign (v := (.int .i64 (findN a0 a1))) rfl) <| L_nil <| thn_n <| W_seq <| W_reg <| L_op (.plain rfl) rfl (ltb rfl) (X_move (v := (S a1)) rfl) <| L_op (.plain rfl) rfl (ltb rfl) (X_seq rfl rfl) <| L_op (.plain rfl) rfl (ltb rfl) (X_move (v := (.bool (decide (a1 = ([] : List UInt8))))) rfl) ?_
  obtain ⟨z5, x6, H⟩ := bind_some H
  refine L_grpE 11 [(12, 23)] 22 (fun q => q = z5) ?_ ?_
  · rcases bif_two x6 with ⟨b3_, H⟩ | ⟨b3_, H⟩
    · refine L_skip rfl rfl (ltb rfl) (congrArg Value.bool b3_) rfl rfl (ltb rfl) <| L_skip rfl rfl (ltb rfl) (congrArg Value.bool b3_) rfl rfl (ltb rfl) <| L_skip rfl rfl (ltb rfl) (congrArg Value.bool b3_) rfl rfl (ltb rfl) <| L_skipU rfl rfl (ltb rfl) rfl rfl (ltb rfl) <| L_skipU rfl rfl (ltb rfl) rfl rfl (ltb rfl) <| L_skipU rfl rfl (ltb rfl) rfl rfl (ltb rfl) <| L_skipU rfl rfl (ltb rfl) rfl rfl (ltb rfl) <| L_skipU rfl rfl (ltb rfl) rfl rfl (ltb rfl) <| L_skipU rfl rfl (ltb rfl) rfl rfl (ltb rfl) <| L_skip rfl rfl (ltb rfl) (congrArg Value.bool b3_) rfl rfl (ltb rfl) <| L_op (.plain rfl) rfl (ltb rfl) (X_pick (b := true) (v := (.bool true)) (congrArg Value.bool b3_) rfl) ?_
      obtain rfl := Option.some.inj H
      exact L_nil <| thn_n ⟨(Kp.upd (Kp.upd (Kp.upd (Kp.upd (Kp.upd (Kp.upd (Kp.upd (Kp.upd (Kp.upd (Kp.upd (Kp.upd (Kp.refl _ _) rfl) rfl) rfl) rfl) rfl) rfl) rfl) rfl) rfl) rfl) rfl), ⟨_, rfl, rfl⟩, (Ext.refl w2)⟩
    · refine L_op (.guard 2 false 11 rfl rfl (ltb rfl) (congrArg Value.bool b3_)) rfl (ltb rfl) (X_move (v := (.int .i64 (findN a0 a1))) rfl) <| L_op (.guard 2 false 11 rfl rfl (ltb rfl) (congrArg Value.bool b3_)) rfl (ltb rfl) (X_geq rfl rfl) <| L_op (.guard 2 false 11 rfl rfl (ltb rfl) (congrArg Value.bool b3_)) rfl (ltb rfl) (X_move (v := (.bool (decide (0 ≤ (findN a0 a1))))) rfl) ?_
      obtain ⟨z6, x7, H⟩ := bind_some H
      refine L_grpE 7 [(15, 22)] 21 (fun q => q = z6) ?_ ?_
      · rcases bif_two x7 with ⟨b4_, H⟩ | ⟨b4_, H⟩
        · refine L_op (.guard 5 true 14 rfl rfl (ltb rfl) (congrArg Value.bool b4_)) rfl (ltb rfl) (X_move (v := v_a0) rfl) <| L_op (.guard 5 true 14 rfl rfl (ltb rfl) (congrArg Value.bool b4_)) rfl (ltb rfl) (X_move (v := (.int .i64 (findN a0 a1))) rfl) ?_
          obtain ⟨c6, H⟩ := bif_some H
          refine L_idx (.guard 5 true 14 rfl rfl (ltb rfl) (congrArg Value.bool b4_)) rfl (ltb rfl) rfl Tryd.underlying38 Tryd.sizeOf42 rfl (Rd.ext f_a0 e3) rfl c6 <| fun p7 h8 => L_op (.guard 5 true 14 rfl rfl (ltb rfl) (congrArg Value.bool b4_)) rfl (ltb rfl) (X_fieldAddr Tryd.underlying42 rfl Tryd.sizeOf3 rfl rfl) <| L_op (.guard 5 true 14 rfl rfl (ltb rfl) (congrArg Value.bool b4_)) rfl (ltb rfl) (X_loadF Tryd.isAgg3 (j := 0) h8 rfl rfl) <| L_op (.guard 5 true 14 rfl rfl (ltb rfl) (congrArg Value.bool b4_)) rfl (ltb rfl) (X_eql rfl rfl) <| L_op (.guard 2 false 11 rfl rfl (ltb rfl) (congrArg Value.bool b3_)) rfl (ltb rfl) (X_pick (b := true) (v := (.bool (decide (((gt a0 (findN a0 a1)).kind) = 3)))) (congrArg Value.bool b4_) rfl) ?_
          obtain rfl := Option.some.inj H
          exact L_nil <| thn_n ⟨(Kp.upd (Kp.upd (Kp.upd (Kp.upd (Kp.upd (Kp.upd (Kp.upd (Kp.refl _ _) rfl) rfl) rfl) rfl) rfl) rfl) rfl), ⟨_, rfl, rfl⟩, (Ext.refl w2)⟩
        · refine L_skip rfl rfl (ltb rfl) (congrArg Value.bool b4_) rfl rfl (ltb rfl) <| L_skip rfl rfl (ltb rfl) (congrArg Value.bool b4_) rfl rfl (ltb rfl) <| L_skip rfl rfl (ltb rfl) (congrArg Value.bool b4_) rfl rfl (ltb rfl) <| L_skip rfl rfl (ltb rfl) (congrArg Value.bool b4_) rfl rfl (ltb rfl) <| L_skip rfl rfl (ltb rfl) (congrArg Value.bool b4_) rfl rfl (ltb rfl) <| L_skip rfl rfl (ltb rfl) (congrArg Value.bool b4_) rfl rfl (ltb rfl) <| L_op (.guard 2 false 11 rfl rfl (ltb rfl) (congrArg Value.bool b3_)) rfl (ltb rfl) (X_pick (b := false) (v := (.bool false)) (congrArg Value.bool b4_) rfl) ?_
          obtain rfl := Option.some.inj H
          exact L_nil <| thn_n ⟨(Kp.upd (Kp.upd (Kp.upd (Kp.upd (Kp.upd (Kp.upd (Kp.upd (Kp.refl _ _) rfl) rfl) rfl) rfl) rfl) rfl) rfl), ⟨_, rfl, rfl⟩, (Ext.refl w2)⟩
      intro s12 w8 z13 K9 hq h10 e11
      rw [hq] at h10; clear hq
      refine L_op (.plain rfl) rfl (ltb rfl) (X_pick (b := false) (v := (.bool z6)) ((K9 11 rfl).trans (congrArg Value.bool b3_)) h10) ?_
      obtain rfl := Option.some.inj H
      exact L_nil <| thn_n ⟨(Kp.upd (Kp.cut (Kp.upd (Kp.upd (Kp.upd (Kp.refl _ _) rfl) rfl) rfl) K9 rfl) rfl), ⟨_, rfl, rfl⟩, e11⟩
  intro s14 w7 z15 K8 hq h9 e10
  rw [hq] at h9; clear hq
  refine L_op (.plain rfl) rfl (ltb rfl) (X_assign (v := (.bool z5)) h9) <| L_nil <| thn_n <| W_ret <| fin_r ?_
  obtain rfl := Option.some.inj H
  exact fin1 rfl (Ext.trans e3 e10)
theorem impl_isDir.calls {w : World} {a0 : List Nd} {a1 : List UInt8} {v_a0 : Value} (f_a0 : Rd 4 encNd w v_a0 a0) (h0 : a0.length ≤ 1048576) :
    Calls Tryd.prog 46 #[v_a0, S a1] w (Rt (RP w (.bool (isDirN a0 a1)))) := impl_isDir.walk f_a0 (impl_isDir.eq a0 a1 h0)
/-! impl.TreeOK -/
abbrev impl_TreeOK.e1 (a0 : List Nd) (x7_1 : Int) := (((decide (24 ≤ x7_1)) || (!(nodeOK (gt a0 x7_1)))) || ((decide (0 < x7_1)) && (!(pathLess ((gt a0 (IntKind.wrap .i64 (x7_1 - 1))).path) ((gt a0 x7_1).path)))))
abbrev impl_TreeOK.e2 (a0 : List Nd) (x7_1 : Int) := ((decide (24 ≤ x7_1)) || (!(nodeOK (gt a0 x7_1))))
abbrev impl_TreeOK.e3 (a0 : List Nd) (x7_1 : Int) := ((!(impl_TreeOK.e2 a0 x7_1)) && (decide (0 < x7_1)))
abbrev impl_TreeOK.e4 (a0 : List Nd) (x7_1 : Int) := (pathLess ((gt a0 (IntKind.wrap .i64 (x7_1 - 1))).path) ((gt a0 x7_1).path))
theorem impl_TreeOK.walk {k : Nat} {w : World} {a0 : List Nd} (gv : GV 0 w) {v_a0 : Value} (f_a0 : Rd 4 encNd w v_a0 a0) {r : Bool} (H : impl_TreeOK.sh k a0 = some r) :
    Calls Tryd.prog 43 #[v_a0] w (Rt (RP w (.bool r))) := by
  unfold impl_TreeOK.sh at H
  refine calls_of_W Tryd.func43 rfl (Nat.le_of_ble_eq_true rfl) Tryd.ntmps43 rfl ?_
  refine W_seq <| W_reg <| L_op (.plain rfl) rfl (ltb rfl) (X_assign (v := (.bool false)) rfl) <| L_nil <| thn_n <| W_seq <| W_seq <| W_reg <| L_op (.plain rfl) rfl (ltb rfl) (X_move (v := v_a0) rfl) <| L_op (.plain rfl) rfl (ltb rfl) (X_lenR Tryd.underlying38 rfl f_a0) <| L_op (.plain rfl) rfl (ltb rfl) (X_move (v := (.int .i64 0)) rfl) <| L_nil <| thn_n ?_
  obtain ⟨z2, L3, C4⟩ := bind_some H
  clear H
  refine  W_cutQ (fun s0 sQ wQ => Kp [(2, 5), (7, 46)] s0 sQ ∧ Ext w wQ ∧ z2 = .inr ()) ?_ ?_
  · refine W_block <| W_loopI (fun s0 kk sQ wQ => ∃ (x7_1 : Int), Kp [(2, 5), (7, 46)] s0 sQ ∧ sQ 7 = .int .i64 x7_1 ∧ Ext w wQ ∧ loopF (impl_TreeOK.b1 a0) kk x7_1 = some z2) k ⟨0, (Kp.refl _ _), rfl, (Ext.refl w), L3⟩ ?_
    rintro k9 s10 w11 ⟨x7_1, K12, h15, e13, L14⟩
    cases k9 with
    | zero => exact absurd L14 (by simp [loopF])
    | succ k9 =>
      obtain ⟨t16, H, S17⟩ := loopF_succ L14
      clear L14
      unfold impl_TreeOK.b1 at H
      refine W_seq <| W_reg <| L_op (.plain rfl) rfl (ltb rfl) (X_lss h15 (K12 6 rfl)) <| L_nil <| thn_n <| W_seq ?_
      rcases bif_two H with ⟨q18, H⟩ | ⟨q18, H⟩
      · refine W_true (congrArg Value.bool q18) <| W_skip <| thn_n <| W_seq <| W_block <| W_seq <| W_reg <| L_op (.plain rfl) rfl (ltb rfl) (X_move (v := (.int .i64 x7_1)) h15) ?_
        obtain ⟨c19, H⟩ := bif_some H
        refine L_idx (.plain rfl) rfl (ltb rfl) rfl Tryd.underlying38 Tryd.sizeOf42 (K12 5 rfl) (Rd.ext f_a0 e13) h15 c19 <| fun p20 h21 => L_op (.plain rfl) rfl (ltb rfl) (X_loadS Tryd.isAgg42 Tryd.sizeOf42 rfl rfl h21) <| L_alloc (.plain rfl) rfl (ltb rfl) rfl Tryd.zeroValue42 <| fun b22 w23 z24 z25 e26 k27 => L_op (.plain rfl) rfl (ltb rfl) (X_assign (v := (.int .i64 x7_1)) rfl) <| L_storeA (.plain rfl) rfl rfl Tryd.sizeOf42 rfl rfl rfl rfl rfl k27 <| fun w28 h29 k30 => L_nil <| thn_n <| W_seq ?_
        obtain ⟨c33, H⟩ := bif_some H
        obtain ⟨c38, H⟩ := bif_some H
        obtain ⟨c41, H⟩ := bif_some H
        obtain ⟨c44, H⟩ := bif_some H
        refine W_drawM [LEq (.int .i64 x7_1), LEq (.bool (decide (24 ≤ x7_1))), LEq (.bool (decide (24 ≤ x7_1))), LIf (!(decide (24 ≤ x7_1))) (LEq (.agg #[(.int .i64 ((gt a0 x7_1).kind)), (S ((gt a0 x7_1).path)), (S ((gt a0 x7_1).body)), (.int .i64 ((gt a0 x7_1).mode))])), LIf (!(decide (24 ≤ x7_1))) (LEq (.bool (nodeOK (gt a0 x7_1)))), LIf (!(decide (24 ≤ x7_1))) (LEq (.bool (!(nodeOK (gt a0 x7_1))))), LEq (.bool (impl_TreeOK.e2 a0 x7_1)), LEq (.bool (impl_TreeOK.e2 a0 x7_1)), LIf (!(impl_TreeOK.e2 a0 x7_1)) (LEq (.int .i64 x7_1)), LIf (!(impl_TreeOK.e2 a0 x7_1)) (LEq (.bool (decide (0 < x7_1)))), LIf (!(impl_TreeOK.e2 a0 x7_1)) (LEq (.bool (decide (0 < x7_1)))), LIf (impl_TreeOK.e3 a0 x7_1) (LEq v_a0), LIf (impl_TreeOK.e3 a0 x7_1) (LEq (.int .i64 x7_1)), LIf (impl_TreeOK.e3 a0 x7_1) (LEq (.int .i64 (IntKind.wrap .i64 (x7_1 - 1)))), LIf (impl_TreeOK.e3 a0 x7_1) (LAt0 (encNd (gt a0 (IntKind.wrap .i64 (x7_1 - 1))))), LIf (impl_TreeOK.e3 a0 x7_1) (LAt 1 (encNd (gt a0 (IntKind.wrap .i64 (x7_1 - 1))))), LIf (impl_TreeOK.e3 a0 x7_1) (LEq (S ((gt a0 (IntKind.wrap .i64 (x7_1 - 1))).path))), LIf (impl_TreeOK.e3 a0 x7_1) (LEq (.pointer (some ⟨b22, 1, none⟩))), LIf (impl_TreeOK.e3 a0 x7_1) (LEq (S ((gt a0 x7_1).path))), LIf (impl_TreeOK.e3 a0 x7_1) (LEq (.bool (impl_TreeOK.e4 a0 x7_1))), LIf (impl_TreeOK.e3 a0 x7_1) (LEq (.bool (!(impl_TreeOK.e4 a0 x7_1)))), LIf (!(impl_TreeOK.e2 a0 x7_1)) (LEq (.bool ((decide (0 < x7_1)) && (!(impl_TreeOK.e4 a0 x7_1))))), LEq (.bool (impl_TreeOK.e1 a0 x7_1)), LEq (.bool (impl_TreeOK.e1 a0 x7_1)), LIf (!(impl_TreeOK.e1 a0 x7_1)) (LEq v_a0), LIf (!(impl_TreeOK.e1 a0 x7_1)) (LEq (.int .i64 x7_1)), LIf (!(impl_TreeOK.e1 a0 x7_1)) (LRd 4 encNd (sub a0 0 x7_1)), LIf (!(impl_TreeOK.e1 a0 x7_1)) (LEq (.pointer (some ⟨b22, 1, none⟩))), LIf (!(impl_TreeOK.e1 a0 x7_1)) (LEq (S ((gt a0 x7_1).path))), LIf (!(impl_TreeOK.e1 a0 x7_1)) (LEq (S (parentP ((gt a0 x7_1).path)))), LIf (!(impl_TreeOK.e1 a0 x7_1)) (LEq (.bool (isDirN (sub a0 0 x7_1) (parentP ((gt a0 x7_1).path))))), LIf (!(impl_TreeOK.e1 a0 x7_1)) (LEq (.bool (!(isDirN (sub a0 0 x7_1) (parentP ((gt a0 x7_1).path)))))), LEq (.bool ((impl_TreeOK.e1 a0 x7_1) || (!(isDirN (sub a0 0 x7_1) (parentP ((gt a0 x7_1).path))))))] (by kernel_rfl) (by kernel_rfl) ⟨LEq.mono, LEq.mono, LEq.mono, (LIf.mono LEq.mono), (LIf.mono LEq.mono), (LIf.mono LEq.mono), LEq.mono, LEq.mono, (LIf.mono LEq.mono), (LIf.mono LEq.mono), (LIf.mono LEq.mono), (LIf.mono LEq.mono), (LIf.mono LEq.mono), (LIf.mono LEq.mono), (LIf.mono LAt0.mono), (LIf.mono LAt.mono), (LIf.mono LEq.mono), (LIf.mono LEq.mono), (LIf.mono LEq.mono), (LIf.mono LEq.mono), (LIf.mono LEq.mono), (LIf.mono LEq.mono), LEq.mono, LEq.mono, (LIf.mono LEq.mono), (LIf.mono LEq.mono), (LIf.mono LRd.mono), (LIf.mono LEq.mono), (LIf.mono LEq.mono), (LIf.mono LEq.mono), (LIf.mono LEq.mono), (LIf.mono LEq.mono), LEq.mono, trivial⟩ ⟨?_, ?_, ?_, ?_, ?_, ?_, ?_, ?_, ?_, ?_, ?_, ?_, ?_, ?_, ?_, ?_, ?_, ?_, ?_, ?_, ?_, ?_, ?_, ?_, ?_, ?_, ?_, ?_, ?_, ?_, ?_, ?_, ?_, trivial⟩ ?_
        · intro s47 w48 e49 hf50 hd51 hu52
          exact L_op (.plain rfl) rfl (ltb rfl) (X_move (v := (.int .i64 x7_1)) (hf50 3 rfl)) <| L_nil <| stepEnd rfl rfl (Ext.refl w48) rfl
        · intro s53 w54 e55 hf56 hd57 hu58
          have d59 : s53 12 = (.int .i64 x7_1) := (hd57 0 rfl)
          exact L_op (.plain rfl) rfl (ltb rfl) (X_geq d59 rfl) <| L_nil <| stepEnd rfl rfl (Ext.refl w54) rfl
        · intro s60 w61 e62 hf63 hd64 hu65
          have d66 : s60 13 = (.bool (decide (24 ≤ x7_1))) := (hd64 1 rfl)
          exact L_op (.plain rfl) rfl (ltb rfl) (X_move (v := (.bool (decide (24 ≤ x7_1)))) d66) <| L_nil <| stepEnd rfl rfl (Ext.refl w61) rfl
        · intro s67 w68 e69 hf70 hd71 hu72
          rcases bool_two (!(decide (24 ≤ x7_1))) with b73 | b73
          · have g74 : (decide (24 ≤ x7_1)) = false := (not_f b73)
            have d75 : s67 14 = (.bool (decide (24 ≤ x7_1))) := (hd71 2 rfl)
            have d76 : s67 14 = (.bool (decide (24 ≤ x7_1))) := (hd71 2 rfl)
            exact L_op (.guard 2 false 14 rfl rfl (ltb rfl) (d75.trans (congrArg Value.bool g74))) rfl (ltb rfl) (X_loadS Tryd.isAgg42 Tryd.sizeOf42 rfl (hf70 4 rfl) (Blk.at0 (Blk.ext k30 e69))) <| L_nil <| stepEnd rfl rfl (Ext.refl w68) ⟨fun _ => rfl, fun h => absurd (b73.symm.trans h) (by decide)⟩
          · have d77 : s67 14 = (.bool (decide (24 ≤ x7_1))) := (hd71 2 rfl)
            have g78 : (decide (24 ≤ x7_1)) = true := (not_ff b73)
            exact L_skip rfl rfl (ltb rfl) (d77.trans (congrArg Value.bool g78)) rfl rfl (ltb rfl) <| L_nil <| stepEnd rfl rfl (Ext.refl w68) ⟨fun h => absurd (b73.symm.trans h) (by decide), fun _ => rfl⟩
        · intro s79 w80 e81 hf82 hd83 hu84
          rcases bool_two (!(decide (24 ≤ x7_1))) with b85 | b85
          · have g86 : (decide (24 ≤ x7_1)) = false := (not_f b85)
            have d87 : s79 14 = (.bool (decide (24 ≤ x7_1))) := (hd83 2 rfl)
            have d88 : s79 14 = (.bool (decide (24 ≤ x7_1))) := (hd83 2 rfl)
            have d89 : s79 15 = (.agg #[(.int .i64 ((gt a0 x7_1).kind)), (S ((gt a0 x7_1).path)), (S ((gt a0 x7_1).body)), (.int .i64 ((gt a0 x7_1).mode))]) := ((hd83 3 rfl).1 (not_mk (not_f b85)))
            exact L_callP (.guard 2 false 14 rfl rfl (ltb rfl) (d87.trans (congrArg Value.bool g86))) rfl (ltb rfl) rfl Tryd.call44 (impl_nodeOK.calls (w := w80) (a0 := (gt a0 x7_1)) (GV.ext gv (Ext.trans (Ext.trans e13 (Below.trans e26 (Wr.below h29 (Nat.le_of_eq z24)))) e81))) (cons2 d89 rfl) <| fun w90 e91 => L_nil <| stepEnd rfl rfl e91 ⟨fun _ => rfl, fun h => absurd (b85.symm.trans h) (by decide)⟩
          · have d92 : s79 14 = (.bool (decide (24 ≤ x7_1))) := (hd83 2 rfl)
            have g93 : (decide (24 ≤ x7_1)) = true := (not_ff b85)
            exact L_skip rfl rfl (ltb rfl) (d92.trans (congrArg Value.bool g93)) rfl rfl (ltb rfl) <| L_nil <| stepEnd rfl rfl (Ext.refl w80) ⟨fun h => absurd (b85.symm.trans h) (by decide), fun _ => rfl⟩
        · intro s94 w95 e96 hf97 hd98 hu99
          rcases bool_two (!(decide (24 ≤ x7_1))) with b100 | b100
          · have g101 : (decide (24 ≤ x7_1)) = false := (not_f b100)
            have d102 : s94 14 = (.bool (decide (24 ≤ x7_1))) := (hd98 2 rfl)
            have d103 : s94 14 = (.bool (decide (24 ≤ x7_1))) := (hd98 2 rfl)
            have d104 : s94 16 = (.bool (nodeOK (gt a0 x7_1))) := ((hd98 4 rfl).1 (not_mk (not_f b100)))
            exact L_op (.guard 2 false 14 rfl rfl (ltb rfl) (d102.trans (congrArg Value.bool g101))) rfl (ltb rfl) (X_not d104) <| L_nil <| stepEnd rfl rfl (Ext.refl w95) ⟨fun _ => rfl, fun h => absurd (b100.symm.trans h) (by decide)⟩
          · have d105 : s94 14 = (.bool (decide (24 ≤ x7_1))) := (hd98 2 rfl)
            have g106 : (decide (24 ≤ x7_1)) = true := (not_ff b100)
            exact L_skip rfl rfl (ltb rfl) (d105.trans (congrArg Value.bool g106)) rfl rfl (ltb rfl) <| L_nil <| stepEnd rfl rfl (Ext.refl w95) ⟨fun h => absurd (b100.symm.trans h) (by decide), fun _ => rfl⟩
        · intro s107 w108 e109 hf110 hd111 hu112
          rcases bool_two (decide (24 ≤ x7_1)) with b113 | b113
          · have d114 : s107 14 = (.bool (decide (24 ≤ x7_1))) := (hd111 2 rfl)
            exact L_op (.plain rfl) rfl (ltb rfl) (X_pick (b := true) (v := (.bool true)) (d114.trans (congrArg Value.bool b113)) rfl) <| L_nil <| stepEnd rfl rfl (Ext.refl w108) (or_t b113)
          · have d115 : s107 14 = (.bool (decide (24 ≤ x7_1))) := (hd111 2 rfl)
            have d116 : s107 17 = (.bool (!(nodeOK (gt a0 x7_1)))) := ((hd111 5 rfl).1 (not_mk b113))
            exact L_op (.plain rfl) rfl (ltb rfl) (X_pick (b := false) (v := (.bool (!(nodeOK (gt a0 x7_1))))) (d115.trans (congrArg Value.bool b113)) d116) <| L_nil <| stepEnd rfl rfl (Ext.refl w108) (or_f b113)
        · intro s117 w118 e119 hf120 hd121 hu122
          have d123 : s117 18 = (.bool (impl_TreeOK.e2 a0 x7_1)) := (hd121 6 rfl)
          exact L_op (.plain rfl) rfl (ltb rfl) (X_move (v := (.bool (impl_TreeOK.e2 a0 x7_1))) d123) <| L_nil <| stepEnd rfl rfl (Ext.refl w118) rfl
        · intro s124 w125 e126 hf127 hd128 hu129
          rcases bool_two (!(impl_TreeOK.e2 a0 x7_1)) with b130 | b130
          · have g131 : (impl_TreeOK.e2 a0 x7_1) = false := (not_f b130)
            have d132 : s124 19 = (.bool (impl_TreeOK.e2 a0 x7_1)) := (hd128 7 rfl)
            have d133 : s124 19 = (.bool (impl_TreeOK.e2 a0 x7_1)) := (hd128 7 rfl)
            exact L_op (.guard 7 false 19 rfl rfl (ltb rfl) (d132.trans (congrArg Value.bool g131))) rfl (ltb rfl) (X_move (v := (.int .i64 x7_1)) (hf127 3 rfl)) <| L_nil <| stepEnd rfl rfl (Ext.refl w125) ⟨fun _ => rfl, fun h => absurd (b130.symm.trans h) (by decide)⟩
          · have d134 : s124 19 = (.bool (impl_TreeOK.e2 a0 x7_1)) := (hd128 7 rfl)
            have g135 : (impl_TreeOK.e2 a0 x7_1) = true := (not_ff b130)
            exact L_skip rfl rfl (ltb rfl) (d134.trans (congrArg Value.bool g135)) rfl rfl (ltb rfl) <| L_nil <| stepEnd rfl rfl (Ext.refl w125) ⟨fun h => absurd (b130.symm.trans h) (by decide), fun _ => rfl⟩
        · intro s136 w137 e138 hf139 hd140 hu141
          rcases bool_two (!(impl_TreeOK.e2 a0 x7_1)) with b142 | b142
          · have g143 : (impl_TreeOK.e2 a0 x7_1) = false := (not_f b142)
            have d144 : s136 19 = (.bool (impl_TreeOK.e2 a0 x7_1)) := (hd140 7 rfl)
            have d145 : s136 19 = (.bool (impl_TreeOK.e2 a0 x7_1)) := (hd140 7 rfl)
            have d146 : s136 20 = (.int .i64 x7_1) := ((hd140 8 rfl).1 (not_mk (not_f b142)))
            exact L_op (.guard 7 false 19 rfl rfl (ltb rfl) (d144.trans (congrArg Value.bool g143))) rfl (ltb rfl) (X_gtr d146 rfl) <| L_nil <| stepEnd rfl rfl (Ext.refl w137) ⟨fun _ => rfl, fun h => absurd (b142.symm.trans h) (by decide)⟩
          · have d147 : s136 19 = (.bool (impl_TreeOK.e2 a0 x7_1)) := (hd140 7 rfl)
            have g148 : (impl_TreeOK.e2 a0 x7_1) = true := (not_ff b142)
            exact L_skip rfl rfl (ltb rfl) (d147.trans (congrArg Value.bool g148)) rfl rfl (ltb rfl) <| L_nil <| stepEnd rfl rfl (Ext.refl w137) ⟨fun h => absurd (b142.symm.trans h) (by decide), fun _ => rfl⟩
        · intro s149 w150 e151 hf152 hd153 hu154
          rcases bool_two (!(impl_TreeOK.e2 a0 x7_1)) with b155 | b155
          · have g156 : (impl_TreeOK.e2 a0 x7_1) = false := (not_f b155)
            have d157 : s149 19 = (.bool (impl_TreeOK.e2 a0 x7_1)) := (hd153 7 rfl)
            have d158 : s149 19 = (.bool (impl_TreeOK.e2 a0 x7_1)) := (hd153 7 rfl)
            have d159 : s149 21 = (.bool (decide (0 < x7_1))) := ((hd153 9 rfl).1 (not_mk (not_f b155)))
            exact L_op (.guard 7 false 19 rfl rfl (ltb rfl) (d157.trans (congrArg Value.bool g156))) rfl (ltb rfl) (X_move (v := (.bool (decide (0 < x7_1)))) d159) <| L_nil <| stepEnd rfl rfl (Ext.refl w150) ⟨fun _ => rfl, fun h => absurd (b155.symm.trans h) (by decide)⟩
          · have d160 : s149 19 = (.bool (impl_TreeOK.e2 a0 x7_1)) := (hd153 7 rfl)
            have g161 : (impl_TreeOK.e2 a0 x7_1) = true := (not_ff b155)
            exact L_skip rfl rfl (ltb rfl) (d160.trans (congrArg Value.bool g161)) rfl rfl (ltb rfl) <| L_nil <| stepEnd rfl rfl (Ext.refl w150) ⟨fun h => absurd (b155.symm.trans h) (by decide), fun _ => rfl⟩
        · intro s162 w163 e164 hf165 hd166 hu167
          rcases bool_two (impl_TreeOK.e3 a0 x7_1) with b168 | b168
          · have g169 : (decide (0 < x7_1)) = true := (and_r b168)
            have d170 : s162 22 = (.bool (decide (0 < x7_1))) := ((hd166 10 rfl).1 (not_mk (not_f (and_l b168))))
            have d171 : s162 22 = (.bool (decide (0 < x7_1))) := ((hd166 10 rfl).1 (not_mk (not_f (and_l b168))))
            exact L_op (.guard 10 true 22 rfl rfl (ltb rfl) (d170.trans (congrArg Value.bool g169))) rfl (ltb rfl) (X_move (v := v_a0) ((hf165 0 rfl).trans (K12 0 rfl))) <| L_nil <| stepEnd rfl rfl (Ext.refl w163) ⟨fun _ => rfl, fun h => absurd (b168.symm.trans h) (by decide)⟩
          · rcases bool_two (!(impl_TreeOK.e2 a0 x7_1)) with b172 | b172
            · have d173 : s162 22 = (.bool (decide (0 < x7_1))) := ((hd166 10 rfl).1 (not_mk (not_f b172)))
              have g174 : (decide (0 < x7_1)) = false := (and_fr b168 b172)
              exact L_skip rfl rfl (ltb rfl) (d173.trans (congrArg Value.bool g174)) rfl rfl (ltb rfl) <| L_nil <| stepEnd rfl rfl (Ext.refl w163) ⟨fun h => absurd (b168.symm.trans h) (by decide), fun _ => rfl⟩
            · exact L_skipU rfl rfl (ltb rfl) ((hd166 10 rfl).2 b172) rfl (ltb rfl) <| L_nil <| stepEnd rfl rfl (Ext.refl w163) ⟨fun h => absurd (b168.symm.trans h) (by decide), fun _ => rfl⟩
        · intro s175 w176 e177 hf178 hd179 hu180
          rcases bool_two (impl_TreeOK.e3 a0 x7_1) with b181 | b181
          · have g182 : (decide (0 < x7_1)) = true := (and_r b181)
            have d183 : s175 22 = (.bool (decide (0 < x7_1))) := ((hd179 10 rfl).1 (not_mk (not_f (and_l b181))))
            have d184 : s175 22 = (.bool (decide (0 < x7_1))) := ((hd179 10 rfl).1 (not_mk (not_f (and_l b181))))
            exact L_op (.guard 10 true 22 rfl rfl (ltb rfl) (d183.trans (congrArg Value.bool g182))) rfl (ltb rfl) (X_move (v := (.int .i64 x7_1)) (hf178 3 rfl)) <| L_nil <| stepEnd rfl rfl (Ext.refl w176) ⟨fun _ => rfl, fun h => absurd (b181.symm.trans h) (by decide)⟩
          · rcases bool_two (!(impl_TreeOK.e2 a0 x7_1)) with b185 | b185
            · have d186 : s175 22 = (.bool (decide (0 < x7_1))) := ((hd179 10 rfl).1 (not_mk (not_f b185)))
              have g187 : (decide (0 < x7_1)) = false := (and_fr b181 b185)
              exact L_skip rfl rfl (ltb rfl) (d186.trans (congrArg Value.bool g187)) rfl rfl (ltb rfl) <| L_nil <| stepEnd rfl rfl (Ext.refl w176) ⟨fun h => absurd (b181.symm.trans h) (by decide), fun _ => rfl⟩
            · exact L_skipU rfl rfl (ltb rfl) ((hd179 10 rfl).2 b185) rfl (ltb rfl) <| L_nil <| stepEnd rfl rfl (Ext.refl w176) ⟨fun h => absurd (b181.symm.trans h) (by decide), fun _ => rfl⟩
        · intro s188 w189 e190 hf191 hd192 hu193
          rcases bool_two (impl_TreeOK.e3 a0 x7_1) with b194 | b194
          · have g195 : (decide (0 < x7_1)) = true := (and_r b194)
            have d196 : s188 22 = (.bool (decide (0 < x7_1))) := ((hd192 10 rfl).1 (not_mk (not_f (and_l b194))))
            have d197 : s188 22 = (.bool (decide (0 < x7_1))) := ((hd192 10 rfl).1 (not_mk (not_f (and_l b194))))
            have d198 : s188 24 = (.int .i64 x7_1) := ((hd192 12 rfl).1 (and_mk (not_mk (not_f (and_l b194))) (and_r b194)))
            exact L_op (.guard 10 true 22 rfl rfl (ltb rfl) (d196.trans (congrArg Value.bool g195))) rfl (ltb rfl) (X_sub d198 rfl) <| L_nil <| stepEnd rfl rfl (Ext.refl w189) ⟨fun _ => rfl, fun h => absurd (b194.symm.trans h) (by decide)⟩
          · rcases bool_two (!(impl_TreeOK.e2 a0 x7_1)) with b199 | b199
            · have d200 : s188 22 = (.bool (decide (0 < x7_1))) := ((hd192 10 rfl).1 (not_mk (not_f b199)))
              have g201 : (decide (0 < x7_1)) = false := (and_fr b194 b199)
              exact L_skip rfl rfl (ltb rfl) (d200.trans (congrArg Value.bool g201)) rfl rfl (ltb rfl) <| L_nil <| stepEnd rfl rfl (Ext.refl w189) ⟨fun h => absurd (b194.symm.trans h) (by decide), fun _ => rfl⟩
            · exact L_skipU rfl rfl (ltb rfl) ((hd192 10 rfl).2 b199) rfl (ltb rfl) <| L_nil <| stepEnd rfl rfl (Ext.refl w189) ⟨fun h => absurd (b194.symm.trans h) (by decide), fun _ => rfl⟩
        · intro s202 w203 e204 hf205 hd206 hu207
          rcases bool_two (impl_TreeOK.e3 a0 x7_1) with b208 | b208
          · have g209 : (decide (0 < x7_1)) = true := (and_r b208)
            have d210 : s202 22 = (.bool (decide (0 < x7_1))) := ((hd206 10 rfl).1 (not_mk (not_f (and_l b208))))
            have d211 : s202 22 = (.bool (decide (0 < x7_1))) := ((hd206 10 rfl).1 (not_mk (not_f (and_l b208))))
            have d212 : s202 23 = v_a0 := ((hd206 11 rfl).1 (and_mk (not_mk (not_f (and_l b208))) (and_r b208)))
            have d213 : s202 25 = (.int .i64 (IntKind.wrap .i64 (x7_1 - 1))) := ((hd206 13 rfl).1 (and_mk (not_mk (not_f (and_l b208))) (and_r b208)))
            have c214 := imp_take b208 c33
            exact L_idx (.guard 10 true 22 rfl rfl (ltb rfl) (d210.trans (congrArg Value.bool g209))) rfl (ltb rfl) rfl Tryd.underlying38 Tryd.sizeOf42 d212 (Rd.ext f_a0 (Ext.trans (Ext.trans e13 (Below.trans e26 (Wr.below h29 (Nat.le_of_eq z24)))) e204)) d213 c214 <| fun p215 h216 => L_nil <| stepEnd rfl rfl (Ext.refl w203) ⟨fun _ => ⟨_, rfl, h216⟩, fun h => absurd (b208.symm.trans h) (by decide)⟩
          · rcases bool_two (!(impl_TreeOK.e2 a0 x7_1)) with b217 | b217
            · have d218 : s202 22 = (.bool (decide (0 < x7_1))) := ((hd206 10 rfl).1 (not_mk (not_f b217)))
              have g219 : (decide (0 < x7_1)) = false := (and_fr b208 b217)
              exact L_skip rfl rfl (ltb rfl) (d218.trans (congrArg Value.bool g219)) rfl rfl (ltb rfl) <| L_nil <| stepEnd rfl rfl (Ext.refl w203) ⟨fun h => absurd (b208.symm.trans h) (by decide), fun _ => rfl⟩
            · exact L_skipU rfl rfl (ltb rfl) ((hd206 10 rfl).2 b217) rfl (ltb rfl) <| L_nil <| stepEnd rfl rfl (Ext.refl w203) ⟨fun h => absurd (b208.symm.trans h) (by decide), fun _ => rfl⟩
        · intro s220 w221 e222 hf223 hd224 hu225
          rcases bool_two (impl_TreeOK.e3 a0 x7_1) with b226 | b226
          · have g227 : (decide (0 < x7_1)) = true := (and_r b226)
            have d228 : s220 22 = (.bool (decide (0 < x7_1))) := ((hd224 10 rfl).1 (not_mk (not_f (and_l b226))))
            have d229 : s220 22 = (.bool (decide (0 < x7_1))) := ((hd224 10 rfl).1 (not_mk (not_f (and_l b226))))
            obtain ⟨p230, h231, h232⟩ := ((hd224 14 rfl).1 (and_mk (not_mk (not_f (and_l b226))) (and_r b226)))
            exact L_op (.guard 10 true 22 rfl rfl (ltb rfl) (d228.trans (congrArg Value.bool g227))) rfl (ltb rfl) (X_fieldAddr Tryd.underlying42 rfl Tryd.sizeOf9 rfl h231) <| L_nil <| stepEnd rfl rfl (Ext.refl w221) ⟨fun _ => ⟨_, rfl, h232⟩, fun h => absurd (b226.symm.trans h) (by decide)⟩
          · rcases bool_two (!(impl_TreeOK.e2 a0 x7_1)) with b233 | b233
            · have d234 : s220 22 = (.bool (decide (0 < x7_1))) := ((hd224 10 rfl).1 (not_mk (not_f b233)))
              have g235 : (decide (0 < x7_1)) = false := (and_fr b226 b233)
              exact L_skip rfl rfl (ltb rfl) (d234.trans (congrArg Value.bool g235)) rfl rfl (ltb rfl) <| L_nil <| stepEnd rfl rfl (Ext.refl w221) ⟨fun h => absurd (b226.symm.trans h) (by decide), fun _ => rfl⟩
            · exact L_skipU rfl rfl (ltb rfl) ((hd224 10 rfl).2 b233) rfl (ltb rfl) <| L_nil <| stepEnd rfl rfl (Ext.refl w221) ⟨fun h => absurd (b226.symm.trans h) (by decide), fun _ => rfl⟩
        · intro s236 w237 e238 hf239 hd240 hu241
          rcases bool_two (impl_TreeOK.e3 a0 x7_1) with b242 | b242
          · have g243 : (decide (0 < x7_1)) = true := (and_r b242)
            have d244 : s236 22 = (.bool (decide (0 < x7_1))) := ((hd240 10 rfl).1 (not_mk (not_f (and_l b242))))
            have d245 : s236 22 = (.bool (decide (0 < x7_1))) := ((hd240 10 rfl).1 (not_mk (not_f (and_l b242))))
            obtain ⟨p246, h247, h248⟩ := ((hd240 15 rfl).1 (and_mk (not_mk (not_f (and_l b242))) (and_r b242)))
            exact L_op (.guard 10 true 22 rfl rfl (ltb rfl) (d244.trans (congrArg Value.bool g243))) rfl (ltb rfl) (X_loadF Tryd.isAgg9 (j := 1) h248 h247 rfl) <| L_nil <| stepEnd rfl rfl (Ext.refl w237) ⟨fun _ => rfl, fun h => absurd (b242.symm.trans h) (by decide)⟩
          · rcases bool_two (!(impl_TreeOK.e2 a0 x7_1)) with b249 | b249
            · have d250 : s236 22 = (.bool (decide (0 < x7_1))) := ((hd240 10 rfl).1 (not_mk (not_f b249)))
              have g251 : (decide (0 < x7_1)) = false := (and_fr b242 b249)
              exact L_skip rfl rfl (ltb rfl) (d250.trans (congrArg Value.bool g251)) rfl rfl (ltb rfl) <| L_nil <| stepEnd rfl rfl (Ext.refl w237) ⟨fun h => absurd (b242.symm.trans h) (by decide), fun _ => rfl⟩
            · exact L_skipU rfl rfl (ltb rfl) ((hd240 10 rfl).2 b249) rfl (ltb rfl) <| L_nil <| stepEnd rfl rfl (Ext.refl w237) ⟨fun h => absurd (b242.symm.trans h) (by decide), fun _ => rfl⟩
        · intro s252 w253 e254 hf255 hd256 hu257
          rcases bool_two (impl_TreeOK.e3 a0 x7_1) with b258 | b258
          · have g259 : (decide (0 < x7_1)) = true := (and_r b258)
            have d260 : s252 22 = (.bool (decide (0 < x7_1))) := ((hd256 10 rfl).1 (not_mk (not_f (and_l b258))))
            have d261 : s252 22 = (.bool (decide (0 < x7_1))) := ((hd256 10 rfl).1 (not_mk (not_f (and_l b258))))
            exact L_op (.guard 10 true 22 rfl rfl (ltb rfl) (d260.trans (congrArg Value.bool g259))) rfl (ltb rfl) (X_fieldAddr Tryd.underlying42 rfl Tryd.sizeOf9 rfl (hf255 4 rfl)) <| L_nil <| stepEnd rfl rfl (Ext.refl w253) ⟨fun _ => rfl, fun h => absurd (b258.symm.trans h) (by decide)⟩
          · rcases bool_two (!(impl_TreeOK.e2 a0 x7_1)) with b262 | b262
            · have d263 : s252 22 = (.bool (decide (0 < x7_1))) := ((hd256 10 rfl).1 (not_mk (not_f b262)))
              have g264 : (decide (0 < x7_1)) = false := (and_fr b258 b262)
              exact L_skip rfl rfl (ltb rfl) (d263.trans (congrArg Value.bool g264)) rfl rfl (ltb rfl) <| L_nil <| stepEnd rfl rfl (Ext.refl w253) ⟨fun h => absurd (b258.symm.trans h) (by decide), fun _ => rfl⟩
            · exact L_skipU rfl rfl (ltb rfl) ((hd256 10 rfl).2 b262) rfl (ltb rfl) <| L_nil <| stepEnd rfl rfl (Ext.refl w253) ⟨fun h => absurd (b258.symm.trans h) (by decide), fun _ => rfl⟩
        · intro s265 w266 e267 hf268 hd269 hu270
          rcases bool_two (impl_TreeOK.e3 a0 x7_1) with b271 | b271
          · have g272 : (decide (0 < x7_1)) = true := (and_r b271)
            have d273 : s265 22 = (.bool (decide (0 < x7_1))) := ((hd269 10 rfl).1 (not_mk (not_f (and_l b271))))
            have d274 : s265 22 = (.bool (decide (0 < x7_1))) := ((hd269 10 rfl).1 (not_mk (not_f (and_l b271))))
            have d275 : s265 29 = (.pointer (some ⟨b22, 1, none⟩)) := ((hd269 17 rfl).1 (and_mk (not_mk (not_f (and_l b271))) (and_r b271)))
            exact L_op (.guard 10 true 22 rfl rfl (ltb rfl) (d273.trans (congrArg Value.bool g272))) rfl (ltb rfl) (X_loadB Tryd.isAgg9 (Blk.ext k30 e267) d275 rfl) <| L_nil <| stepEnd rfl rfl (Ext.refl w266) ⟨fun _ => rfl, fun h => absurd (b271.symm.trans h) (by decide)⟩
          · rcases bool_two (!(impl_TreeOK.e2 a0 x7_1)) with b276 | b276
            · have d277 : s265 22 = (.bool (decide (0 < x7_1))) := ((hd269 10 rfl).1 (not_mk (not_f b276)))
              have g278 : (decide (0 < x7_1)) = false := (and_fr b271 b276)
              exact L_skip rfl rfl (ltb rfl) (d277.trans (congrArg Value.bool g278)) rfl rfl (ltb rfl) <| L_nil <| stepEnd rfl rfl (Ext.refl w266) ⟨fun h => absurd (b271.symm.trans h) (by decide), fun _ => rfl⟩
            · exact L_skipU rfl rfl (ltb rfl) ((hd269 10 rfl).2 b276) rfl (ltb rfl) <| L_nil <| stepEnd rfl rfl (Ext.refl w266) ⟨fun h => absurd (b271.symm.trans h) (by decide), fun _ => rfl⟩
        · intro s279 w280 e281 hf282 hd283 hu284
          rcases bool_two (impl_TreeOK.e3 a0 x7_1) with b285 | b285
          · have g286 : (decide (0 < x7_1)) = true := (and_r b285)
            have d287 : s279 22 = (.bool (decide (0 < x7_1))) := ((hd283 10 rfl).1 (not_mk (not_f (and_l b285))))
            have d288 : s279 22 = (.bool (decide (0 < x7_1))) := ((hd283 10 rfl).1 (not_mk (not_f (and_l b285))))
            have d289 : s279 28 = (S ((gt a0 (IntKind.wrap .i64 (x7_1 - 1))).path)) := ((hd283 16 rfl).1 (and_mk (not_mk (not_f (and_l b285))) (and_r b285)))
            have d290 : s279 30 = (S ((gt a0 x7_1).path)) := ((hd283 18 rfl).1 (and_mk (not_mk (not_f (and_l b285))) (and_r b285)))
            exact L_callP (.guard 10 true 22 rfl rfl (ltb rfl) (d287.trans (congrArg Value.bool g286))) rfl (ltb rfl) rfl Tryd.call72 (impl_PathLess.calls (w := w280) (a0 := (gt a0 (IntKind.wrap .i64 (x7_1 - 1))).path) (a1 := (gt a0 x7_1).path) (GV.ext gv (Ext.trans (Ext.trans e13 (Below.trans e26 (Wr.below h29 (Nat.le_of_eq z24)))) e281))) (cons2 d289 (cons2 d290 rfl)) <| fun w291 e292 => L_nil <| stepEnd rfl rfl e292 ⟨fun _ => rfl, fun h => absurd (b285.symm.trans h) (by decide)⟩
          · rcases bool_two (!(impl_TreeOK.e2 a0 x7_1)) with b293 | b293
            · have d294 : s279 22 = (.bool (decide (0 < x7_1))) := ((hd283 10 rfl).1 (not_mk (not_f b293)))
              have g295 : (decide (0 < x7_1)) = false := (and_fr b285 b293)
              exact L_skip rfl rfl (ltb rfl) (d294.trans (congrArg Value.bool g295)) rfl rfl (ltb rfl) <| L_nil <| stepEnd rfl rfl (Ext.refl w280) ⟨fun h => absurd (b285.symm.trans h) (by decide), fun _ => rfl⟩
            · exact L_skipU rfl rfl (ltb rfl) ((hd283 10 rfl).2 b293) rfl (ltb rfl) <| L_nil <| stepEnd rfl rfl (Ext.refl w280) ⟨fun h => absurd (b285.symm.trans h) (by decide), fun _ => rfl⟩
        · intro s296 w297 e298 hf299 hd300 hu301
          rcases bool_two (impl_TreeOK.e3 a0 x7_1) with b302 | b302
          · have g303 : (decide (0 < x7_1)) = true := (and_r b302)
            have d304 : s296 22 = (.bool (decide (0 < x7_1))) := ((hd300 10 rfl).1 (not_mk (not_f (and_l b302))))
            have d305 : s296 22 = (.bool (decide (0 < x7_1))) := ((hd300 10 rfl).1 (not_mk (not_f (and_l b302))))
            have d306 : s296 31 = (.bool (impl_TreeOK.e4 a0 x7_1)) := ((hd300 19 rfl).1 (and_mk (not_mk (not_f (and_l b302))) (and_r b302)))
            exact L_op (.guard 10 true 22 rfl rfl (ltb rfl) (d304.trans (congrArg Value.bool g303))) rfl (ltb rfl) (X_not d306) <| L_nil <| stepEnd rfl rfl (Ext.refl w297) ⟨fun _ => rfl, fun h => absurd (b302.symm.trans h) (by decide)⟩
          · rcases bool_two (!(impl_TreeOK.e2 a0 x7_1)) with b307 | b307
            · have d308 : s296 22 = (.bool (decide (0 < x7_1))) := ((hd300 10 rfl).1 (not_mk (not_f b307)))
              have g309 : (decide (0 < x7_1)) = false := (and_fr b302 b307)
              exact L_skip rfl rfl (ltb rfl) (d308.trans (congrArg Value.bool g309)) rfl rfl (ltb rfl) <| L_nil <| stepEnd rfl rfl (Ext.refl w297) ⟨fun h => absurd (b302.symm.trans h) (by decide), fun _ => rfl⟩
            · exact L_skipU rfl rfl (ltb rfl) ((hd300 10 rfl).2 b307) rfl (ltb rfl) <| L_nil <| stepEnd rfl rfl (Ext.refl w297) ⟨fun h => absurd (b302.symm.trans h) (by decide), fun _ => rfl⟩
        · intro s310 w311 e312 hf313 hd314 hu315
          rcases bool_two (!(impl_TreeOK.e2 a0 x7_1)) with b316 | b316
          · have g317 : (impl_TreeOK.e2 a0 x7_1) = false := (not_f b316)
            have d318 : s310 19 = (.bool (impl_TreeOK.e2 a0 x7_1)) := (hd314 7 rfl)
            rcases bool_two (decide (0 < x7_1)) with b319 | b319
            · have d320 : s310 22 = (.bool (decide (0 < x7_1))) := ((hd314 10 rfl).1 (not_mk (not_f b316)))
              have d321 : s310 32 = (.bool (!(impl_TreeOK.e4 a0 x7_1))) := ((hd314 20 rfl).1 (and_mk (not_mk (not_f b316)) b319))
              exact L_op (.guard 7 false 19 rfl rfl (ltb rfl) (d318.trans (congrArg Value.bool g317))) rfl (ltb rfl) (X_pick (b := true) (v := (.bool (!(impl_TreeOK.e4 a0 x7_1)))) (d320.trans (congrArg Value.bool b319)) d321) <| L_nil <| stepEnd rfl rfl (Ext.refl w311) ⟨fun _ => (and_t b319), fun h => absurd (b316.symm.trans h) (by decide)⟩
            · have d322 : s310 22 = (.bool (decide (0 < x7_1))) := ((hd314 10 rfl).1 (not_mk (not_f b316)))
              exact L_op (.guard 7 false 19 rfl rfl (ltb rfl) (d318.trans (congrArg Value.bool g317))) rfl (ltb rfl) (X_pick (b := false) (v := (.bool false)) (d322.trans (congrArg Value.bool b319)) rfl) <| L_nil <| stepEnd rfl rfl (Ext.refl w311) ⟨fun _ => (and_f b319), fun h => absurd (b316.symm.trans h) (by decide)⟩
          · have d323 : s310 19 = (.bool (impl_TreeOK.e2 a0 x7_1)) := (hd314 7 rfl)
            have g324 : (impl_TreeOK.e2 a0 x7_1) = true := (not_ff b316)
            exact L_skip rfl rfl (ltb rfl) (d323.trans (congrArg Value.bool g324)) rfl rfl (ltb rfl) <| L_nil <| stepEnd rfl rfl (Ext.refl w311) ⟨fun h => absurd (b316.symm.trans h) (by decide), fun _ => rfl⟩
        · intro s325 w326 e327 hf328 hd329 hu330
          rcases bool_two (impl_TreeOK.e2 a0 x7_1) with b331 | b331
          · have d332 : s325 19 = (.bool (impl_TreeOK.e2 a0 x7_1)) := (hd329 7 rfl)
            exact L_op (.plain rfl) rfl (ltb rfl) (X_pick (b := true) (v := (.bool true)) (d332.trans (congrArg Value.bool b331)) rfl) <| L_nil <| stepEnd rfl rfl (Ext.refl w326) (or_t b331)
          · have d333 : s325 19 = (.bool (impl_TreeOK.e2 a0 x7_1)) := (hd329 7 rfl)
            have d334 : s325 33 = (.bool ((decide (0 < x7_1)) && (!(impl_TreeOK.e4 a0 x7_1)))) := ((hd329 21 rfl).1 (not_mk b331))
            exact L_op (.plain rfl) rfl (ltb rfl) (X_pick (b := false) (v := (.bool ((decide (0 < x7_1)) && (!(impl_TreeOK.e4 a0 x7_1))))) (d333.trans (congrArg Value.bool b331)) d334) <| L_nil <| stepEnd rfl rfl (Ext.refl w326) (or_f b331)
        · intro s335 w336 e337 hf338 hd339 hu340
          have d341 : s335 34 = (.bool (impl_TreeOK.e1 a0 x7_1)) := (hd339 22 rfl)
          exact L_op (.plain rfl) rfl (ltb rfl) (X_move d341) <| L_nil <| stepEnd rfl rfl (Ext.refl w336) rfl
        · intro s342 w343 e344 hf345 hd346 hu347
          rcases bool_two (!(impl_TreeOK.e1 a0 x7_1)) with b348 | b348
          · have g349 : (impl_TreeOK.e1 a0 x7_1) = false := (not_f b348)
            have d350 : s342 35 = (.bool (impl_TreeOK.e1 a0 x7_1)) := (hd346 23 rfl)
            have d351 : s342 35 = (.bool (impl_TreeOK.e1 a0 x7_1)) := (hd346 23 rfl)
            exact L_op (.guard 23 false 35 rfl rfl (ltb rfl) (d350.trans (congrArg Value.bool g349))) rfl (ltb rfl) (X_move (v := v_a0) ((hf345 0 rfl).trans (K12 0 rfl))) <| L_nil <| stepEnd rfl rfl (Ext.refl w343) ⟨fun _ => rfl, fun h => absurd (b348.symm.trans h) (by decide)⟩
          · have d352 : s342 35 = (.bool (impl_TreeOK.e1 a0 x7_1)) := (hd346 23 rfl)
            have g353 : (impl_TreeOK.e1 a0 x7_1) = true := (not_ff b348)
            exact L_skip rfl rfl (ltb rfl) (d352.trans (congrArg Value.bool g353)) rfl rfl (ltb rfl) <| L_nil <| stepEnd rfl rfl (Ext.refl w343) ⟨fun h => absurd (b348.symm.trans h) (by decide), fun _ => rfl⟩
        · intro s354 w355 e356 hf357 hd358 hu359
          rcases bool_two (!(impl_TreeOK.e1 a0 x7_1)) with b360 | b360
          · have g361 : (impl_TreeOK.e1 a0 x7_1) = false := (not_f b360)
            have d362 : s354 35 = (.bool (impl_TreeOK.e1 a0 x7_1)) := (hd358 23 rfl)
            have d363 : s354 35 = (.bool (impl_TreeOK.e1 a0 x7_1)) := (hd358 23 rfl)
            exact L_op (.guard 23 false 35 rfl rfl (ltb rfl) (d362.trans (congrArg Value.bool g361))) rfl (ltb rfl) (X_move (v := (.int .i64 x7_1)) (hf357 3 rfl)) <| L_nil <| stepEnd rfl rfl (Ext.refl w355) ⟨fun _ => rfl, fun h => absurd (b360.symm.trans h) (by decide)⟩
          · have d364 : s354 35 = (.bool (impl_TreeOK.e1 a0 x7_1)) := (hd358 23 rfl)
            have g365 : (impl_TreeOK.e1 a0 x7_1) = true := (not_ff b360)
            exact L_skip rfl rfl (ltb rfl) (d364.trans (congrArg Value.bool g365)) rfl rfl (ltb rfl) <| L_nil <| stepEnd rfl rfl (Ext.refl w355) ⟨fun h => absurd (b360.symm.trans h) (by decide), fun _ => rfl⟩
        · intro s366 w367 e368 hf369 hd370 hu371
          rcases bool_two (!(impl_TreeOK.e1 a0 x7_1)) with b372 | b372
          · have g373 : (impl_TreeOK.e1 a0 x7_1) = false := (not_f b372)
            have d374 : s366 35 = (.bool (impl_TreeOK.e1 a0 x7_1)) := (hd370 23 rfl)
            have d375 : s366 35 = (.bool (impl_TreeOK.e1 a0 x7_1)) := (hd370 23 rfl)
            have d376 : s366 36 = v_a0 := ((hd370 24 rfl).1 (not_mk (not_f b372)))
            have d377 : s366 37 = (.int .i64 x7_1) := ((hd370 25 rfl).1 (not_mk (not_f b372)))
            have c378 := imp_take b372 c38
            exact L_sub (.guard 23 false 35 rfl rfl (ltb rfl) (d374.trans (congrArg Value.bool g373))) rfl (ltb rfl) rfl Tryd.underlying38 Tryd.sizeOf42 d376 (Rd.ext f_a0 (Ext.trans (Ext.trans e13 (Below.trans e26 (Wr.below h29 (Nat.le_of_eq z24)))) e368)) (l := 0) (h := x7_1) rfl ⟨_, d377⟩ c378 <| fun v379 h380 => L_nil <| stepEnd rfl rfl (Ext.refl w367) ⟨fun _ => h380, fun h => absurd (b372.symm.trans h) (by decide)⟩
          · have d381 : s366 35 = (.bool (impl_TreeOK.e1 a0 x7_1)) := (hd370 23 rfl)
            have g382 : (impl_TreeOK.e1 a0 x7_1) = true := (not_ff b372)
            exact L_skip rfl rfl (ltb rfl) (d381.trans (congrArg Value.bool g382)) rfl rfl (ltb rfl) <| L_nil <| stepEnd rfl rfl (Ext.refl w367) ⟨fun h => absurd (b372.symm.trans h) (by decide), fun _ => rfl⟩
        · intro s383 w384 e385 hf386 hd387 hu388
          rcases bool_two (!(impl_TreeOK.e1 a0 x7_1)) with b389 | b389
          · have g390 : (impl_TreeOK.e1 a0 x7_1) = false := (not_f b389)
            have d391 : s383 35 = (.bool (impl_TreeOK.e1 a0 x7_1)) := (hd387 23 rfl)
            have d392 : s383 35 = (.bool (impl_TreeOK.e1 a0 x7_1)) := (hd387 23 rfl)
            exact L_op (.guard 23 false 35 rfl rfl (ltb rfl) (d391.trans (congrArg Value.bool g390))) rfl (ltb rfl) (X_fieldAddr Tryd.underlying42 rfl Tryd.sizeOf9 rfl (hf386 4 rfl)) <| L_nil <| stepEnd rfl rfl (Ext.refl w384) ⟨fun _ => rfl, fun h => absurd (b389.symm.trans h) (by decide)⟩
          · have d393 : s383 35 = (.bool (impl_TreeOK.e1 a0 x7_1)) := (hd387 23 rfl)
            have g394 : (impl_TreeOK.e1 a0 x7_1) = true := (not_ff b389)
            exact L_skip rfl rfl (ltb rfl) (d393.trans (congrArg Value.bool g394)) rfl rfl (ltb rfl) <| L_nil <| stepEnd rfl rfl (Ext.refl w384) ⟨fun h => absurd (b389.symm.trans h) (by decide), fun _ => rfl⟩
        · intro s395 w396 e397 hf398 hd399 hu400
          rcases bool_two (!(impl_TreeOK.e1 a0 x7_1)) with b401 | b401
          · have g402 : (impl_TreeOK.e1 a0 x7_1) = false := (not_f b401)
            have d403 : s395 35 = (.bool (impl_TreeOK.e1 a0 x7_1)) := (hd399 23 rfl)
            have d404 : s395 35 = (.bool (impl_TreeOK.e1 a0 x7_1)) := (hd399 23 rfl)
            have d405 : s395 39 = (.pointer (some ⟨b22, 1, none⟩)) := ((hd399 27 rfl).1 (not_mk (not_f b401)))
            exact L_op (.guard 23 false 35 rfl rfl (ltb rfl) (d403.trans (congrArg Value.bool g402))) rfl (ltb rfl) (X_loadB Tryd.isAgg9 (Blk.ext k30 e397) d405 rfl) <| L_nil <| stepEnd rfl rfl (Ext.refl w396) ⟨fun _ => rfl, fun h => absurd (b401.symm.trans h) (by decide)⟩
          · have d406 : s395 35 = (.bool (impl_TreeOK.e1 a0 x7_1)) := (hd399 23 rfl)
            have g407 : (impl_TreeOK.e1 a0 x7_1) = true := (not_ff b401)
            exact L_skip rfl rfl (ltb rfl) (d406.trans (congrArg Value.bool g407)) rfl rfl (ltb rfl) <| L_nil <| stepEnd rfl rfl (Ext.refl w396) ⟨fun h => absurd (b401.symm.trans h) (by decide), fun _ => rfl⟩
        · intro s408 w409 e410 hf411 hd412 hu413
          rcases bool_two (!(impl_TreeOK.e1 a0 x7_1)) with b414 | b414
          · have g415 : (impl_TreeOK.e1 a0 x7_1) = false := (not_f b414)
            have d416 : s408 35 = (.bool (impl_TreeOK.e1 a0 x7_1)) := (hd412 23 rfl)
            have d417 : s408 35 = (.bool (impl_TreeOK.e1 a0 x7_1)) := (hd412 23 rfl)
            have d418 : s408 40 = (S ((gt a0 x7_1).path)) := ((hd412 28 rfl).1 (not_mk (not_f b414)))
            have c419 := imp_take b414 c41
            exact L_callP (.guard 23 false 35 rfl rfl (ltb rfl) (d416.trans (congrArg Value.bool g415))) rfl (ltb rfl) rfl Tryd.call47 (impl_parent.calls (w := w409) (a0 := (gt a0 x7_1).path) (of_decide_eq_true c419)) (cons2 d418 rfl) <| fun w420 e421 => L_nil <| stepEnd rfl rfl e421 ⟨fun _ => rfl, fun h => absurd (b414.symm.trans h) (by decide)⟩
          · have d422 : s408 35 = (.bool (impl_TreeOK.e1 a0 x7_1)) := (hd412 23 rfl)
            have g423 : (impl_TreeOK.e1 a0 x7_1) = true := (not_ff b414)
            exact L_skip rfl rfl (ltb rfl) (d422.trans (congrArg Value.bool g423)) rfl rfl (ltb rfl) <| L_nil <| stepEnd rfl rfl (Ext.refl w409) ⟨fun h => absurd (b414.symm.trans h) (by decide), fun _ => rfl⟩
        · intro s424 w425 e426 hf427 hd428 hu429
          rcases bool_two (!(impl_TreeOK.e1 a0 x7_1)) with b430 | b430
          · have g431 : (impl_TreeOK.e1 a0 x7_1) = false := (not_f b430)
            have d432 : s424 35 = (.bool (impl_TreeOK.e1 a0 x7_1)) := (hd428 23 rfl)
            have d433 : s424 35 = (.bool (impl_TreeOK.e1 a0 x7_1)) := (hd428 23 rfl)
            have d434 : Rd 4 encNd w425 (s424 38) (sub a0 0 x7_1) := ((hd428 26 rfl).1 (not_mk (not_f b430)))
            have d435 : s424 41 = (S (parentP ((gt a0 x7_1).path))) := ((hd428 29 rfl).1 (not_mk (not_f b430)))
            have c436 := imp_take b430 c44
            exact L_callP (.guard 23 false 35 rfl rfl (ltb rfl) (d432.trans (congrArg Value.bool g431))) rfl (ltb rfl) rfl Tryd.call46 (impl_isDir.calls (w := w425) (a0 := sub a0 0 x7_1) (a1 := (parentP ((gt a0 x7_1).path))) d434 (of_decide_eq_true c436)) (cons2 rfl (cons2 d435 rfl)) <| fun w437 e438 => L_nil <| stepEnd rfl rfl e438 ⟨fun _ => rfl, fun h => absurd (b430.symm.trans h) (by decide)⟩
          · have d439 : s424 35 = (.bool (impl_TreeOK.e1 a0 x7_1)) := (hd428 23 rfl)
            have g440 : (impl_TreeOK.e1 a0 x7_1) = true := (not_ff b430)
            exact L_skip rfl rfl (ltb rfl) (d439.trans (congrArg Value.bool g440)) rfl rfl (ltb rfl) <| L_nil <| stepEnd rfl rfl (Ext.refl w425) ⟨fun h => absurd (b430.symm.trans h) (by decide), fun _ => rfl⟩
        · intro s441 w442 e443 hf444 hd445 hu446
          rcases bool_two (!(impl_TreeOK.e1 a0 x7_1)) with b447 | b447
          · have g448 : (impl_TreeOK.e1 a0 x7_1) = false := (not_f b447)
            have d449 : s441 35 = (.bool (impl_TreeOK.e1 a0 x7_1)) := (hd445 23 rfl)
            have d450 : s441 35 = (.bool (impl_TreeOK.e1 a0 x7_1)) := (hd445 23 rfl)
            have d451 : s441 42 = (.bool (isDirN (sub a0 0 x7_1) (parentP ((gt a0 x7_1).path)))) := ((hd445 30 rfl).1 (not_mk (not_f b447)))
            exact L_op (.guard 23 false 35 rfl rfl (ltb rfl) (d449.trans (congrArg Value.bool g448))) rfl (ltb rfl) (X_not d451) <| L_nil <| stepEnd rfl rfl (Ext.refl w442) ⟨fun _ => rfl, fun h => absurd (b447.symm.trans h) (by decide)⟩
          · have d452 : s441 35 = (.bool (impl_TreeOK.e1 a0 x7_1)) := (hd445 23 rfl)
            have g453 : (impl_TreeOK.e1 a0 x7_1) = true := (not_ff b447)
            exact L_skip rfl rfl (ltb rfl) (d452.trans (congrArg Value.bool g453)) rfl rfl (ltb rfl) <| L_nil <| stepEnd rfl rfl (Ext.refl w442) ⟨fun h => absurd (b447.symm.trans h) (by decide), fun _ => rfl⟩
        · intro s454 w455 e456 hf457 hd458 hu459
          rcases bool_two (impl_TreeOK.e1 a0 x7_1) with b460 | b460
          · have d461 : s454 35 = (.bool (impl_TreeOK.e1 a0 x7_1)) := (hd458 23 rfl)
            exact L_op (.plain rfl) rfl (ltb rfl) (X_pick (b := true) (v := (.bool true)) (d461.trans (congrArg Value.bool b460)) rfl) <| L_nil <| stepEnd rfl rfl (Ext.refl w455) (or_t b460)
          · have d462 : s454 35 = (.bool (impl_TreeOK.e1 a0 x7_1)) := (hd458 23 rfl)
            have d463 : s454 43 = (.bool (!(isDirN (sub a0 0 x7_1) (parentP ((gt a0 x7_1).path))))) := ((hd458 31 rfl).1 (not_mk b460))
            exact L_op (.plain rfl) rfl (ltb rfl) (X_pick (b := false) (v := (.bool (!(isDirN (sub a0 0 x7_1) (parentP ((gt a0 x7_1).path)))))) (d462.trans (congrArg Value.bool b460)) d463) <| L_nil <| stepEnd rfl rfl (Ext.refl w455) (or_f b460)
        intro s464 w465 e466 hf467 ha468
        have K469 := Kp.ofD (kp := [(12, 45)]) rfl hf467
        have d470 : s464 44 = (.bool ((impl_TreeOK.e1 a0 x7_1) || (!(isDirN (sub a0 0 x7_1) (parentP ((gt a0 x7_1).path)))))) := ha468 32 rfl
        clear ha468 hf467
        refine thn_n ?_
        rcases bif_two H with ⟨q471, H⟩ | ⟨q471, H⟩
        · refine W_true (d470.trans (congrArg Value.bool q471)) <| W_seq <| W_reg <| L_op (.plain rfl) rfl (ltb rfl) (X_assign (v := (.bool false)) rfl) <| L_nil <| thn_n <| W_ret <| blk_r <| thn_r <| thn_r <| blk_r <| thn_r <| thn_r <| fin_r ?_
          obtain rfl := Option.some.inj H
          obtain rfl := Option.some.inj S17
          have H := C4
          obtain rfl := Option.some.inj H
          exact fin1 rfl (Ext.trans (Ext.trans e13 (Below.trans e26 (Wr.below h29 (Nat.le_of_eq z24)))) e466)
        · refine W_false (d470.trans (congrArg Value.bool q471)) <| W_skip <| blk_n <| thn_n <| W_reg <| L_op (.plain rfl) rfl (ltb rfl) (X_add ((K469 7 rfl).trans h15) rfl) <| L_op (.plain rfl) rfl (ltb rfl) (X_move (v := (.int .i64 (IntKind.wrap .i64 (x7_1 + 1)))) rfl) <| L_nil <| thn_n ?_
          obtain rfl := Option.some.inj H
          exact ⟨_, Nat.lt_succ_self _, IntKind.wrap .i64 (x7_1 + 1), (Kp.upd (Kp.upd (Kp.cut (Kp.upd (Kp.upd (Kp.upd (Kp.upd (Kp.upd (Kp.upd K12 rfl) rfl) rfl) rfl) rfl) rfl) K469 rfl) rfl) rfl), rfl, (Ext.trans (Ext.trans e13 (Below.trans e26 (Wr.below h29 (Nat.le_of_eq z24)))) e466), S17⟩
      · refine W_false (congrArg Value.bool q18) <| W_exit <| thn_x <| thn_x <| blk_x <| thn_n ?_
        obtain rfl := Option.some.inj H
        obtain rfl := Option.some.inj S17
        exact ⟨(Kp.upd K12 rfl), e13, rfl⟩
  · rintro s6 w5 ⟨K7, e8, y472⟩
    rw [y472] at C4
    have H := C4
    replace H : _ = some _ := H
    refine thn_n <| W_seq <| W_reg <| L_op (.plain rfl) rfl (ltb rfl) (X_assign (v := (.bool true)) rfl) <| L_nil <| thn_n <| W_ret <| fin_r ?_
    obtain rfl := Option.some.inj H
    exact fin1 rfl e8
theorem impl_TreeOK.calls {w : World} {a0 : List Nd} (gv : GV 0 w) {v_a0 : Value} (f_a0 : Rd 4 encNd w v_a0 a0) (h0 : a0.length ≤ 1048576) (h1 : ∀ x ∈ a0, x.path.length ≤ 1048576) :
    Calls Tryd.prog 43 #[v_a0] w (Rt (RP w (.bool (treeOK a0)))) := by
  obtain ⟨k, h⟩ := impl_TreeOK.eq a0 h0 h1
  exact impl_TreeOK.walk gv f_a0 h
/-! impl.isLongList(impl.Node) -/
theorem impl_isLongListN.walk {w : World} {a0 : List Nd} {v_a0 : Value} (f_a0 : Rd 4 encNd w v_a0 a0) {r : Bool} (H : impl_isLongListN.sh a0 = some r) :
    Calls Tryd.prog 42 #[v_a0] w (Rt (RP w (.bool r))) := by
  unfold impl_isLongListN.sh at H
  refine calls_of_W Tryd.func42 rfl (Nat.le_of_ble_eq_true rfl) Tryd.ntmps42 rfl ?_
  refine W_seq <| W_reg <| L_op (.plain rfl) rfl (ltb rfl) (X_assign (v := (.bool false)) rfl) <| L_nil <| thn_n <| W_seq <| W_reg <| L_op (.plain rfl) rfl (ltb rfl) (X_move (v := v_a0) rfl) <| L_op (.plain rfl) rfl (ltb rfl) (X_lenR Tryd.underlying38 rfl f_a0) <| L_op (.plain rfl) rfl (ltb rfl) (X_gtr rfl rfl) <| L_op (.plain rfl) rfl (ltb rfl) (X_assign (v := (.bool (decide (4096 < (a0.length : Int))))) rfl) <| L_nil <| thn_n <| W_ret <| fin_r ?_
  obtain rfl := Option.some.inj H
  exact fin1 rfl (Ext.refl w)
theorem impl_isLongListN.calls {w : World} {a0 : List Nd} {v_a0 : Value} (f_a0 : Rd 4 encNd w v_a0 a0) :
    Calls Tryd.prog 42 #[v_a0] w (Rt (RP w (.bool (decide (4096 < a0.length))))) := impl_isLongListN.walk f_a0 (impl_isLongListN.eq a0)
/-! impl.records -/
theorem impl_records.walk {k : Nat} {w : World} {a0 : List Nd} {v_a0 : Value} (f_a0 : Rd 4 encNd w v_a0 a0) {r : List Rec} (H : impl_records.sh k a0 = some r) :
    Calls Tryd.prog 84 #[v_a0] w (Rt (RO 25 5 encRec w r)) := by
  unfold impl_records.sh at H
  refine calls_of_W Tryd.func84 rfl (Nat.le_of_ble_eq_true rfl) Tryd.ntmps84 rfl ?_
  refine W_seq <| W_reg <| L_op (.plain rfl) rfl (ltb rfl) (X_assign (v := (.slice none 0 0)) rfl) <| L_nil <| thn_n <| W_seq <| W_reg <| L_lit (.plain rfl) rfl (ltb rfl) rfl Tryd.underlying59 Tryd.sizeOf25 Tryd.zeroValue25 rfl rfl rfl (vs := []) rfl (lit_all rfl) <| fun b1 w2 z3 z4 e5 k6 => L_op (.plain rfl) rfl (ltb rfl) (X_assign (v := (.slice (some ⟨b1, 0, none⟩) 0 0)) rfl) <| L_nil <| thn_n <| W_seq <| W_seq <| W_reg <| L_op (.plain rfl) rfl (ltb rfl) (X_move (v := v_a0) rfl) <| L_op (.plain rfl) rfl (ltb rfl) (X_lenR Tryd.underlying38 rfl (Rd.ext f_a0 e5)) <| L_op (.plain rfl) rfl (ltb rfl) (X_move (v := (.int .i64 0)) rfl) <| L_nil <| thn_n ?_
  obtain ⟨z10, L11, C12⟩ := bind_some H
  clear H
  refine  W_cutQ (fun s0 sQ wQ => ∃ (x3_13 : List Rec) (v14 : Value), Kp [(3, 4), (5, 6), (9, 19)] s0 sQ ∧ sQ 3 = v14 ∧ Ow 25 5 encRec w2.heap.size wQ v14 x3_13 ∧ Ext w2 wQ ∧ z10 = .inr x3_13) ?_ ?_
  · refine W_block <| W_loopI (fun s0 kk sQ wQ => ∃ (x3_7 : List Rec) (v8 : Value) (x9_9 : Int), Kp [(3, 4), (5, 6), (9, 19)] s0 sQ ∧ sQ 3 = v8 ∧ Ow 25 5 encRec w2.heap.size wQ v8 x3_7 ∧ sQ 9 = .int .i64 x9_9 ∧ Ext w2 wQ ∧ loopF (impl_records.b1 a0) kk (x3_7, x9_9) = some z10) k ⟨([] : List Rec), (.slice (some ⟨b1, 0, none⟩) 0 0), 0, (Kp.refl _ _), rfl, (Ow.zero), rfl, (Ext.refl w2), L11⟩ ?_
    rintro k19 s20 w21 ⟨x3_7, v8, x9_9, K22, h25, h26, h27, e23, L24⟩
    cases k19 with
    | zero => exact absurd L24 (by simp [loopF])
    | succ k19 =>
      obtain ⟨t28, H, S29⟩ := loopF_succ L24
      clear L24
      unfold impl_records.b1 at H
      refine W_seq <| W_reg <| L_op (.plain rfl) rfl (ltb rfl) (X_lss h27 (K22 8 rfl)) <| L_nil <| thn_n <| W_seq ?_
      rcases bif_two H with ⟨q30, H⟩ | ⟨q30, H⟩
      · refine W_true (congrArg Value.bool q30) <| W_skip <| thn_n <| W_seq <| W_block <| W_seq <| W_reg ?_
        obtain ⟨c31, H⟩ := bif_some H
        refine L_idx (.plain rfl) rfl (ltb rfl) rfl Tryd.underlying38 Tryd.sizeOf42 (K22 7 rfl) (Rd.ext f_a0 (Ext.trans e5 e23)) h27 c31 <| fun p32 h33 => L_op (.plain rfl) rfl (ltb rfl) (X_loadS Tryd.isAgg42 Tryd.sizeOf42 rfl rfl h33) <| L_alloc (.plain rfl) rfl (ltb rfl) rfl Tryd.zeroValue42 <| fun b34 w35 z36 z37 e38 k39 => L_storeA (.plain rfl) rfl rfl Tryd.sizeOf42 rfl rfl rfl rfl rfl k39 <| fun w40 h41 k42 => L_nil <| thn_n <| W_reg <| L_op (.plain rfl) rfl (ltb rfl) (X_move (v := v8) h25) <| L_op (.plain rfl) rfl (ltb rfl) (X_loadS Tryd.isAgg42 Tryd.sizeOf42 rfl rfl (Blk.at0 k42)) <| L_callP (.plain rfl) rfl (ltb rfl) rfl Tryd.call74 (impl_Node_record.calls (w := w40) (a0 := (gt a0 x9_9))) rfl <| fun w43 e44 => L_lit (.plain rfl) rfl (ltb rfl) rfl Tryd.underlying59 Tryd.sizeOf25 Tryd.zeroValue25 rfl rfl rfl (vs := [(.agg (encRec (recOf (gt a0 x9_9))).toArray)]) rfl (lit_all rfl) <| fun b45 w46 z47 z48 e49 k50 => ?_
        obtain ⟨c51, H⟩ := bif_some H
        refine L_append (enc := encRec) (.plain rfl) rfl (ltb rfl) rfl El.t59 rfl rfl (Ow.ext h26 (Ext.trans (Ext.trans (Below.trans e38 (Wr.below h41 (Nat.le_of_eq z36))) e44) e49)) (Ow.rd (Ow.new (xs := [(recOf (gt a0 x9_9))]) (sz := 5) (enc := encRec) (base := w43.heap.size) k50 (Nat.le_of_eq z47) rfl (fun _ _ => by rfl) (Nat.le_of_ble_eq_true rfl))) (ones_Rec _) (of_decide_eq_true c51) ((Ext.trans (Ext.trans (Ext.trans e23 (Below.trans e38 (Wr.below h41 (Nat.le_of_eq z36)))) e44) e49)).size <| fun v52 w53 o54 z55 g56 => L_op (.plain rfl) rfl (ltb rfl) (X_assign (v := v52) rfl) <| L_nil <| blk_n <| thn_n <| W_reg <| L_op (.plain rfl) rfl (ltb rfl) (X_add h27 rfl) <| L_op (.plain rfl) rfl (ltb rfl) (X_move (v := (.int .i64 (IntKind.wrap .i64 (x9_9 + 1)))) rfl) <| L_nil <| thn_n ?_
        obtain rfl := Option.some.inj H
        exact ⟨_, Nat.lt_succ_self _, x3_7 ++ ([(recOf (gt a0 x9_9))] : List Rec), v52, IntKind.wrap .i64 (x9_9 + 1), (Kp.upd (Kp.upd (Kp.upd (Kp.upd (Kp.upd (Kp.upd (Kp.upd (Kp.upd (Kp.upd (Kp.upd (Kp.upd (Kp.upd K22 rfl) rfl) rfl) rfl) rfl) rfl) rfl) rfl) rfl) rfl) rfl) rfl), rfl, o54, rfl, (g56 _ (Ext.trans (Ext.trans (Ext.trans e23 (Below.trans e38 (Wr.below h41 (Nat.le_of_eq z36)))) e44) e49)), S29⟩
      · refine W_false (congrArg Value.bool q30) <| W_exit <| thn_x <| thn_x <| blk_x <| thn_n ?_
        obtain rfl := Option.some.inj H
        obtain rfl := Option.some.inj S29
        exact ⟨x3_7, v8, (Kp.upd K22 rfl), h25, h26, e23, rfl⟩
  · rintro s16 w15 ⟨x3_13, v14, K17, h57, h58, e18, y59⟩
    rw [y59] at C12
    have H := C12
    replace H : _ = some _ := H
    refine thn_n <| W_seq <| W_reg <| L_op (.plain rfl) rfl (ltb rfl) (X_move (v := v14) h57) <| L_op (.plain rfl) rfl (ltb rfl) (X_assign (v := v14) rfl) <| L_nil <| thn_n <| W_ret <| fin_r ?_
    obtain rfl := Option.some.inj H
    exact fin1o rfl (Ext.trans e5 e18) h58 (e5).size
theorem impl_records.calls {w : World} {a0 : List Nd} {v_a0 : Value} (f_a0 : Rd 4 encNd w v_a0 a0) (h0 : a0.length ≤ 1048576) :
    Calls Tryd.prog 84 #[v_a0] w (Rt (RO 25 5 encRec w (a0.map recOf))) := by
  obtain ⟨k, h⟩ := impl_records.eq a0 h0
  exact impl_records.walk f_a0 h
/-! laws.markNodeS -/
abbrev laws_markNodeS.e1 (x1_1 : Int) := (IntKind.wrap .i64 ((IntKind.wrap .i64 (x1_1 + 1)) + 1))
theorem laws_markNodeS.walk {k : Nat} {w : World} {a0 : List Nd} {a1 : Int} {v_a0 : Value} {B_a0 : Nat} {T_a0 : Nat} (o_a0 : Ow 42 4 encNd B_a0 w v_a0 a0) (l_a0 : HB v_a0 T_a0) {r : Int × List Nd} (H : laws_markNodeS.sh k a0 a1 = some r) :
    Calls Tryd.prog 19 #[v_a0, .int .i64 a1] w (Rt (RM 42 4 encNd B_a0 T_a0 w (.int .i64 r.1) v_a0 r.2)) := by
  unfold laws_markNodeS.sh at H
  refine calls_of_W Tryd.func19 rfl (Nat.le_of_ble_eq_true rfl) Tryd.ntmps19 rfl ?_
  refine W_seq <| W_reg <| L_op (.plain rfl) rfl (ltb rfl) (X_assign (v := (.int .i64 0)) rfl) <| L_nil <| thn_n <| W_seq <| W_seq <| W_reg <| L_op (.plain rfl) rfl (ltb rfl) (X_assign (v := (.int .i64 0)) rfl) <| L_nil <| thn_n ?_
  obtain ⟨z4, L5, C6⟩ := bind_some H
  clear H
  refine  W_cutQ (fun s0 sQ wQ => ∃ (x1_7 : Int) (y8 : List Nd), Kp [(1, 2), (5, 42)] s0 sQ ∧ sQ 1 = .int .i64 x1_7 ∧ Ow 42 4 encNd B_a0 wQ v_a0 y8 ∧ Gr B_a0 T_a0 w wQ ∧ z4 = .inr (x1_7, y8)) ?_ ?_
  · refine W_block <| W_loopI (fun s0 kk sQ wQ => ∃ (x1_1 : Int) (x5_2 : Int) (y3 : List Nd), Kp [(1, 2), (5, 42)] s0 sQ ∧ sQ 1 = .int .i64 x1_1 ∧ sQ 5 = .int .i64 x5_2 ∧ Ow 42 4 encNd B_a0 wQ v_a0 y3 ∧ Gr B_a0 T_a0 w wQ ∧ loopF (laws_markNodeS.b1) kk (x1_1, x5_2, y3) = some z4) k ⟨a1, 0, a0, (Kp.refl _ _), rfl, rfl, o_a0, (Gr.refl _ _ _), L5⟩ ?_
    rintro k13 s14 w15 ⟨x1_1, x5_2, y3, K16, h19, h20, h21, e17, L18⟩
    cases k13 with
    | zero => exact absurd L18 (by simp [loopF])
    | succ k13 =>
      obtain ⟨t22, H, S23⟩ := loopF_succ L18
      clear L18
      unfold laws_markNodeS.b1 at H
      refine W_seq <| W_seq <| W_reg <| L_op (.plain rfl) rfl (ltb rfl) (X_move (v := (.int .i64 x5_2)) h20) <| L_op (.plain rfl) rfl (ltb rfl) (X_move (v := v_a0) (K16 0 rfl)) <| L_op (.plain rfl) rfl (ltb rfl) (X_lenR Tryd.underlying38 rfl (Ow.rd h21)) <| L_op (.plain rfl) rfl (ltb rfl) (X_lss rfl rfl) <| L_nil <| thn_n ?_
      rcases bif_two H with ⟨q24, H⟩ | ⟨q24, H⟩
      · refine W_true (congrArg Value.bool q24) <| W_skip <| thn_n <| W_seq <| W_block <| W_seq <| W_reg <| L_op (.plain rfl) rfl (ltb rfl) (X_move (v := v_a0) (K16 0 rfl)) <| L_op (.plain rfl) rfl (ltb rfl) (X_move (v := (.int .i64 x5_2)) h20) <| L_op (.plain rfl) rfl (ltb rfl) (X_move (v := (.int .i64 x1_1)) h19) ?_
        obtain ⟨c27, H⟩ := bif_some H
        refine L_idxO (.plain rfl) rfl (ltb rfl) rfl Tryd.underlying38 Tryd.sizeOf42 rfl h21 rfl c27 <| fun p25 h26 => L_op (.plain rfl) rfl (ltb rfl) (X_fieldAddr Tryd.underlying42 rfl Tryd.sizeOf3 rfl rfl) <| L_storeO (a := (⟨x1_1, (gt y3 x5_2).path, (gt y3 x5_2).body, (gt y3 x5_2).mode⟩ : Nd)) (vs := [(.int .i64 x1_1)]) (off := 0) (.plain rfl) rfl rfl Tryd.sizeOf3 rfl h26 rfl rfl rfl rfl rfl rfl <| fun b28 w29 h30 h31 h32 o33 => L_nil <| thn_n <| W_seq <| W_reg <| L_op (.plain rfl) rfl (ltb rfl) (X_move (v := (.int .i64 x1_1)) h19) <| L_op (.plain rfl) rfl (ltb rfl) (X_add rfl rfl) <| L_op (.plain rfl) rfl (ltb rfl) (X_assign (v := (.int .i64 (IntKind.wrap .i64 (x1_1 + 1)))) rfl) <| L_nil <| thn_n <| W_seq <| W_reg <| L_op (.plain rfl) rfl (ltb rfl) (X_move (v := v_a0) (K16 0 rfl)) <| L_op (.plain rfl) rfl (ltb rfl) (X_move (v := (.int .i64 x5_2)) h20) <| L_op (.plain rfl) rfl (ltb rfl) (X_move (v := (.int .i64 (IntKind.wrap .i64 (x1_1 + 1)))) rfl) ?_
        obtain ⟨c34, H⟩ := bif_some H
        refine L_callP (.plain rfl) rfl (ltb rfl) rfl Tryd.call51 (laws_markText.calls (w := w29) (a0 := IntKind.wrap .i64 (x1_1 + 1)) (of_decide_eq_true c34)) rfl <| fun w35 e36 => L_idxO (.plain rfl) rfl (ltb rfl) rfl Tryd.underlying38 Tryd.sizeOf42 rfl (Ow.ext o33 e36) rfl (inR_setI c27) <| fun p37 h38 => L_op (.plain rfl) rfl (ltb rfl) (X_fieldAddr Tryd.underlying42 rfl Tryd.sizeOf9 rfl rfl) <| L_storeO2 (a := (⟨x1_1, (markT (IntKind.wrap .i64 (x1_1 + 1))), (gt y3 x5_2).body, (gt y3 x5_2).mode⟩ : Nd)) (vs := [(S (markT (IntKind.wrap .i64 (x1_1 + 1))))]) (off := 1) (.plain rfl) rfl rfl Tryd.sizeOf9 rfl c27 h38 rfl rfl rfl rfl rfl rfl <| fun b39 w40 h41 h42 h43 o44 => L_nil <| thn_n <| W_seq <| W_reg <| L_op (.plain rfl) rfl (ltb rfl) (X_move (v := (.int .i64 (IntKind.wrap .i64 (x1_1 + 1)))) rfl) <| L_op (.plain rfl) rfl (ltb rfl) (X_add rfl rfl) <| L_op (.plain rfl) rfl (ltb rfl) (X_assign (v := (.int .i64 (laws_markNodeS.e1 x1_1))) rfl) <| L_nil <| thn_n <| W_seq <| W_reg <| L_op (.plain rfl) rfl (ltb rfl) (X_move (v := v_a0) (K16 0 rfl)) <| L_op (.plain rfl) rfl (ltb rfl) (X_move (v := (.int .i64 x5_2)) h20) <| L_op (.plain rfl) rfl (ltb rfl) (X_move (v := (.int .i64 (laws_markNodeS.e1 x1_1))) rfl) ?_
        obtain ⟨c45, H⟩ := bif_some H
        refine L_callP (.plain rfl) rfl (ltb rfl) rfl Tryd.call51 (laws_markText.calls (w := w40) (a0 := IntKind.wrap .i64 ((IntKind.wrap .i64 (x1_1 + 1)) + 1)) (of_decide_eq_true c45)) rfl <| fun w46 e47 => L_idxO (.plain rfl) rfl (ltb rfl) rfl Tryd.underlying38 Tryd.sizeOf42 rfl (Ow.ext o44 e47) rfl (inR_setI c27) <| fun p48 h49 => L_op (.plain rfl) rfl (ltb rfl) (X_fieldAddr Tryd.underlying42 rfl Tryd.sizeOf9 rfl rfl) <| L_storeO2 (a := (⟨x1_1, (markT (IntKind.wrap .i64 (x1_1 + 1))), (markT (laws_markNodeS.e1 x1_1)), (gt y3 x5_2).mode⟩ : Nd)) (vs := [(S (markT (laws_markNodeS.e1 x1_1)))]) (off := 2) (.plain rfl) rfl rfl Tryd.sizeOf9 rfl c27 h49 rfl rfl rfl rfl rfl rfl <| fun b50 w51 h52 h53 h54 o55 => L_nil <| thn_n <| W_seq <| W_reg <| L_op (.plain rfl) rfl (ltb rfl) (X_move (v := (.int .i64 (laws_markNodeS.e1 x1_1))) rfl) <| L_op (.plain rfl) rfl (ltb rfl) (X_add rfl rfl) <| L_op (.plain rfl) rfl (ltb rfl) (X_assign rfl) <| L_nil <| thn_n <| W_seq <| W_reg <| L_op (.plain rfl) rfl (ltb rfl) (X_move (v := v_a0) (K16 0 rfl)) <| L_op (.plain rfl) rfl (ltb rfl) (X_move (v := (.int .i64 x5_2)) h20) <| L_op (.plain rfl) rfl (ltb rfl) (X_move rfl) <| L_idxO (.plain rfl) rfl (ltb rfl) rfl Tryd.underlying38 Tryd.sizeOf42 rfl o55 rfl (inR_setI c27) <| fun p56 h57 => L_op (.plain rfl) rfl (ltb rfl) (X_fieldAddr Tryd.underlying42 rfl Tryd.sizeOf3 rfl rfl) <| L_storeO2 (a := (⟨x1_1, (markT (IntKind.wrap .i64 (x1_1 + 1))), (markT (laws_markNodeS.e1 x1_1)), IntKind.wrap .i64 ((laws_markNodeS.e1 x1_1) + 1)⟩ : Nd)) (vs := [(.int .i64 (IntKind.wrap .i64 ((laws_markNodeS.e1 x1_1) + 1)))]) (off := 3) (.plain rfl) rfl rfl Tryd.sizeOf3 rfl c27 h57 rfl rfl rfl rfl rfl rfl <| fun b58 w59 h60 h61 h62 o63 => L_nil <| thn_n <| W_reg <| L_op (.plain rfl) rfl (ltb rfl) (X_move rfl) <| L_op (.plain rfl) rfl (ltb rfl) (X_add rfl rfl) <| L_op (.plain rfl) rfl (ltb rfl) (X_assign rfl) <| L_nil <| blk_n <| thn_n <| W_reg <| L_op (.plain rfl) rfl (ltb rfl) (X_move (v := (.int .i64 x5_2)) h20) <| L_op (.plain rfl) rfl (ltb rfl) (X_add rfl rfl) <| L_op (.plain rfl) rfl (ltb rfl) (X_assign (v := (.int .i64 (IntKind.wrap .i64 (x5_2 + 1)))) rfl) <| L_nil <| thn_n ?_
        obtain rfl := Option.some.inj H
        exact ⟨_, Nat.lt_succ_self _, IntKind.wrap .i64 ((IntKind.wrap .i64 ((laws_markNodeS.e1 x1_1) + 1)) + 1), IntKind.wrap .i64 (x5_2 + 1), setI y3 x5_2 (⟨x1_1, (markT (IntKind.wrap .i64 (x1_1 + 1))), (markT (laws_markNodeS.e1 x1_1)), IntKind.wrap .i64 ((laws_markNodeS.e1 x1_1) + 1)⟩ : Nd), (Kp.upd (Kp.upd (Kp.upd (Kp.upd (Kp.upd (Kp.upd (Kp.upd (Kp.upd (Kp.upd (Kp.upd (Kp.upd (Kp.upd (Kp.upd (Kp.upd (Kp.upd (Kp.upd (Kp.upd (Kp.upd (Kp.upd (Kp.upd (Kp.upd (Kp.upd (Kp.upd (Kp.upd (Kp.upd (Kp.upd (Kp.upd (Kp.upd (Kp.upd (Kp.upd (Kp.upd (Kp.upd (Kp.upd (Kp.upd (Kp.upd (Kp.upd (Kp.upd (Kp.upd (Kp.upd (Kp.upd (Kp.upd K16 rfl) rfl) rfl) rfl) rfl) rfl) rfl) rfl) rfl) rfl) rfl) rfl) rfl) rfl) rfl) rfl) rfl) rfl) rfl) rfl) rfl) rfl) rfl) rfl) rfl) rfl) rfl) rfl) rfl) rfl) rfl) rfl) rfl) rfl) rfl) rfl) rfl) rfl) rfl) rfl) rfl), rfl, rfl, o63, (Gr.trans (Gr.trans (Gr.trans (Gr.trans (Gr.trans (Gr.trans e17 (Gr.wr h32 h31 (HB.own l_a0 h30 (OP.own0 h26) (inR_pos c27)))) (Gr.ext e36)) (Gr.wr h43 h42 (HB.own l_a0 h41 (OP.own0 h38) (inR_pos (inR_setI c27))))) (Gr.ext e47)) (Gr.wr h54 h53 (HB.own l_a0 h52 (OP.own0 h49) (inR_pos (inR_setI c27))))) (Gr.wr h62 h61 (HB.own l_a0 h60 (OP.own0 h57) (inR_pos (inR_setI c27))))), S23⟩
      · refine W_false (congrArg Value.bool q24) <| W_exit <| thn_x <| thn_x <| blk_x <| thn_n ?_
        obtain rfl := Option.some.inj H
        obtain rfl := Option.some.inj S23
        exact ⟨x1_1, y3, (Kp.upd (Kp.upd (Kp.upd (Kp.upd K16 rfl) rfl) rfl) rfl), h19, h21, e17, rfl⟩
  · rintro s10 w9 ⟨x1_7, y8, K11, h64, h65, e12, y66⟩
    rw [y66] at C6
    have H := C6
    replace H : _ = some _ := H
    refine thn_n <| W_seq <| W_reg <| L_op (.plain rfl) rfl (ltb rfl) (X_move (v := (.int .i64 x1_7)) h64) <| L_op (.plain rfl) rfl (ltb rfl) (X_assign (v := (.int .i64 x1_7)) rfl) <| L_nil <| thn_n <| W_ret <| fin_r ?_
    obtain rfl := Option.some.inj H
    exact fin1m rfl e12 h65
theorem laws_markNodeS.calls {w : World} {a0 : List Nd} {a1 : Int} {v_a0 : Value} {B_a0 : Nat} {T_a0 : Nat} (o_a0 : Ow 42 4 encNd B_a0 w v_a0 a0) (l_a0 : HB v_a0 T_a0) (h0 : a0.length ≤ 1152921504606846976) (h1 : (0 : Int) ≤ a1) (h2 : (a1 : Int) ≤ 4611686018427387904 - 4 * (a0.length : Int)) :
    Calls Tryd.prog 19 #[v_a0, .int .i64 a1] w (Rt (RM 42 4 encNd B_a0 T_a0 w (.int .i64 (a1 + 4 * (a0.length : Int))) v_a0 (marksN a0.length a1))) := by
  obtain ⟨k, h⟩ := laws_markNodeS.eq a0 a1 h0 h1 h2
  exact laws_markNodeS.walk o_a0 l_a0 h
/-! spec.l08Ask -/
theorem spec_l08Ask.walk {w : World} {a0 : List Nd} {a1 : List Nd} {v_a0 : Value} (f_a0 : Rd 4 encNd w v_a0 a0) {v_a1 : Value} (f_a1 : Rd 4 encNd w v_a1 a1) {r : Int} (H : spec_l08Ask.sh a0 a1 = some r) :
    Calls Tryd.prog 52 #[v_a0, v_a1] w (Rt (RP w (.int .i64 r))) := by
  unfold spec_l08Ask.sh at H
  refine calls_of_W Tryd.func52 rfl (Nat.le_of_ble_eq_true rfl) Tryd.ntmps52 rfl ?_
  refine W_seq <| W_reg <| L_op (.plain rfl) rfl (ltb rfl) (X_assign (v := (.int .i64 0)) rfl) <| L_nil <| thn_n <| W_seq <| W_seq <| W_reg <| L_op (.plain rfl) rfl (ltb rfl) (X_move (v := v_a0) rfl) <| L_op (.plain rfl) rfl (ltb rfl) (X_lenR Tryd.underlying38 rfl f_a0) <| L_op (.plain rfl) rfl (ltb rfl) (X_gtr rfl rfl) <| L_op (.plain rfl) rfl (ltb rfl) (X_move (v := (.bool (decide (4096 < (a0.length : Int))))) rfl) <| L_grp 4 [(9, 13)] 12 (.bool ((decide (4096 < (a0.length : Int))) || (decide (4096 < (a1.length : Int))))) ?_ ?_
  · rcases bool_two (decide (4096 < (a0.length : Int))) with b0_ | b0_
    · exact L_skip rfl rfl (ltb rfl) (congrArg Value.bool b0_) rfl rfl (ltb rfl) <| L_skip rfl rfl (ltb rfl) (congrArg Value.bool b0_) rfl rfl (ltb rfl) <| L_skip rfl rfl (ltb rfl) (congrArg Value.bool b0_) rfl rfl (ltb rfl) <| L_op (.plain rfl) rfl (ltb rfl) (X_pick (b := true) (v := (.bool true)) (congrArg Value.bool b0_) rfl) <| L_nil <| thn_n ⟨(Kp.upd (Kp.upd (Kp.upd (Kp.upd (Kp.refl _ _) rfl) rfl) rfl) rfl), (or_t b0_), (Ext.refl w)⟩
    · exact L_op (.guard 3 false 8 rfl rfl (ltb rfl) (congrArg Value.bool b0_)) rfl (ltb rfl) (X_move (v := v_a1) rfl) <| L_op (.guard 3 false 8 rfl rfl (ltb rfl) (congrArg Value.bool b0_)) rfl (ltb rfl) (X_lenR Tryd.underlying38 rfl f_a1) <| L_op (.guard 3 false 8 rfl rfl (ltb rfl) (congrArg Value.bool b0_)) rfl (ltb rfl) (X_gtr rfl rfl) <| L_op (.plain rfl) rfl (ltb rfl) (X_pick (b := false) (v := (.bool (decide (4096 < (a1.length : Int))))) (congrArg Value.bool b0_) rfl) <| L_nil <| thn_n ⟨(Kp.upd (Kp.upd (Kp.upd (Kp.upd (Kp.refl _ _) rfl) rfl) rfl) rfl), (or_f b0_), (Ext.refl w)⟩
  intro s6 w2 K3 h4 e5
  refine L_nil <| thn_n ?_
  rcases bif_two H with ⟨q7, H⟩ | ⟨q7, H⟩
  · refine W_true (h4.trans (congrArg Value.bool q7)) <| W_seq <| W_reg <| L_op (.plain rfl) rfl (ltb rfl) (X_assign (v := (.int .i64 2)) rfl) <| L_nil <| thn_n <| W_ret <| thn_r <| fin_r ?_
    obtain rfl := Option.some.inj H
    exact fin1 rfl e5
  · refine W_false (h4.trans (congrArg Value.bool q7)) <| W_skip <| thn_n <| W_seq <| W_seq <| W_reg <| L_op (.plain rfl) rfl (ltb rfl) (X_move (v := v_a0) (K3 0 rfl)) ?_
    obtain ⟨c8, H⟩ := bif_some H
    refine L_callP (.plain rfl) rfl (ltb rfl) rfl Tryd.call34 (spec_l04OK.calls (w := w2) (a0 := a0) (Rd.ext f_a0 e5) (of_decide_eq_true c8)) rfl <| fun w9 e10 => L_op (.plain rfl) rfl (ltb rfl) (X_not rfl) <| L_op (.plain rfl) rfl (ltb rfl) (X_move (v := (.bool (!(treeOK a0)))) rfl) ?_
    obtain ⟨z12, x13, H⟩ := bind_some H
    refine L_grpE 4 [(17, 21)] 20 (fun q => q = z12) ?_ ?_
    · rcases bif_two x13 with ⟨b10_, H⟩ | ⟨b10_, H⟩
      · refine L_skip rfl rfl (ltb rfl) (congrArg Value.bool b10_) rfl rfl (ltb rfl) <| L_skip rfl rfl (ltb rfl) (congrArg Value.bool b10_) rfl rfl (ltb rfl) <| L_skip rfl rfl (ltb rfl) (congrArg Value.bool b10_) rfl rfl (ltb rfl) <| L_op (.plain rfl) rfl (ltb rfl) (X_pick (b := true) (v := (.bool true)) (congrArg Value.bool b10_) rfl) ?_
        obtain rfl := Option.some.inj H
        exact L_nil <| thn_n ⟨(Kp.upd (Kp.upd (Kp.upd (Kp.upd (Kp.refl _ _) rfl) rfl) rfl) rfl), ⟨_, rfl, rfl⟩, (Ext.refl w9)⟩
      · refine L_op (.guard 3 false 16 rfl rfl (ltb rfl) (congrArg Value.bool b10_)) rfl (ltb rfl) (X_move (v := v_a1) (K3 1 rfl)) ?_
        obtain ⟨c12, H⟩ := bif_some H
        refine L_callP (.guard 3 false 16 rfl rfl (ltb rfl) (congrArg Value.bool b10_)) rfl (ltb rfl) rfl Tryd.call34 (spec_l04OK.calls (w := w9) (a0 := a1) (Rd.ext f_a1 (Ext.trans e5 e10)) (of_decide_eq_true c12)) rfl <| fun w13 e14 => L_op (.guard 3 false 16 rfl rfl (ltb rfl) (congrArg Value.bool b10_)) rfl (ltb rfl) (X_not rfl) <| L_op (.plain rfl) rfl (ltb rfl) (X_pick (b := false) (v := (.bool (!(treeOK a1)))) (congrArg Value.bool b10_) rfl) ?_
        obtain rfl := Option.some.inj H
        exact L_nil <| thn_n ⟨(Kp.upd (Kp.upd (Kp.upd (Kp.upd (Kp.refl _ _) rfl) rfl) rfl) rfl), ⟨_, rfl, rfl⟩, e14⟩
    intro s18 w14 z19 K15 hq h16 e17
    rw [hq] at h16; clear hq
    refine L_nil <| thn_n ?_
    rcases bif_two H with ⟨q20, H⟩ | ⟨q20, H⟩
    · refine W_true (h16.trans (congrArg Value.bool q20)) <| W_seq <| W_reg <| L_op (.plain rfl) rfl (ltb rfl) (X_assign (v := (.int .i64 1)) rfl) <| L_nil <| thn_n <| W_ret <| thn_r <| fin_r ?_
      obtain rfl := Option.some.inj H
      exact fin1 rfl (Ext.trans (Ext.trans e5 e10) e17)
    · refine W_false (h16.trans (congrArg Value.bool q20)) <| W_skip <| thn_n <| W_seq <| W_reg <| L_op (.plain rfl) rfl (ltb rfl) (X_assign (v := (.int .i64 0)) rfl) <| L_nil <| thn_n <| W_ret <| fin_r ?_
      obtain rfl := Option.some.inj H
      exact fin1 rfl (Ext.trans (Ext.trans e5 e10) e17)
theorem spec_l08Ask.calls {w : World} {a0 : List Nd} {a1 : List Nd} {v_a0 : Value} (f_a0 : Rd 4 encNd w v_a0 a0) {v_a1 : Value} (f_a1 : Rd 4 encNd w v_a1 a1) (h0 : ∀ x ∈ a0, x.path.length ≤ 1048576) (h1 : ∀ x ∈ a1, x.path.length ≤ 1048576) :
    Calls Tryd.prog 52 #[v_a0, v_a1] w (Rt (RP w (.int .i64 (treesCode a0 a1)))) := spec_l08Ask.walk f_a0 f_a1 (spec_l08Ask.eq a0 a1 h0 h1)
/-! spec.Touched -/
abbrev spec_Touched.e1 (a0 : List Nd) (a1 : List Nd) (x8_33 : Int) (x9_34 : Int) := ((!(decide (x9_34 = (a1.length : Int)))) && (decide (x8_33 < (a0.length : Int))))
abbrev spec_Touched.e2 (a0 : List Nd) (a1 : List Nd) (x8_33 : Int) (x9_34 : Int) := ((decide (x8_33 < (a0.length : Int))) && (lessL (cut 47 ((gt a0 x8_33).path)) (cut 47 ((gt a1 x9_34).path))))
theorem spec_Touched.walk {k : Nat} {w : World} {a0 : List Nd} {a1 : List Nd} {v_a0 : Value} (f_a0 : Rd 4 encNd w v_a0 a0) {v_a1 : Value} (f_a1 : Rd 4 encNd w v_a1 a1) {r : List (List UInt8) × Int} (H : spec_Touched.sh k a0 a1 = some r) :
    Calls Tryd.prog 21 #[v_a0, v_a1] w (Rt (RT 9 1 encS w r.1 (.int .i64 r.2))) := by
  unfold spec_Touched.sh at H
  refine calls_of_W Tryd.func21 rfl (Nat.le_of_ble_eq_true rfl) Tryd.ntmps21 rfl ?_
  refine W_seq <| W_reg <| L_op (.plain rfl) rfl (ltb rfl) (X_assign (v := (.slice none 0 0)) rfl) <| L_op (.plain rfl) rfl (ltb rfl) (X_assign (v := (.int .i64 0)) rfl) <| L_nil <| thn_n <| W_seq <| W_seq <| W_reg <| L_op (.plain rfl) rfl (ltb rfl) (X_move (v := v_a0) rfl) <| L_op (.plain rfl) rfl (ltb rfl) (X_lenR Tryd.underlying38 rfl f_a0) <| L_op (.plain rfl) rfl (ltb rfl) (X_gtr rfl rfl) <| L_op (.plain rfl) rfl (ltb rfl) (X_move (v := (.bool (decide (4096 < (a0.length : Int))))) rfl) <| L_grp 4 [(14, 18)] 17 (.bool ((decide (4096 < (a0.length : Int))) || (decide (4096 < (a1.length : Int))))) ?_ ?_
  · rcases bool_two (decide (4096 < (a0.length : Int))) with b0_ | b0_
    · exact L_skip rfl rfl (ltb rfl) (congrArg Value.bool b0_) rfl rfl (ltb rfl) <| L_skip rfl rfl (ltb rfl) (congrArg Value.bool b0_) rfl rfl (ltb rfl) <| L_skip rfl rfl (ltb rfl) (congrArg Value.bool b0_) rfl rfl (ltb rfl) <| L_op (.plain rfl) rfl (ltb rfl) (X_pick (b := true) (v := (.bool true)) (congrArg Value.bool b0_) rfl) <| L_nil <| thn_n ⟨(Kp.upd (Kp.upd (Kp.upd (Kp.upd (Kp.refl _ _) rfl) rfl) rfl) rfl), (or_t b0_), (Ext.refl w)⟩
    · exact L_op (.guard 3 false 13 rfl rfl (ltb rfl) (congrArg Value.bool b0_)) rfl (ltb rfl) (X_move (v := v_a1) rfl) <| L_op (.guard 3 false 13 rfl rfl (ltb rfl) (congrArg Value.bool b0_)) rfl (ltb rfl) (X_lenR Tryd.underlying38 rfl f_a1) <| L_op (.guard 3 false 13 rfl rfl (ltb rfl) (congrArg Value.bool b0_)) rfl (ltb rfl) (X_gtr rfl rfl) <| L_op (.plain rfl) rfl (ltb rfl) (X_pick (b := false) (v := (.bool (decide (4096 < (a1.length : Int))))) (congrArg Value.bool b0_) rfl) <| L_nil <| thn_n ⟨(Kp.upd (Kp.upd (Kp.upd (Kp.upd (Kp.refl _ _) rfl) rfl) rfl) rfl), (or_f b0_), (Ext.refl w)⟩
  intro s6 w2 K3 h4 e5
  refine L_nil <| thn_n ?_
  rcases bif_two H with ⟨q7, H⟩ | ⟨q7, H⟩
  · refine W_true (h4.trans (congrArg Value.bool q7)) <| W_seq <| W_reg <| L_lit (.plain rfl) rfl (ltb rfl) rfl Tryd.underlying47 Tryd.sizeOf9 Tryd.zeroValue9 rfl rfl rfl (vs := []) rfl (lit_all rfl) <| fun b8 w9 z10 z11 e12 k13 => L_op (.plain rfl) rfl (ltb rfl) (X_assign (v := (.slice (some ⟨b8, 0, none⟩) 0 0)) rfl) <| L_op (.plain rfl) rfl (ltb rfl) (X_assign (v := (.int .i64 2)) rfl) <| L_nil <| thn_n <| W_ret <| thn_r <| fin_r ?_
    obtain rfl := Option.some.inj H
    exact fin2o rfl rfl (Ext.trans e5 e12) (Ow.zero (base := w.heap.size)) (Nat.le_refl _)
  · refine W_false (h4.trans (congrArg Value.bool q7)) <| W_skip <| thn_n <| W_seq <| W_seq <| W_reg <| L_op (.plain rfl) rfl (ltb rfl) (X_move (v := v_a0) (K3 0 rfl)) <| L_op (.plain rfl) rfl (ltb rfl) (X_move (v := v_a1) (K3 1 rfl)) ?_
    obtain ⟨c14, H⟩ := bif_some H
    obtain ⟨c15, H⟩ := bif_some H
    refine L_callP (.plain rfl) rfl (ltb rfl) rfl Tryd.call52 (spec_l08Ask.calls (w := w2) (a0 := a0) (a1 := a1) (Rd.ext f_a0 e5) (Rd.ext f_a1 e5) (of_decide_eq_true c14) (of_decide_eq_true c15)) rfl <| fun w16 e17 => L_op (.plain rfl) rfl (ltb rfl) (X_assign (v := (.int .i64 (treesCode a0 a1))) rfl) <| L_nil <| thn_n <| W_seq <| W_reg <| L_op (.plain rfl) rfl (ltb rfl) (X_move (v := (.int .i64 (treesCode a0 a1))) rfl) <| L_op (.plain rfl) rfl (ltb rfl) (X_neq rfl rfl) <| L_nil <| thn_n ?_
    rcases bif_two H with ⟨q18, H⟩ | ⟨q18, H⟩
    · refine W_true (congrArg Value.bool q18) <| W_seq <| W_reg <| L_lit (.plain rfl) rfl (ltb rfl) rfl Tryd.underlying47 Tryd.sizeOf9 Tryd.zeroValue9 rfl rfl rfl (vs := []) rfl (lit_all rfl) <| fun b19 w20 z21 z22 e23 k24 => L_op (.plain rfl) rfl (ltb rfl) (X_move (v := (.int .i64 (treesCode a0 a1))) rfl) <| L_op (.plain rfl) rfl (ltb rfl) (X_assign (v := (.slice (some ⟨b19, 0, none⟩) 0 0)) rfl) <| L_op (.plain rfl) rfl (ltb rfl) (X_assign (v := (.int .i64 (treesCode a0 a1))) rfl) <| L_nil <| thn_n <| W_ret <| thn_r <| fin_r ?_
      obtain rfl := Option.some.inj H
      exact fin2o rfl rfl (Ext.trans (Ext.trans e5 e17) e23) (Ow.zero (base := w.heap.size)) (Nat.le_refl _)
    · refine W_false (congrArg Value.bool q18) <| W_skip <| thn_n <| W_seq <| W_reg <| L_lit (.plain rfl) rfl (ltb rfl) rfl Tryd.underlying47 Tryd.sizeOf9 Tryd.zeroValue9 rfl rfl rfl (vs := []) rfl (lit_all rfl) <| fun b25 w26 z27 z28 e29 k30 => L_op (.plain rfl) rfl (ltb rfl) (X_assign (v := (.slice (some ⟨b25, 0, none⟩) 0 0)) rfl) <| L_nil <| thn_n <| W_seq <| W_reg <| L_op (.plain rfl) rfl (ltb rfl) (X_assign (v := (.int .i64 0)) rfl) <| L_nil <| thn_n <| W_seq <| W_reg <| L_op (.plain rfl) rfl (ltb rfl) (X_assign (v := (.int .i64 0)) rfl) <| L_nil <| thn_n <| W_seq ?_
      obtain ⟨z35, L36, C37⟩ := bind_some H
      clear H
      refine  W_cutQ (fun s0 sQ wQ => ∃ (x7_38 : List (List UInt8)) (v39 : Value), Kp [(7, 10), (27, 120)] s0 sQ ∧ sQ 7 = v39 ∧ Ow 9 1 encS w26.heap.size wQ v39 x7_38 ∧ Ext w26 wQ ∧ z35 = .inr x7_38) ?_ ?_
      · refine W_block <| W_loopI (fun s0 kk sQ wQ => ∃ (x7_31 : List (List UInt8)) (v32 : Value) (x8_33 : Int) (x9_34 : Int), Kp [(7, 10), (27, 120)] s0 sQ ∧ sQ 7 = v32 ∧ Ow 9 1 encS w26.heap.size wQ v32 x7_31 ∧ sQ 8 = .int .i64 x8_33 ∧ sQ 9 = .int .i64 x9_34 ∧ Ext w26 wQ ∧ loopF (spec_Touched.b1 a0 a1) kk (x7_31, x8_33, x9_34) = some z35) k ⟨([] : List (List UInt8)), (.slice (some ⟨b25, 0, none⟩) 0 0), 0, 0, (Kp.refl _ _), rfl, (Ow.zero), rfl, rfl, (Ext.refl w26), L36⟩ ?_
        rintro k44 s45 w46 ⟨x7_31, v32, x8_33, x9_34, K47, h50, h51, h52, h53, e48, L49⟩
        cases k44 with
        | zero => exact absurd L49 (by simp [loopF])
        | succ k44 =>
          obtain ⟨t54, H, S55⟩ := loopF_succ L49
          clear L49
          unfold spec_Touched.b1 at H
          refine W_seq <| W_seq <| W_reg <| L_op (.plain rfl) rfl (ltb rfl) (X_move (v := (.int .i64 x8_33)) h52) <| L_op (.plain rfl) rfl (ltb rfl) (X_move (v := v_a0) ((K47 0 rfl).trans (K3 0 rfl))) <| L_op (.plain rfl) rfl (ltb rfl) (X_lenR Tryd.underlying38 rfl (Rd.ext f_a0 (Ext.trans (Ext.trans (Ext.trans e5 e17) e29) e48))) <| L_op (.plain rfl) rfl (ltb rfl) (X_lss rfl rfl) <| L_op (.plain rfl) rfl (ltb rfl) (X_move (v := (.bool (decide (x8_33 < (a0.length : Int))))) rfl) <| L_grp 5 [(32, 37)] 36 (.bool ((decide (x8_33 < (a0.length : Int))) || (decide (x9_34 < (a1.length : Int))))) ?_ ?_
          · rcases bool_two (decide (x8_33 < (a0.length : Int))) with b55_ | b55_
            · exact L_skip rfl rfl (ltb rfl) (congrArg Value.bool b55_) rfl rfl (ltb rfl) <| L_skip rfl rfl (ltb rfl) (congrArg Value.bool b55_) rfl rfl (ltb rfl) <| L_skip rfl rfl (ltb rfl) (congrArg Value.bool b55_) rfl rfl (ltb rfl) <| L_skip rfl rfl (ltb rfl) (congrArg Value.bool b55_) rfl rfl (ltb rfl) <| L_op (.plain rfl) rfl (ltb rfl) (X_pick (b := true) (v := (.bool true)) (congrArg Value.bool b55_) rfl) <| L_nil <| thn_n ⟨(Kp.upd (Kp.upd (Kp.upd (Kp.upd (Kp.upd (Kp.refl _ _) rfl) rfl) rfl) rfl) rfl), (or_t b55_), (Ext.refl w46)⟩
            · exact L_op (.guard 4 false 31 rfl rfl (ltb rfl) (congrArg Value.bool b55_)) rfl (ltb rfl) (X_move (v := (.int .i64 x9_34)) h53) <| L_op (.guard 4 false 31 rfl rfl (ltb rfl) (congrArg Value.bool b55_)) rfl (ltb rfl) (X_move (v := v_a1) ((K47 1 rfl).trans (K3 1 rfl))) <| L_op (.guard 4 false 31 rfl rfl (ltb rfl) (congrArg Value.bool b55_)) rfl (ltb rfl) (X_lenR Tryd.underlying38 rfl (Rd.ext f_a1 (Ext.trans (Ext.trans (Ext.trans e5 e17) e29) e48))) <| L_op (.guard 4 false 31 rfl rfl (ltb rfl) (congrArg Value.bool b55_)) rfl (ltb rfl) (X_lss rfl rfl) <| L_op (.plain rfl) rfl (ltb rfl) (X_pick (b := false) (v := (.bool (decide (x9_34 < (a1.length : Int))))) (congrArg Value.bool b55_) rfl) <| L_nil <| thn_n ⟨(Kp.upd (Kp.upd (Kp.upd (Kp.upd (Kp.upd (Kp.refl _ _) rfl) rfl) rfl) rfl) rfl), (or_f b55_), (Ext.refl w46)⟩
          intro s61 w57 K58 h59 e60
          refine L_nil <| thn_n ?_
          rcases bif_two H with ⟨q62, H⟩ | ⟨q62, H⟩
          · refine W_true (h59.trans (congrArg Value.bool q62)) <| W_skip <| thn_n <| W_block <| W_block <| W_seq ?_
            obtain ⟨c63, H⟩ := bif_some H
            obtain ⟨c66, H⟩ := bif_some H
            obtain ⟨c69, H⟩ := bif_some H
            obtain ⟨c70, H⟩ := bif_some H
            refine W_drawM [LEq (.int .i64 x9_34), LEq v_a1, LEq (.int .i64 (a1.length : Int)), LEq (.bool (decide (x9_34 = (a1.length : Int)))), LEq (.bool (decide (x9_34 = (a1.length : Int)))), LIf (!(decide (x9_34 = (a1.length : Int)))) (LEq (.int .i64 x8_33)), LIf (!(decide (x9_34 = (a1.length : Int)))) (LEq v_a0), LIf (!(decide (x9_34 = (a1.length : Int)))) (LEq (.int .i64 (a0.length : Int))), LIf (!(decide (x9_34 = (a1.length : Int)))) (LEq (.bool (decide (x8_33 < (a0.length : Int))))), LIf (!(decide (x9_34 = (a1.length : Int)))) (LEq (.bool (decide (x8_33 < (a0.length : Int))))), LIf (spec_Touched.e1 a0 a1 x8_33 x9_34) (LEq v_a0), LIf (spec_Touched.e1 a0 a1 x8_33 x9_34) (LEq (.int .i64 x8_33)), LIf (spec_Touched.e1 a0 a1 x8_33 x9_34) (LAt0 (encNd (gt a0 x8_33))), LIf (spec_Touched.e1 a0 a1 x8_33 x9_34) (LAt 1 (encNd (gt a0 x8_33))), LIf (spec_Touched.e1 a0 a1 x8_33 x9_34) (LEq (S ((gt a0 x8_33).path))), LIf (spec_Touched.e1 a0 a1 x8_33 x9_34) (LEq v_a1), LIf (spec_Touched.e1 a0 a1 x8_33 x9_34) (LEq (.int .i64 x9_34)), LIf (spec_Touched.e1 a0 a1 x8_33 x9_34) (LAt0 (encNd (gt a1 x9_34))), LIf (spec_Touched.e1 a0 a1 x8_33 x9_34) (LAt 1 (encNd (gt a1 x9_34))), LIf (spec_Touched.e1 a0 a1 x8_33 x9_34) (LEq (S ((gt a1 x9_34).path))), LIf (spec_Touched.e1 a0 a1 x8_33 x9_34) (LEq (.bool (lessL (cut 47 ((gt a0 x8_33).path)) (cut 47 ((gt a1 x9_34).path))))), LIf (!(decide (x9_34 = (a1.length : Int)))) (LEq (.bool (spec_Touched.e2 a0 a1 x8_33 x9_34))), LEq (.bool ((decide (x9_34 = (a1.length : Int))) || (spec_Touched.e2 a0 a1 x8_33 x9_34))), LEq (.bool ((decide (x9_34 = (a1.length : Int))) || (spec_Touched.e2 a0 a1 x8_33 x9_34)))] (by kernel_rfl) (by kernel_rfl) ⟨LEq.mono, LEq.mono, LEq.mono, LEq.mono, LEq.mono, (LIf.mono LEq.mono), (LIf.mono LEq.mono), (LIf.mono LEq.mono), (LIf.mono LEq.mono), (LIf.mono LEq.mono), (LIf.mono LEq.mono), (LIf.mono LEq.mono), (LIf.mono LAt0.mono), (LIf.mono LAt.mono), (LIf.mono LEq.mono), (LIf.mono LEq.mono), (LIf.mono LEq.mono), (LIf.mono LAt0.mono), (LIf.mono LAt.mono), (LIf.mono LEq.mono), (LIf.mono LEq.mono), (LIf.mono LEq.mono), LEq.mono, LEq.mono, trivial⟩ ⟨?_, ?_, ?_, ?_, ?_, ?_, ?_, ?_, ?_, ?_, ?_, ?_, ?_, ?_, ?_, ?_, ?_, ?_, ?_, ?_, ?_, ?_, ?_, ?_, trivial⟩ ?_
            · intro s73 w74 e75 hf76 hd77 hu78
              exact L_op (.plain rfl) rfl (ltb rfl) (X_move (v := (.int .i64 x9_34)) ((hf76 9 rfl).trans ((K58 9 rfl).trans h53))) <| L_nil <| stepEnd rfl rfl (Ext.refl w74) rfl
            · intro s79 w80 e81 hf82 hd83 hu84
              exact L_op (.plain rfl) rfl (ltb rfl) (X_move (v := v_a1) ((hf82 1 rfl).trans ((K58 1 rfl).trans ((K47 1 rfl).trans (K3 1 rfl))))) <| L_nil <| stepEnd rfl rfl (Ext.refl w80) rfl
            · intro s85 w86 e87 hf88 hd89 hu90
              have d91 : s85 60 = v_a1 := (hd89 1 rfl)
              exact L_op (.plain rfl) rfl (ltb rfl) (X_lenR Tryd.underlying38 d91 (Rd.ext f_a1 (Ext.trans (Ext.trans (Ext.trans (Ext.trans (Ext.trans e5 e17) e29) e48) e60) e87))) <| L_nil <| stepEnd rfl rfl (Ext.refl w86) rfl
            · intro s92 w93 e94 hf95 hd96 hu97
              have d98 : s92 59 = (.int .i64 x9_34) := (hd96 0 rfl)
              have d99 : s92 61 = (.int .i64 (a1.length : Int)) := (hd96 2 rfl)
              exact L_op (.plain rfl) rfl (ltb rfl) (X_eql d98 d99) <| L_nil <| stepEnd rfl rfl (Ext.refl w93) rfl
            · intro s100 w101 e102 hf103 hd104 hu105
              have d106 : s100 62 = (.bool (decide (x9_34 = (a1.length : Int)))) := (hd104 3 rfl)
              exact L_op (.plain rfl) rfl (ltb rfl) (X_move (v := (.bool (decide (x9_34 = (a1.length : Int))))) d106) <| L_nil <| stepEnd rfl rfl (Ext.refl w101) rfl
            · intro s107 w108 e109 hf110 hd111 hu112
              rcases bool_two (!(decide (x9_34 = (a1.length : Int)))) with b113 | b113
              · have g114 : (decide (x9_34 = (a1.length : Int))) = false := (not_f b113)
                have d115 : s107 63 = (.bool (decide (x9_34 = (a1.length : Int)))) := (hd111 4 rfl)
                have d116 : s107 63 = (.bool (decide (x9_34 = (a1.length : Int)))) := (hd111 4 rfl)
                exact L_op (.guard 4 false 63 rfl rfl (ltb rfl) (d115.trans (congrArg Value.bool g114))) rfl (ltb rfl) (X_move (v := (.int .i64 x8_33)) ((hf110 8 rfl).trans ((K58 8 rfl).trans h52))) <| L_nil <| stepEnd rfl rfl (Ext.refl w108) ⟨fun _ => rfl, fun h => absurd (b113.symm.trans h) (by decide)⟩
              · have d117 : s107 63 = (.bool (decide (x9_34 = (a1.length : Int)))) := (hd111 4 rfl)
                have g118 : (decide (x9_34 = (a1.length : Int))) = true := (not_ff b113)
                exact L_skip rfl rfl (ltb rfl) (d117.trans (congrArg Value.bool g118)) rfl rfl (ltb rfl) <| L_nil <| stepEnd rfl rfl (Ext.refl w108) ⟨fun h => absurd (b113.symm.trans h) (by decide), fun _ => rfl⟩
            · intro s119 w120 e121 hf122 hd123 hu124
              rcases bool_two (!(decide (x9_34 = (a1.length : Int)))) with b125 | b125
              · have g126 : (decide (x9_34 = (a1.length : Int))) = false := (not_f b125)
                have d127 : s119 63 = (.bool (decide (x9_34 = (a1.length : Int)))) := (hd123 4 rfl)
                have d128 : s119 63 = (.bool (decide (x9_34 = (a1.length : Int)))) := (hd123 4 rfl)
                exact L_op (.guard 4 false 63 rfl rfl (ltb rfl) (d127.trans (congrArg Value.bool g126))) rfl (ltb rfl) (X_move (v := v_a0) ((hf122 0 rfl).trans ((K58 0 rfl).trans ((K47 0 rfl).trans (K3 0 rfl))))) <| L_nil <| stepEnd rfl rfl (Ext.refl w120) ⟨fun _ => rfl, fun h => absurd (b125.symm.trans h) (by decide)⟩
              · have d129 : s119 63 = (.bool (decide (x9_34 = (a1.length : Int)))) := (hd123 4 rfl)
                have g130 : (decide (x9_34 = (a1.length : Int))) = true := (not_ff b125)
                exact L_skip rfl rfl (ltb rfl) (d129.trans (congrArg Value.bool g130)) rfl rfl (ltb rfl) <| L_nil <| stepEnd rfl rfl (Ext.refl w120) ⟨fun h => absurd (b125.symm.trans h) (by decide), fun _ => rfl⟩
            · intro s131 w132 e133 hf134 hd135 hu136
              rcases bool_two (!(decide (x9_34 = (a1.length : Int)))) with b137 | b137
              · have g138 : (decide (x9_34 = (a1.length : Int))) = false := (not_f b137)
                have d139 : s131 63 = (.bool (decide (x9_34 = (a1.length : Int)))) := (hd135 4 rfl)
                have d140 : s131 63 = (.bool (decide (x9_34 = (a1.length : Int)))) := (hd135 4 rfl)
                have d141 : s131 65 = v_a0 := ((hd135 6 rfl).1 (not_mk (not_f b137)))
                exact L_op (.guard 4 false 63 rfl rfl (ltb rfl) (d139.trans (congrArg Value.bool g138))) rfl (ltb rfl) (X_lenR Tryd.underlying38 d141 (Rd.ext f_a0 (Ext.trans (Ext.trans (Ext.trans (Ext.trans (Ext.trans e5 e17) e29) e48) e60) e133))) <| L_nil <| stepEnd rfl rfl (Ext.refl w132) ⟨fun _ => rfl, fun h => absurd (b137.symm.trans h) (by decide)⟩
              · have d142 : s131 63 = (.bool (decide (x9_34 = (a1.length : Int)))) := (hd135 4 rfl)
                have g143 : (decide (x9_34 = (a1.length : Int))) = true := (not_ff b137)
                exact L_skip rfl rfl (ltb rfl) (d142.trans (congrArg Value.bool g143)) rfl rfl (ltb rfl) <| L_nil <| stepEnd rfl rfl (Ext.refl w132) ⟨fun h => absurd (b137.symm.trans h) (by decide), fun _ => rfl⟩
            · intro s144 w145 e146 hf147 hd148 hu149
              rcases bool_two (!(decide (x9_34 = (a1.length : Int)))) with b150 | b150
              · have g151 : (decide (x9_34 = (a1.length : Int))) = false := (not_f b150)
                have d152 : s144 63 = (.bool (decide (x9_34 = (a1.length : Int)))) := (hd148 4 rfl)
                have d153 : s144 63 = (.bool (decide (x9_34 = (a1.length : Int)))) := (hd148 4 rfl)
                have d154 : s144 64 = (.int .i64 x8_33) := ((hd148 5 rfl).1 (not_mk (not_f b150)))
                have d155 : s144 66 = (.int .i64 (a0.length : Int)) := ((hd148 7 rfl).1 (not_mk (not_f b150)))
                exact L_op (.guard 4 false 63 rfl rfl (ltb rfl) (d152.trans (congrArg Value.bool g151))) rfl (ltb rfl) (X_lss d154 d155) <| L_nil <| stepEnd rfl rfl (Ext.refl w145) ⟨fun _ => rfl, fun h => absurd (b150.symm.trans h) (by decide)⟩
              · have d156 : s144 63 = (.bool (decide (x9_34 = (a1.length : Int)))) := (hd148 4 rfl)
                have g157 : (decide (x9_34 = (a1.length : Int))) = true := (not_ff b150)
                exact L_skip rfl rfl (ltb rfl) (d156.trans (congrArg Value.bool g157)) rfl rfl (ltb rfl) <| L_nil <| stepEnd rfl rfl (Ext.refl w145) ⟨fun h => absurd (b150.symm.trans h) (by decide), fun _ => rfl⟩
            · intro s158 w159 e160 hf161 hd162 hu163
              rcases bool_two (!(decide (x9_34 = (a1.length : Int)))) with b164 | b164
              · have g165 : (decide (x9_34 = (a1.length : Int))) = false := (not_f b164)
                have d166 : s158 63 = (.bool (decide (x9_34 = (a1.length : Int)))) := (hd162 4 rfl)
                have d167 : s158 63 = (.bool (decide (x9_34 = (a1.length : Int)))) := (hd162 4 rfl)
                have d168 : s158 67 = (.bool (decide (x8_33 < (a0.length : Int)))) := ((hd162 8 rfl).1 (not_mk (not_f b164)))
                exact L_op (.guard 4 false 63 rfl rfl (ltb rfl) (d166.trans (congrArg Value.bool g165))) rfl (ltb rfl) (X_move (v := (.bool (decide (x8_33 < (a0.length : Int))))) d168) <| L_nil <| stepEnd rfl rfl (Ext.refl w159) ⟨fun _ => rfl, fun h => absurd (b164.symm.trans h) (by decide)⟩
              · have d169 : s158 63 = (.bool (decide (x9_34 = (a1.length : Int)))) := (hd162 4 rfl)
                have g170 : (decide (x9_34 = (a1.length : Int))) = true := (not_ff b164)
                exact L_skip rfl rfl (ltb rfl) (d169.trans (congrArg Value.bool g170)) rfl rfl (ltb rfl) <| L_nil <| stepEnd rfl rfl (Ext.refl w159) ⟨fun h => absurd (b164.symm.trans h) (by decide), fun _ => rfl⟩
            · intro s171 w172 e173 hf174 hd175 hu176
              rcases bool_two (spec_Touched.e1 a0 a1 x8_33 x9_34) with b177 | b177
              · have g178 : (decide (x8_33 < (a0.length : Int))) = true := (and_r b177)
                have d179 : s171 68 = (.bool (decide (x8_33 < (a0.length : Int)))) := ((hd175 9 rfl).1 (not_mk (not_f (and_l b177))))
                have d180 : s171 68 = (.bool (decide (x8_33 < (a0.length : Int)))) := ((hd175 9 rfl).1 (not_mk (not_f (and_l b177))))
                exact L_op (.guard 9 true 68 rfl rfl (ltb rfl) (d179.trans (congrArg Value.bool g178))) rfl (ltb rfl) (X_move (v := v_a0) ((hf174 0 rfl).trans ((K58 0 rfl).trans ((K47 0 rfl).trans (K3 0 rfl))))) <| L_nil <| stepEnd rfl rfl (Ext.refl w172) ⟨fun _ => rfl, fun h => absurd (b177.symm.trans h) (by decide)⟩
              · rcases bool_two (!(decide (x9_34 = (a1.length : Int)))) with b181 | b181
                · have d182 : s171 68 = (.bool (decide (x8_33 < (a0.length : Int)))) := ((hd175 9 rfl).1 (not_mk (not_f b181)))
                  have g183 : (decide (x8_33 < (a0.length : Int))) = false := (and_fr b177 b181)
                  exact L_skip rfl rfl (ltb rfl) (d182.trans (congrArg Value.bool g183)) rfl rfl (ltb rfl) <| L_nil <| stepEnd rfl rfl (Ext.refl w172) ⟨fun h => absurd (b177.symm.trans h) (by decide), fun _ => rfl⟩
                · exact L_skipU rfl rfl (ltb rfl) ((hd175 9 rfl).2 b181) rfl (ltb rfl) <| L_nil <| stepEnd rfl rfl (Ext.refl w172) ⟨fun h => absurd (b177.symm.trans h) (by decide), fun _ => rfl⟩
            · intro s184 w185 e186 hf187 hd188 hu189
              rcases bool_two (spec_Touched.e1 a0 a1 x8_33 x9_34) with b190 | b190
              · have g191 : (decide (x8_33 < (a0.length : Int))) = true := (and_r b190)
                have d192 : s184 68 = (.bool (decide (x8_33 < (a0.length : Int)))) := ((hd188 9 rfl).1 (not_mk (not_f (and_l b190))))
                have d193 : s184 68 = (.bool (decide (x8_33 < (a0.length : Int)))) := ((hd188 9 rfl).1 (not_mk (not_f (and_l b190))))
                exact L_op (.guard 9 true 68 rfl rfl (ltb rfl) (d192.trans (congrArg Value.bool g191))) rfl (ltb rfl) (X_move (v := (.int .i64 x8_33)) ((hf187 8 rfl).trans ((K58 8 rfl).trans h52))) <| L_nil <| stepEnd rfl rfl (Ext.refl w185) ⟨fun _ => rfl, fun h => absurd (b190.symm.trans h) (by decide)⟩
              · rcases bool_two (!(decide (x9_34 = (a1.length : Int)))) with b194 | b194
                · have d195 : s184 68 = (.bool (decide (x8_33 < (a0.length : Int)))) := ((hd188 9 rfl).1 (not_mk (not_f b194)))
                  have g196 : (decide (x8_33 < (a0.length : Int))) = false := (and_fr b190 b194)
                  exact L_skip rfl rfl (ltb rfl) (d195.trans (congrArg Value.bool g196)) rfl rfl (ltb rfl) <| L_nil <| stepEnd rfl rfl (Ext.refl w185) ⟨fun h => absurd (b190.symm.trans h) (by decide), fun _ => rfl⟩
                · exact L_skipU rfl rfl (ltb rfl) ((hd188 9 rfl).2 b194) rfl (ltb rfl) <| L_nil <| stepEnd rfl rfl (Ext.refl w185) ⟨fun h => absurd (b190.symm.trans h) (by decide), fun _ => rfl⟩
            · intro s197 w198 e199 hf200 hd201 hu202
              rcases bool_two (spec_Touched.e1 a0 a1 x8_33 x9_34) with b203 | b203
              · have g204 : (decide (x8_33 < (a0.length : Int))) = true := (and_r b203)
                have d205 : s197 68 = (.bool (decide (x8_33 < (a0.length : Int)))) := ((hd201 9 rfl).1 (not_mk (not_f (and_l b203))))
                have d206 : s197 68 = (.bool (decide (x8_33 < (a0.length : Int)))) := ((hd201 9 rfl).1 (not_mk (not_f (and_l b203))))
                have d207 : s197 69 = v_a0 := ((hd201 10 rfl).1 (and_mk (not_mk (not_f (and_l b203))) (and_r b203)))
                have d208 : s197 70 = (.int .i64 x8_33) := ((hd201 11 rfl).1 (and_mk (not_mk (not_f (and_l b203))) (and_r b203)))
                have c209 := imp_take b203 c63
                exact L_idx (.guard 9 true 68 rfl rfl (ltb rfl) (d205.trans (congrArg Value.bool g204))) rfl (ltb rfl) rfl Tryd.underlying38 Tryd.sizeOf42 d207 (Rd.ext f_a0 (Ext.trans (Ext.trans (Ext.trans (Ext.trans (Ext.trans e5 e17) e29) e48) e60) e199)) d208 c209 <| fun p210 h211 => L_nil <| stepEnd rfl rfl (Ext.refl w198) ⟨fun _ => ⟨_, rfl, h211⟩, fun h => absurd (b203.symm.trans h) (by decide)⟩
              · rcases bool_two (!(decide (x9_34 = (a1.length : Int)))) with b212 | b212
                · have d213 : s197 68 = (.bool (decide (x8_33 < (a0.length : Int)))) := ((hd201 9 rfl).1 (not_mk (not_f b212)))
                  have g214 : (decide (x8_33 < (a0.length : Int))) = false := (and_fr b203 b212)
                  exact L_skip rfl rfl (ltb rfl) (d213.trans (congrArg Value.bool g214)) rfl rfl (ltb rfl) <| L_nil <| stepEnd rfl rfl (Ext.refl w198) ⟨fun h => absurd (b203.symm.trans h) (by decide), fun _ => rfl⟩
                · exact L_skipU rfl rfl (ltb rfl) ((hd201 9 rfl).2 b212) rfl (ltb rfl) <| L_nil <| stepEnd rfl rfl (Ext.refl w198) ⟨fun h => absurd (b203.symm.trans h) (by decide), fun _ => rfl⟩
            · intro s215 w216 e217 hf218 hd219 hu220
              rcases bool_two (spec_Touched.e1 a0 a1 x8_33 x9_34) with b221 | b221
              · have g222 : (decide (x8_33 < (a0.length : Int))) = true := (and_r b221)
                have d223 : s215 68 = (.bool (decide (x8_33 < (a0.length : Int)))) := ((hd219 9 rfl).1 (not_mk (not_f (and_l b221))))
                have d224 : s215 68 = (.bool (decide (x8_33 < (a0.length : Int)))) := ((hd219 9 rfl).1 (not_mk (not_f (and_l b221))))
                obtain ⟨p225, h226, h227⟩ := ((hd219 12 rfl).1 (and_mk (not_mk (not_f (and_l b221))) (and_r b221)))
                exact L_op (.guard 9 true 68 rfl rfl (ltb rfl) (d223.trans (congrArg Value.bool g222))) rfl (ltb rfl) (X_fieldAddr Tryd.underlying42 rfl Tryd.sizeOf9 rfl h226) <| L_nil <| stepEnd rfl rfl (Ext.refl w216) ⟨fun _ => ⟨_, rfl, h227⟩, fun h => absurd (b221.symm.trans h) (by decide)⟩
              · rcases bool_two (!(decide (x9_34 = (a1.length : Int)))) with b228 | b228
                · have d229 : s215 68 = (.bool (decide (x8_33 < (a0.length : Int)))) := ((hd219 9 rfl).1 (not_mk (not_f b228)))
                  have g230 : (decide (x8_33 < (a0.length : Int))) = false := (and_fr b221 b228)
                  exact L_skip rfl rfl (ltb rfl) (d229.trans (congrArg Value.bool g230)) rfl rfl (ltb rfl) <| L_nil <| stepEnd rfl rfl (Ext.refl w216) ⟨fun h => absurd (b221.symm.trans h) (by decide), fun _ => rfl⟩
                · exact L_skipU rfl rfl (ltb rfl) ((hd219 9 rfl).2 b228) rfl (ltb rfl) <| L_nil <| stepEnd rfl rfl (Ext.refl w216) ⟨fun h => absurd (b221.symm.trans h) (by decide), fun _ => rfl⟩
            · intro s231 w232 e233 hf234 hd235 hu236
              rcases bool_two (spec_Touched.e1 a0 a1 x8_33 x9_34) with b237 | b237
              · have g238 : (decide (x8_33 < (a0.length : Int))) = true := (and_r b237)
                have d239 : s231 68 = (.bool (decide (x8_33 < (a0.length : Int)))) := ((hd235 9 rfl).1 (not_mk (not_f (and_l b237))))
                have d240 : s231 68 = (.bool (decide (x8_33 < (a0.length : Int)))) := ((hd235 9 rfl).1 (not_mk (not_f (and_l b237))))
                obtain ⟨p241, h242, h243⟩ := ((hd235 13 rfl).1 (and_mk (not_mk (not_f (and_l b237))) (and_r b237)))
                exact L_op (.guard 9 true 68 rfl rfl (ltb rfl) (d239.trans (congrArg Value.bool g238))) rfl (ltb rfl) (X_loadF Tryd.isAgg9 (j := 1) h243 h242 rfl) <| L_nil <| stepEnd rfl rfl (Ext.refl w232) ⟨fun _ => rfl, fun h => absurd (b237.symm.trans h) (by decide)⟩
              · rcases bool_two (!(decide (x9_34 = (a1.length : Int)))) with b244 | b244
                · have d245 : s231 68 = (.bool (decide (x8_33 < (a0.length : Int)))) := ((hd235 9 rfl).1 (not_mk (not_f b244)))
                  have g246 : (decide (x8_33 < (a0.length : Int))) = false := (and_fr b237 b244)
                  exact L_skip rfl rfl (ltb rfl) (d245.trans (congrArg Value.bool g246)) rfl rfl (ltb rfl) <| L_nil <| stepEnd rfl rfl (Ext.refl w232) ⟨fun h => absurd (b237.symm.trans h) (by decide), fun _ => rfl⟩
                · exact L_skipU rfl rfl (ltb rfl) ((hd235 9 rfl).2 b244) rfl (ltb rfl) <| L_nil <| stepEnd rfl rfl (Ext.refl w232) ⟨fun h => absurd (b237.symm.trans h) (by decide), fun _ => rfl⟩
            · intro s247 w248 e249 hf250 hd251 hu252
              rcases bool_two (spec_Touched.e1 a0 a1 x8_33 x9_34) with b253 | b253
              · have g254 : (decide (x8_33 < (a0.length : Int))) = true := (and_r b253)
                have d255 : s247 68 = (.bool (decide (x8_33 < (a0.length : Int)))) := ((hd251 9 rfl).1 (not_mk (not_f (and_l b253))))
                have d256 : s247 68 = (.bool (decide (x8_33 < (a0.length : Int)))) := ((hd251 9 rfl).1 (not_mk (not_f (and_l b253))))
                exact L_op (.guard 9 true 68 rfl rfl (ltb rfl) (d255.trans (congrArg Value.bool g254))) rfl (ltb rfl) (X_move (v := v_a1) ((hf250 1 rfl).trans ((K58 1 rfl).trans ((K47 1 rfl).trans (K3 1 rfl))))) <| L_nil <| stepEnd rfl rfl (Ext.refl w248) ⟨fun _ => rfl, fun h => absurd (b253.symm.trans h) (by decide)⟩
              · rcases bool_two (!(decide (x9_34 = (a1.length : Int)))) with b257 | b257
                · have d258 : s247 68 = (.bool (decide (x8_33 < (a0.length : Int)))) := ((hd251 9 rfl).1 (not_mk (not_f b257)))
                  have g259 : (decide (x8_33 < (a0.length : Int))) = false := (and_fr b253 b257)
                  exact L_skip rfl rfl (ltb rfl) (d258.trans (congrArg Value.bool g259)) rfl rfl (ltb rfl) <| L_nil <| stepEnd rfl rfl (Ext.refl w248) ⟨fun h => absurd (b253.symm.trans h) (by decide), fun _ => rfl⟩
                · exact L_skipU rfl rfl (ltb rfl) ((hd251 9 rfl).2 b257) rfl (ltb rfl) <| L_nil <| stepEnd rfl rfl (Ext.refl w248) ⟨fun h => absurd (b253.symm.trans h) (by decide), fun _ => rfl⟩
            · intro s260 w261 e262 hf263 hd264 hu265
              rcases bool_two (spec_Touched.e1 a0 a1 x8_33 x9_34) with b266 | b266
              · have g267 : (decide (x8_33 < (a0.length : Int))) = true := (and_r b266)
                have d268 : s260 68 = (.bool (decide (x8_33 < (a0.length : Int)))) := ((hd264 9 rfl).1 (not_mk (not_f (and_l b266))))
                have d269 : s260 68 = (.bool (decide (x8_33 < (a0.length : Int)))) := ((hd264 9 rfl).1 (not_mk (not_f (and_l b266))))
                exact L_op (.guard 9 true 68 rfl rfl (ltb rfl) (d268.trans (congrArg Value.bool g267))) rfl (ltb rfl) (X_move (v := (.int .i64 x9_34)) ((hf263 9 rfl).trans ((K58 9 rfl).trans h53))) <| L_nil <| stepEnd rfl rfl (Ext.refl w261) ⟨fun _ => rfl, fun h => absurd (b266.symm.trans h) (by decide)⟩
              · rcases bool_two (!(decide (x9_34 = (a1.length : Int)))) with b270 | b270
                · have d271 : s260 68 = (.bool (decide (x8_33 < (a0.length : Int)))) := ((hd264 9 rfl).1 (not_mk (not_f b270)))
                  have g272 : (decide (x8_33 < (a0.length : Int))) = false := (and_fr b266 b270)
                  exact L_skip rfl rfl (ltb rfl) (d271.trans (congrArg Value.bool g272)) rfl rfl (ltb rfl) <| L_nil <| stepEnd rfl rfl (Ext.refl w261) ⟨fun h => absurd (b266.symm.trans h) (by decide), fun _ => rfl⟩
                · exact L_skipU rfl rfl (ltb rfl) ((hd264 9 rfl).2 b270) rfl (ltb rfl) <| L_nil <| stepEnd rfl rfl (Ext.refl w261) ⟨fun h => absurd (b266.symm.trans h) (by decide), fun _ => rfl⟩
            · intro s273 w274 e275 hf276 hd277 hu278
              rcases bool_two (spec_Touched.e1 a0 a1 x8_33 x9_34) with b279 | b279
              · have g280 : (decide (x8_33 < (a0.length : Int))) = true := (and_r b279)
                have d281 : s273 68 = (.bool (decide (x8_33 < (a0.length : Int)))) := ((hd277 9 rfl).1 (not_mk (not_f (and_l b279))))
                have d282 : s273 68 = (.bool (decide (x8_33 < (a0.length : Int)))) := ((hd277 9 rfl).1 (not_mk (not_f (and_l b279))))
                have d283 : s273 74 = v_a1 := ((hd277 15 rfl).1 (and_mk (not_mk (not_f (and_l b279))) (and_r b279)))
                have d284 : s273 75 = (.int .i64 x9_34) := ((hd277 16 rfl).1 (and_mk (not_mk (not_f (and_l b279))) (and_r b279)))
                have c285 := imp_take b279 c66
                exact L_idx (.guard 9 true 68 rfl rfl (ltb rfl) (d281.trans (congrArg Value.bool g280))) rfl (ltb rfl) rfl Tryd.underlying38 Tryd.sizeOf42 d283 (Rd.ext f_a1 (Ext.trans (Ext.trans (Ext.trans (Ext.trans (Ext.trans e5 e17) e29) e48) e60) e275)) d284 c285 <| fun p286 h287 => L_nil <| stepEnd rfl rfl (Ext.refl w274) ⟨fun _ => ⟨_, rfl, h287⟩, fun h => absurd (b279.symm.trans h) (by decide)⟩
              · rcases bool_two (!(decide (x9_34 = (a1.length : Int)))) with b288 | b288
                · have d289 : s273 68 = (.bool (decide (x8_33 < (a0.length : Int)))) := ((hd277 9 rfl).1 (not_mk (not_f b288)))
                  have g290 : (decide (x8_33 < (a0.length : Int))) = false := (and_fr b279 b288)
                  exact L_skip rfl rfl (ltb rfl) (d289.trans (congrArg Value.bool g290)) rfl rfl (ltb rfl) <| L_nil <| stepEnd rfl rfl (Ext.refl w274) ⟨fun h => absurd (b279.symm.trans h) (by decide), fun _ => rfl⟩
                · exact L_skipU rfl rfl (ltb rfl) ((hd277 9 rfl).2 b288) rfl (ltb rfl) <| L_nil <| stepEnd rfl rfl (Ext.refl w274) ⟨fun h => absurd (b279.symm.trans h) (by decide), fun _ => rfl⟩
            · intro s291 w292 e293 hf294 hd295 hu296
              rcases bool_two (spec_Touched.e1 a0 a1 x8_33 x9_34) with b297 | b297
              · have g298 : (decide (x8_33 < (a0.length : Int))) = true := (and_r b297)
                have d299 : s291 68 = (.bool (decide (x8_33 < (a0.length : Int)))) := ((hd295 9 rfl).1 (not_mk (not_f (and_l b297))))
                have d300 : s291 68 = (.bool (decide (x8_33 < (a0.length : Int)))) := ((hd295 9 rfl).1 (not_mk (not_f (and_l b297))))
                obtain ⟨p301, h302, h303⟩ := ((hd295 17 rfl).1 (and_mk (not_mk (not_f (and_l b297))) (and_r b297)))
                exact L_op (.guard 9 true 68 rfl rfl (ltb rfl) (d299.trans (congrArg Value.bool g298))) rfl (ltb rfl) (X_fieldAddr Tryd.underlying42 rfl Tryd.sizeOf9 rfl h302) <| L_nil <| stepEnd rfl rfl (Ext.refl w292) ⟨fun _ => ⟨_, rfl, h303⟩, fun h => absurd (b297.symm.trans h) (by decide)⟩
              · rcases bool_two (!(decide (x9_34 = (a1.length : Int)))) with b304 | b304
                · have d305 : s291 68 = (.bool (decide (x8_33 < (a0.length : Int)))) := ((hd295 9 rfl).1 (not_mk (not_f b304)))
                  have g306 : (decide (x8_33 < (a0.length : Int))) = false := (and_fr b297 b304)
                  exact L_skip rfl rfl (ltb rfl) (d305.trans (congrArg Value.bool g306)) rfl rfl (ltb rfl) <| L_nil <| stepEnd rfl rfl (Ext.refl w292) ⟨fun h => absurd (b297.symm.trans h) (by decide), fun _ => rfl⟩
                · exact L_skipU rfl rfl (ltb rfl) ((hd295 9 rfl).2 b304) rfl (ltb rfl) <| L_nil <| stepEnd rfl rfl (Ext.refl w292) ⟨fun h => absurd (b297.symm.trans h) (by decide), fun _ => rfl⟩
            · intro s307 w308 e309 hf310 hd311 hu312
              rcases bool_two (spec_Touched.e1 a0 a1 x8_33 x9_34) with b313 | b313
              · have g314 : (decide (x8_33 < (a0.length : Int))) = true := (and_r b313)
                have d315 : s307 68 = (.bool (decide (x8_33 < (a0.length : Int)))) := ((hd311 9 rfl).1 (not_mk (not_f (and_l b313))))
                have d316 : s307 68 = (.bool (decide (x8_33 < (a0.length : Int)))) := ((hd311 9 rfl).1 (not_mk (not_f (and_l b313))))
                obtain ⟨p317, h318, h319⟩ := ((hd311 18 rfl).1 (and_mk (not_mk (not_f (and_l b313))) (and_r b313)))
                exact L_op (.guard 9 true 68 rfl rfl (ltb rfl) (d315.trans (congrArg Value.bool g314))) rfl (ltb rfl) (X_loadF Tryd.isAgg9 (j := 1) h319 h318 rfl) <| L_nil <| stepEnd rfl rfl (Ext.refl w308) ⟨fun _ => rfl, fun h => absurd (b313.symm.trans h) (by decide)⟩
              · rcases bool_two (!(decide (x9_34 = (a1.length : Int)))) with b320 | b320
                · have d321 : s307 68 = (.bool (decide (x8_33 < (a0.length : Int)))) := ((hd311 9 rfl).1 (not_mk (not_f b320)))
                  have g322 : (decide (x8_33 < (a0.length : Int))) = false := (and_fr b313 b320)
                  exact L_skip rfl rfl (ltb rfl) (d321.trans (congrArg Value.bool g322)) rfl rfl (ltb rfl) <| L_nil <| stepEnd rfl rfl (Ext.refl w308) ⟨fun h => absurd (b313.symm.trans h) (by decide), fun _ => rfl⟩
                · exact L_skipU rfl rfl (ltb rfl) ((hd311 9 rfl).2 b320) rfl (ltb rfl) <| L_nil <| stepEnd rfl rfl (Ext.refl w308) ⟨fun h => absurd (b313.symm.trans h) (by decide), fun _ => rfl⟩
            · intro s323 w324 e325 hf326 hd327 hu328
              rcases bool_two (spec_Touched.e1 a0 a1 x8_33 x9_34) with b329 | b329
              · have g330 : (decide (x8_33 < (a0.length : Int))) = true := (and_r b329)
                have d331 : s323 68 = (.bool (decide (x8_33 < (a0.length : Int)))) := ((hd327 9 rfl).1 (not_mk (not_f (and_l b329))))
                have d332 : s323 68 = (.bool (decide (x8_33 < (a0.length : Int)))) := ((hd327 9 rfl).1 (not_mk (not_f (and_l b329))))
                have d333 : s323 73 = (S ((gt a0 x8_33).path)) := ((hd327 14 rfl).1 (and_mk (not_mk (not_f (and_l b329))) (and_r b329)))
                have d334 : s323 78 = (S ((gt a1 x9_34).path)) := ((hd327 19 rfl).1 (and_mk (not_mk (not_f (and_l b329))) (and_r b329)))
                have c335 := imp_take b329 c69
                have c336 := imp_take b329 c70
                exact L_callP (.guard 9 true 68 rfl rfl (ltb rfl) (d331.trans (congrArg Value.bool g330))) rfl (ltb rfl) rfl Tryd.call53 (spec_l01Less.calls (w := w324) (a0 := (gt a0 x8_33).path) (a1 := (gt a1 x9_34).path) (of_decide_eq_true c335) (of_decide_eq_true c336)) (cons2 d333 (cons2 d334 rfl)) <| fun w337 e338 => L_nil <| stepEnd rfl rfl e338 ⟨fun _ => rfl, fun h => absurd (b329.symm.trans h) (by decide)⟩
              · rcases bool_two (!(decide (x9_34 = (a1.length : Int)))) with b339 | b339
                · have d340 : s323 68 = (.bool (decide (x8_33 < (a0.length : Int)))) := ((hd327 9 rfl).1 (not_mk (not_f b339)))
                  have g341 : (decide (x8_33 < (a0.length : Int))) = false := (and_fr b329 b339)
                  exact L_skip rfl rfl (ltb rfl) (d340.trans (congrArg Value.bool g341)) rfl rfl (ltb rfl) <| L_nil <| stepEnd rfl rfl (Ext.refl w324) ⟨fun h => absurd (b329.symm.trans h) (by decide), fun _ => rfl⟩
                · exact L_skipU rfl rfl (ltb rfl) ((hd327 9 rfl).2 b339) rfl (ltb rfl) <| L_nil <| stepEnd rfl rfl (Ext.refl w324) ⟨fun h => absurd (b329.symm.trans h) (by decide), fun _ => rfl⟩
            · intro s342 w343 e344 hf345 hd346 hu347
              rcases bool_two (!(decide (x9_34 = (a1.length : Int)))) with b348 | b348
              · have g349 : (decide (x9_34 = (a1.length : Int))) = false := (not_f b348)
                have d350 : s342 63 = (.bool (decide (x9_34 = (a1.length : Int)))) := (hd346 4 rfl)
                rcases bool_two (decide (x8_33 < (a0.length : Int))) with b351 | b351
                · have d352 : s342 68 = (.bool (decide (x8_33 < (a0.length : Int)))) := ((hd346 9 rfl).1 (not_mk (not_f b348)))
                  have d353 : s342 79 = (.bool (lessL (cut 47 ((gt a0 x8_33).path)) (cut 47 ((gt a1 x9_34).path)))) := ((hd346 20 rfl).1 (and_mk (not_mk (not_f b348)) b351))
                  exact L_op (.guard 4 false 63 rfl rfl (ltb rfl) (d350.trans (congrArg Value.bool g349))) rfl (ltb rfl) (X_pick (b := true) (v := (.bool (lessL (cut 47 ((gt a0 x8_33).path)) (cut 47 ((gt a1 x9_34).path))))) (d352.trans (congrArg Value.bool b351)) d353) <| L_nil <| stepEnd rfl rfl (Ext.refl w343) ⟨fun _ => (and_t b351), fun h => absurd (b348.symm.trans h) (by decide)⟩
                · have d354 : s342 68 = (.bool (decide (x8_33 < (a0.length : Int)))) := ((hd346 9 rfl).1 (not_mk (not_f b348)))
                  exact L_op (.guard 4 false 63 rfl rfl (ltb rfl) (d350.trans (congrArg Value.bool g349))) rfl (ltb rfl) (X_pick (b := false) (v := (.bool false)) (d354.trans (congrArg Value.bool b351)) rfl) <| L_nil <| stepEnd rfl rfl (Ext.refl w343) ⟨fun _ => (and_f b351), fun h => absurd (b348.symm.trans h) (by decide)⟩
              · have d355 : s342 63 = (.bool (decide (x9_34 = (a1.length : Int)))) := (hd346 4 rfl)
                have g356 : (decide (x9_34 = (a1.length : Int))) = true := (not_ff b348)
                exact L_skip rfl rfl (ltb rfl) (d355.trans (congrArg Value.bool g356)) rfl rfl (ltb rfl) <| L_nil <| stepEnd rfl rfl (Ext.refl w343) ⟨fun h => absurd (b348.symm.trans h) (by decide), fun _ => rfl⟩
            · intro s357 w358 e359 hf360 hd361 hu362
              rcases bool_two (decide (x9_34 = (a1.length : Int))) with b363 | b363
              · have d364 : s357 63 = (.bool (decide (x9_34 = (a1.length : Int)))) := (hd361 4 rfl)
                exact L_op (.plain rfl) rfl (ltb rfl) (X_pick (b := true) (v := (.bool true)) (d364.trans (congrArg Value.bool b363)) rfl) <| L_nil <| stepEnd rfl rfl (Ext.refl w358) (or_t b363)
              · have d365 : s357 63 = (.bool (decide (x9_34 = (a1.length : Int)))) := (hd361 4 rfl)
                have d366 : s357 80 = (.bool (spec_Touched.e2 a0 a1 x8_33 x9_34)) := ((hd361 21 rfl).1 (not_mk b363))
                exact L_op (.plain rfl) rfl (ltb rfl) (X_pick (b := false) (v := (.bool (spec_Touched.e2 a0 a1 x8_33 x9_34))) (d365.trans (congrArg Value.bool b363)) d366) <| L_nil <| stepEnd rfl rfl (Ext.refl w358) (or_f b363)
            · intro s367 w368 e369 hf370 hd371 hu372
              have d373 : s367 81 = (.bool ((decide (x9_34 = (a1.length : Int))) || (spec_Touched.e2 a0 a1 x8_33 x9_34))) := (hd371 22 rfl)
              exact L_op (.plain rfl) rfl (ltb rfl) (X_assign d373) <| L_nil <| stepEnd rfl rfl (Ext.refl w368) rfl
            intro s374 w375 e376 hf377 ha378
            have K379 := Kp.ofD (kp := [(58, 82)]) rfl hf377
            have d380 : s374 58 = (.bool ((decide (x9_34 = (a1.length : Int))) || (spec_Touched.e2 a0 a1 x8_33 x9_34))) := ha378 23 rfl
            clear ha378 hf377
            refine thn_n ?_
            rcases bif_two H with ⟨q381, H⟩ | ⟨q381, H⟩
            · refine W_true (d380.trans (congrArg Value.bool q381)) <| W_seq <| W_reg <| L_op (.plain rfl) rfl (ltb rfl) (X_move (v := v32) ((K379 7 rfl).trans ((K58 7 rfl).trans h50))) <| L_op (.plain rfl) rfl (ltb rfl) (X_move (v := v_a0) ((K379 0 rfl).trans ((K58 0 rfl).trans ((K47 0 rfl).trans (K3 0 rfl))))) <| L_op (.plain rfl) rfl (ltb rfl) (X_move (v := (.int .i64 x8_33)) ((K379 8 rfl).trans ((K58 8 rfl).trans h52))) ?_
              obtain ⟨c382, H⟩ := bif_some H
              refine L_idx (.plain rfl) rfl (ltb rfl) rfl Tryd.underlying38 Tryd.sizeOf42 rfl (Rd.ext f_a0 (Ext.trans (Ext.trans (Ext.trans (Ext.trans (Ext.trans e5 e17) e29) e48) e60) e376)) rfl c382 <| fun p383 h384 => L_op (.plain rfl) rfl (ltb rfl) (X_fieldAddr Tryd.underlying42 rfl Tryd.sizeOf9 rfl rfl) <| L_op (.plain rfl) rfl (ltb rfl) (X_loadF Tryd.isAgg9 (j := 1) h384 rfl rfl) <| L_lit (.plain rfl) rfl (ltb rfl) rfl Tryd.underlying47 Tryd.sizeOf9 Tryd.zeroValue9 rfl rfl rfl (vs := [(S ((gt a0 x8_33).path))]) rfl (lit_all rfl) <| fun b385 w386 z387 z388 e389 k390 => ?_
              obtain ⟨c391, H⟩ := bif_some H
              refine L_append (enc := encS) (.plain rfl) rfl (ltb rfl) rfl El.t47 rfl rfl (Ow.ext h51 (Ext.trans (Ext.trans e60 e376) e389)) (Ow.rd (Ow.new (xs := [(gt a0 x8_33).path]) (sz := 1) (enc := encS) (base := w375.heap.size) k390 (Nat.le_of_eq z387) rfl (fun _ _ => by rfl) (Nat.le_of_ble_eq_true rfl))) (ones_S _) (of_decide_eq_true c391) ((Ext.trans (Ext.trans (Ext.trans e48 e60) e376) e389)).size <| fun v392 w393 o394 z395 g396 => L_op (.plain rfl) rfl (ltb rfl) (X_assign (v := v392) rfl) <| L_nil <| thn_n <| W_reg <| L_op (.plain rfl) rfl (ltb rfl) (X_move (v := (.int .i64 x8_33)) ((K379 8 rfl).trans ((K58 8 rfl).trans h52))) <| L_op (.plain rfl) rfl (ltb rfl) (X_add rfl rfl) <| L_op (.plain rfl) rfl (ltb rfl) (X_assign (v := (.int .i64 (IntKind.wrap .i64 (x8_33 + 1)))) rfl) <| L_nil <| blk_n <| blk_n <| thn_n ?_
              obtain rfl := Option.some.inj H
              exact ⟨_, Nat.lt_succ_self _, x7_31 ++ ([(gt a0 x8_33).path] : List (List UInt8)), v392, IntKind.wrap .i64 (x8_33 + 1), x9_34, (Kp.upd (Kp.upd (Kp.upd (Kp.upd (Kp.upd (Kp.upd (Kp.upd (Kp.upd (Kp.upd (Kp.upd (Kp.upd (Kp.upd (Kp.cut (Kp.cut (Kp.upd (Kp.upd (Kp.upd (Kp.upd (Kp.upd K47 rfl) rfl) rfl) rfl) rfl) K58 rfl) K379 rfl) rfl) rfl) rfl) rfl) rfl) rfl) rfl) rfl) rfl) rfl) rfl) rfl), rfl, o394, rfl, ((K379 9 rfl).trans ((K58 9 rfl).trans h53)), (g396 _ (Ext.trans (Ext.trans (Ext.trans e48 e60) e376) e389)), S55⟩
            · refine W_false (d380.trans (congrArg Value.bool q381)) <| W_seq ?_
              obtain ⟨c397, H⟩ := bif_some H
              obtain ⟨c400, H⟩ := bif_some H
              obtain ⟨c403, H⟩ := bif_some H
              obtain ⟨c404, H⟩ := bif_some H
              refine W_drawM [LEq (.int .i64 x8_33), LEq v_a0, LEq (.int .i64 (a0.length : Int)), LEq (.bool (decide (x8_33 = (a0.length : Int)))), LEq (.bool (decide (x8_33 = (a0.length : Int)))), LIf (!(decide (x8_33 = (a0.length : Int)))) (LEq v_a1), LIf (!(decide (x8_33 = (a0.length : Int)))) (LEq (.int .i64 x9_34)), LIf (!(decide (x8_33 = (a0.length : Int)))) (LAt0 (encNd (gt a1 x9_34))), LIf (!(decide (x8_33 = (a0.length : Int)))) (LAt 1 (encNd (gt a1 x9_34))), LIf (!(decide (x8_33 = (a0.length : Int)))) (LEq (S ((gt a1 x9_34).path))), LIf (!(decide (x8_33 = (a0.length : Int)))) (LEq v_a0), LIf (!(decide (x8_33 = (a0.length : Int)))) (LEq (.int .i64 x8_33)), LIf (!(decide (x8_33 = (a0.length : Int)))) (LAt0 (encNd (gt a0 x8_33))), LIf (!(decide (x8_33 = (a0.length : Int)))) (LAt 1 (encNd (gt a0 x8_33))), LIf (!(decide (x8_33 = (a0.length : Int)))) (LEq (S ((gt a0 x8_33).path))), LIf (!(decide (x8_33 = (a0.length : Int)))) (LEq (.bool (lessL (cut 47 ((gt a1 x9_34).path)) (cut 47 ((gt a0 x8_33).path))))), LEq (.bool ((decide (x8_33 = (a0.length : Int))) || (lessL (cut 47 ((gt a1 x9_34).path)) (cut 47 ((gt a0 x8_33).path))))), LEq (.bool ((decide (x8_33 = (a0.length : Int))) || (lessL (cut 47 ((gt a1 x9_34).path)) (cut 47 ((gt a0 x8_33).path)))))] (by kernel_rfl) (by kernel_rfl) ⟨LEq.mono, LEq.mono, LEq.mono, LEq.mono, LEq.mono, (LIf.mono LEq.mono), (LIf.mono LEq.mono), (LIf.mono LAt0.mono), (LIf.mono LAt.mono), (LIf.mono LEq.mono), (LIf.mono LEq.mono), (LIf.mono LEq.mono), (LIf.mono LAt0.mono), (LIf.mono LAt.mono), (LIf.mono LEq.mono), (LIf.mono LEq.mono), LEq.mono, LEq.mono, trivial⟩ ⟨?_, ?_, ?_, ?_, ?_, ?_, ?_, ?_, ?_, ?_, ?_, ?_, ?_, ?_, ?_, ?_, ?_, ?_, trivial⟩ ?_
              · intro s407 w408 e409 hf410 hd411 hu412
                exact L_op (.plain rfl) rfl (ltb rfl) (X_move (v := (.int .i64 x8_33)) ((hf410 8 rfl).trans ((K379 8 rfl).trans ((K58 8 rfl).trans h52)))) <| L_nil <| stepEnd rfl rfl (Ext.refl w408) rfl
              · intro s413 w414 e415 hf416 hd417 hu418
                exact L_op (.plain rfl) rfl (ltb rfl) (X_move (v := v_a0) ((hf416 0 rfl).trans ((K379 0 rfl).trans ((K58 0 rfl).trans ((K47 0 rfl).trans (K3 0 rfl)))))) <| L_nil <| stepEnd rfl rfl (Ext.refl w414) rfl
              · intro s419 w420 e421 hf422 hd423 hu424
                have d425 : s419 94 = v_a0 := (hd423 1 rfl)
                exact L_op (.plain rfl) rfl (ltb rfl) (X_lenR Tryd.underlying38 d425 (Rd.ext f_a0 (Ext.trans (Ext.trans (Ext.trans (Ext.trans (Ext.trans (Ext.trans e5 e17) e29) e48) e60) e376) e421))) <| L_nil <| stepEnd rfl rfl (Ext.refl w420) rfl
              · intro s426 w427 e428 hf429 hd430 hu431
                have d432 : s426 93 = (.int .i64 x8_33) := (hd430 0 rfl)
                have d433 : s426 95 = (.int .i64 (a0.length : Int)) := (hd430 2 rfl)
                exact L_op (.plain rfl) rfl (ltb rfl) (X_eql d432 d433) <| L_nil <| stepEnd rfl rfl (Ext.refl w427) rfl
              · intro s434 w435 e436 hf437 hd438 hu439
                have d440 : s434 96 = (.bool (decide (x8_33 = (a0.length : Int)))) := (hd438 3 rfl)
                exact L_op (.plain rfl) rfl (ltb rfl) (X_move (v := (.bool (decide (x8_33 = (a0.length : Int))))) d440) <| L_nil <| stepEnd rfl rfl (Ext.refl w435) rfl
              · intro s441 w442 e443 hf444 hd445 hu446
                rcases bool_two (!(decide (x8_33 = (a0.length : Int)))) with b447 | b447
                · have g448 : (decide (x8_33 = (a0.length : Int))) = false := (not_f b447)
                  have d449 : s441 97 = (.bool (decide (x8_33 = (a0.length : Int)))) := (hd445 4 rfl)
                  have d450 : s441 97 = (.bool (decide (x8_33 = (a0.length : Int)))) := (hd445 4 rfl)
                  exact L_op (.guard 4 false 97 rfl rfl (ltb rfl) (d449.trans (congrArg Value.bool g448))) rfl (ltb rfl) (X_move (v := v_a1) ((hf444 1 rfl).trans ((K379 1 rfl).trans ((K58 1 rfl).trans ((K47 1 rfl).trans (K3 1 rfl)))))) <| L_nil <| stepEnd rfl rfl (Ext.refl w442) ⟨fun _ => rfl, fun h => absurd (b447.symm.trans h) (by decide)⟩
                · have d451 : s441 97 = (.bool (decide (x8_33 = (a0.length : Int)))) := (hd445 4 rfl)
                  have g452 : (decide (x8_33 = (a0.length : Int))) = true := (not_ff b447)
                  exact L_skip rfl rfl (ltb rfl) (d451.trans (congrArg Value.bool g452)) rfl rfl (ltb rfl) <| L_nil <| stepEnd rfl rfl (Ext.refl w442) ⟨fun h => absurd (b447.symm.trans h) (by decide), fun _ => rfl⟩
              · intro s453 w454 e455 hf456 hd457 hu458
                rcases bool_two (!(decide (x8_33 = (a0.length : Int)))) with b459 | b459
                · have g460 : (decide (x8_33 = (a0.length : Int))) = false := (not_f b459)
                  have d461 : s453 97 = (.bool (decide (x8_33 = (a0.length : Int)))) := (hd457 4 rfl)
                  have d462 : s453 97 = (.bool (decide (x8_33 = (a0.length : Int)))) := (hd457 4 rfl)
                  exact L_op (.guard 4 false 97 rfl rfl (ltb rfl) (d461.trans (congrArg Value.bool g460))) rfl (ltb rfl) (X_move (v := (.int .i64 x9_34)) ((hf456 9 rfl).trans ((K379 9 rfl).trans ((K58 9 rfl).trans h53)))) <| L_nil <| stepEnd rfl rfl (Ext.refl w454) ⟨fun _ => rfl, fun h => absurd (b459.symm.trans h) (by decide)⟩
                · have d463 : s453 97 = (.bool (decide (x8_33 = (a0.length : Int)))) := (hd457 4 rfl)
                  have g464 : (decide (x8_33 = (a0.length : Int))) = true := (not_ff b459)
                  exact L_skip rfl rfl (ltb rfl) (d463.trans (congrArg Value.bool g464)) rfl rfl (ltb rfl) <| L_nil <| stepEnd rfl rfl (Ext.refl w454) ⟨fun h => absurd (b459.symm.trans h) (by decide), fun _ => rfl⟩
              · intro s465 w466 e467 hf468 hd469 hu470
                rcases bool_two (!(decide (x8_33 = (a0.length : Int)))) with b471 | b471
                · have g472 : (decide (x8_33 = (a0.length : Int))) = false := (not_f b471)
                  have d473 : s465 97 = (.bool (decide (x8_33 = (a0.length : Int)))) := (hd469 4 rfl)
                  have d474 : s465 97 = (.bool (decide (x8_33 = (a0.length : Int)))) := (hd469 4 rfl)
                  have d475 : s465 98 = v_a1 := ((hd469 5 rfl).1 (not_mk (not_f b471)))
                  have d476 : s465 99 = (.int .i64 x9_34) := ((hd469 6 rfl).1 (not_mk (not_f b471)))
                  have c477 := imp_take b471 c397
                  exact L_idx (.guard 4 false 97 rfl rfl (ltb rfl) (d473.trans (congrArg Value.bool g472))) rfl (ltb rfl) rfl Tryd.underlying38 Tryd.sizeOf42 d475 (Rd.ext f_a1 (Ext.trans (Ext.trans (Ext.trans (Ext.trans (Ext.trans (Ext.trans e5 e17) e29) e48) e60) e376) e467)) d476 c477 <| fun p478 h479 => L_nil <| stepEnd rfl rfl (Ext.refl w466) ⟨fun _ => ⟨_, rfl, h479⟩, fun h => absurd (b471.symm.trans h) (by decide)⟩
                · have d480 : s465 97 = (.bool (decide (x8_33 = (a0.length : Int)))) := (hd469 4 rfl)
                  have g481 : (decide (x8_33 = (a0.length : Int))) = true := (not_ff b471)
                  exact L_skip rfl rfl (ltb rfl) (d480.trans (congrArg Value.bool g481)) rfl rfl (ltb rfl) <| L_nil <| stepEnd rfl rfl (Ext.refl w466) ⟨fun h => absurd (b471.symm.trans h) (by decide), fun _ => rfl⟩
              · intro s482 w483 e484 hf485 hd486 hu487
                rcases bool_two (!(decide (x8_33 = (a0.length : Int)))) with b488 | b488
                · have g489 : (decide (x8_33 = (a0.length : Int))) = false := (not_f b488)
                  have d490 : s482 97 = (.bool (decide (x8_33 = (a0.length : Int)))) := (hd486 4 rfl)
                  have d491 : s482 97 = (.bool (decide (x8_33 = (a0.length : Int)))) := (hd486 4 rfl)
                  obtain ⟨p492, h493, h494⟩ := ((hd486 7 rfl).1 (not_mk (not_f b488)))
                  exact L_op (.guard 4 false 97 rfl rfl (ltb rfl) (d490.trans (congrArg Value.bool g489))) rfl (ltb rfl) (X_fieldAddr Tryd.underlying42 rfl Tryd.sizeOf9 rfl h493) <| L_nil <| stepEnd rfl rfl (Ext.refl w483) ⟨fun _ => ⟨_, rfl, h494⟩, fun h => absurd (b488.symm.trans h) (by decide)⟩
                · have d495 : s482 97 = (.bool (decide (x8_33 = (a0.length : Int)))) := (hd486 4 rfl)
                  have g496 : (decide (x8_33 = (a0.length : Int))) = true := (not_ff b488)
                  exact L_skip rfl rfl (ltb rfl) (d495.trans (congrArg Value.bool g496)) rfl rfl (ltb rfl) <| L_nil <| stepEnd rfl rfl (Ext.refl w483) ⟨fun h => absurd (b488.symm.trans h) (by decide), fun _ => rfl⟩
              · intro s497 w498 e499 hf500 hd501 hu502
                rcases bool_two (!(decide (x8_33 = (a0.length : Int)))) with b503 | b503
                · have g504 : (decide (x8_33 = (a0.length : Int))) = false := (not_f b503)
                  have d505 : s497 97 = (.bool (decide (x8_33 = (a0.length : Int)))) := (hd501 4 rfl)
                  have d506 : s497 97 = (.bool (decide (x8_33 = (a0.length : Int)))) := (hd501 4 rfl)
                  obtain ⟨p507, h508, h509⟩ := ((hd501 8 rfl).1 (not_mk (not_f b503)))
                  exact L_op (.guard 4 false 97 rfl rfl (ltb rfl) (d505.trans (congrArg Value.bool g504))) rfl (ltb rfl) (X_loadF Tryd.isAgg9 (j := 1) h509 h508 rfl) <| L_nil <| stepEnd rfl rfl (Ext.refl w498) ⟨fun _ => rfl, fun h => absurd (b503.symm.trans h) (by decide)⟩
                · have d510 : s497 97 = (.bool (decide (x8_33 = (a0.length : Int)))) := (hd501 4 rfl)
                  have g511 : (decide (x8_33 = (a0.length : Int))) = true := (not_ff b503)
                  exact L_skip rfl rfl (ltb rfl) (d510.trans (congrArg Value.bool g511)) rfl rfl (ltb rfl) <| L_nil <| stepEnd rfl rfl (Ext.refl w498) ⟨fun h => absurd (b503.symm.trans h) (by decide), fun _ => rfl⟩
              · intro s512 w513 e514 hf515 hd516 hu517
                rcases bool_two (!(decide (x8_33 = (a0.length : Int)))) with b518 | b518
                · have g519 : (decide (x8_33 = (a0.length : Int))) = false := (not_f b518)
                  have d520 : s512 97 = (.bool (decide (x8_33 = (a0.length : Int)))) := (hd516 4 rfl)
                  have d521 : s512 97 = (.bool (decide (x8_33 = (a0.length : Int)))) := (hd516 4 rfl)
                  exact L_op (.guard 4 false 97 rfl rfl (ltb rfl) (d520.trans (congrArg Value.bool g519))) rfl (ltb rfl) (X_move (v := v_a0) ((hf515 0 rfl).trans ((K379 0 rfl).trans ((K58 0 rfl).trans ((K47 0 rfl).trans (K3 0 rfl)))))) <| L_nil <| stepEnd rfl rfl (Ext.refl w513) ⟨fun _ => rfl, fun h => absurd (b518.symm.trans h) (by decide)⟩
                · have d522 : s512 97 = (.bool (decide (x8_33 = (a0.length : Int)))) := (hd516 4 rfl)
                  have g523 : (decide (x8_33 = (a0.length : Int))) = true := (not_ff b518)
                  exact L_skip rfl rfl (ltb rfl) (d522.trans (congrArg Value.bool g523)) rfl rfl (ltb rfl) <| L_nil <| stepEnd rfl rfl (Ext.refl w513) ⟨fun h => absurd (b518.symm.trans h) (by decide), fun _ => rfl⟩
              · intro s524 w525 e526 hf527 hd528 hu529
                rcases bool_two (!(decide (x8_33 = (a0.length : Int)))) with b530 | b530
                · have g531 : (decide (x8_33 = (a0.length : Int))) = false := (not_f b530)
                  have d532 : s524 97 = (.bool (decide (x8_33 = (a0.length : Int)))) := (hd528 4 rfl)
                  have d533 : s524 97 = (.bool (decide (x8_33 = (a0.length : Int)))) := (hd528 4 rfl)
                  exact L_op (.guard 4 false 97 rfl rfl (ltb rfl) (d532.trans (congrArg Value.bool g531))) rfl (ltb rfl) (X_move (v := (.int .i64 x8_33)) ((hf527 8 rfl).trans ((K379 8 rfl).trans ((K58 8 rfl).trans h52)))) <| L_nil <| stepEnd rfl rfl (Ext.refl w525) ⟨fun _ => rfl, fun h => absurd (b530.symm.trans h) (by decide)⟩
                · have d534 : s524 97 = (.bool (decide (x8_33 = (a0.length : Int)))) := (hd528 4 rfl)
                  have g535 : (decide (x8_33 = (a0.length : Int))) = true := (not_ff b530)
                  exact L_skip rfl rfl (ltb rfl) (d534.trans (congrArg Value.bool g535)) rfl rfl (ltb rfl) <| L_nil <| stepEnd rfl rfl (Ext.refl w525) ⟨fun h => absurd (b530.symm.trans h) (by decide), fun _ => rfl⟩
              · intro s536 w537 e538 hf539 hd540 hu541
                rcases bool_two (!(decide (x8_33 = (a0.length : Int)))) with b542 | b542
                · have g543 : (decide (x8_33 = (a0.length : Int))) = false := (not_f b542)
                  have d544 : s536 97 = (.bool (decide (x8_33 = (a0.length : Int)))) := (hd540 4 rfl)
                  have d545 : s536 97 = (.bool (decide (x8_33 = (a0.length : Int)))) := (hd540 4 rfl)
                  have d546 : s536 103 = v_a0 := ((hd540 10 rfl).1 (not_mk (not_f b542)))
                  have d547 : s536 104 = (.int .i64 x8_33) := ((hd540 11 rfl).1 (not_mk (not_f b542)))
                  have c548 := imp_take b542 c400
                  exact L_idx (.guard 4 false 97 rfl rfl (ltb rfl) (d544.trans (congrArg Value.bool g543))) rfl (ltb rfl) rfl Tryd.underlying38 Tryd.sizeOf42 d546 (Rd.ext f_a0 (Ext.trans (Ext.trans (Ext.trans (Ext.trans (Ext.trans (Ext.trans e5 e17) e29) e48) e60) e376) e538)) d547 c548 <| fun p549 h550 => L_nil <| stepEnd rfl rfl (Ext.refl w537) ⟨fun _ => ⟨_, rfl, h550⟩, fun h => absurd (b542.symm.trans h) (by decide)⟩
                · have d551 : s536 97 = (.bool (decide (x8_33 = (a0.length : Int)))) := (hd540 4 rfl)
                  have g552 : (decide (x8_33 = (a0.length : Int))) = true := (not_ff b542)
                  exact L_skip rfl rfl (ltb rfl) (d551.trans (congrArg Value.bool g552)) rfl rfl (ltb rfl) <| L_nil <| stepEnd rfl rfl (Ext.refl w537) ⟨fun h => absurd (b542.symm.trans h) (by decide), fun _ => rfl⟩
              · intro s553 w554 e555 hf556 hd557 hu558
                rcases bool_two (!(decide (x8_33 = (a0.length : Int)))) with b559 | b559
                · have g560 : (decide (x8_33 = (a0.length : Int))) = false := (not_f b559)
                  have d561 : s553 97 = (.bool (decide (x8_33 = (a0.length : Int)))) := (hd557 4 rfl)
                  have d562 : s553 97 = (.bool (decide (x8_33 = (a0.length : Int)))) := (hd557 4 rfl)
                  obtain ⟨p563, h564, h565⟩ := ((hd557 12 rfl).1 (not_mk (not_f b559)))
                  exact L_op (.guard 4 false 97 rfl rfl (ltb rfl) (d561.trans (congrArg Value.bool g560))) rfl (ltb rfl) (X_fieldAddr Tryd.underlying42 rfl Tryd.sizeOf9 rfl h564) <| L_nil <| stepEnd rfl rfl (Ext.refl w554) ⟨fun _ => ⟨_, rfl, h565⟩, fun h => absurd (b559.symm.trans h) (by decide)⟩
                · have d566 : s553 97 = (.bool (decide (x8_33 = (a0.length : Int)))) := (hd557 4 rfl)
                  have g567 : (decide (x8_33 = (a0.length : Int))) = true := (not_ff b559)
                  exact L_skip rfl rfl (ltb rfl) (d566.trans (congrArg Value.bool g567)) rfl rfl (ltb rfl) <| L_nil <| stepEnd rfl rfl (Ext.refl w554) ⟨fun h => absurd (b559.symm.trans h) (by decide), fun _ => rfl⟩
              · intro s568 w569 e570 hf571 hd572 hu573
                rcases bool_two (!(decide (x8_33 = (a0.length : Int)))) with b574 | b574
                · have g575 : (decide (x8_33 = (a0.length : Int))) = false := (not_f b574)
                  have d576 : s568 97 = (.bool (decide (x8_33 = (a0.length : Int)))) := (hd572 4 rfl)
                  have d577 : s568 97 = (.bool (decide (x8_33 = (a0.length : Int)))) := (hd572 4 rfl)
                  obtain ⟨p578, h579, h580⟩ := ((hd572 13 rfl).1 (not_mk (not_f b574)))
                  exact L_op (.guard 4 false 97 rfl rfl (ltb rfl) (d576.trans (congrArg Value.bool g575))) rfl (ltb rfl) (X_loadF Tryd.isAgg9 (j := 1) h580 h579 rfl) <| L_nil <| stepEnd rfl rfl (Ext.refl w569) ⟨fun _ => rfl, fun h => absurd (b574.symm.trans h) (by decide)⟩
                · have d581 : s568 97 = (.bool (decide (x8_33 = (a0.length : Int)))) := (hd572 4 rfl)
                  have g582 : (decide (x8_33 = (a0.length : Int))) = true := (not_ff b574)
                  exact L_skip rfl rfl (ltb rfl) (d581.trans (congrArg Value.bool g582)) rfl rfl (ltb rfl) <| L_nil <| stepEnd rfl rfl (Ext.refl w569) ⟨fun h => absurd (b574.symm.trans h) (by decide), fun _ => rfl⟩
              · intro s583 w584 e585 hf586 hd587 hu588
                rcases bool_two (!(decide (x8_33 = (a0.length : Int)))) with b589 | b589
                · have g590 : (decide (x8_33 = (a0.length : Int))) = false := (not_f b589)
                  have d591 : s583 97 = (.bool (decide (x8_33 = (a0.length : Int)))) := (hd587 4 rfl)
                  have d592 : s583 97 = (.bool (decide (x8_33 = (a0.length : Int)))) := (hd587 4 rfl)
                  have d593 : s583 102 = (S ((gt a1 x9_34).path)) := ((hd587 9 rfl).1 (not_mk (not_f b589)))
                  have d594 : s583 107 = (S ((gt a0 x8_33).path)) := ((hd587 14 rfl).1 (not_mk (not_f b589)))
                  have c595 := imp_take b589 c403
                  have c596 := imp_take b589 c404
                  exact L_callP (.guard 4 false 97 rfl rfl (ltb rfl) (d591.trans (congrArg Value.bool g590))) rfl (ltb rfl) rfl Tryd.call53 (spec_l01Less.calls (w := w584) (a0 := (gt a1 x9_34).path) (a1 := (gt a0 x8_33).path) (of_decide_eq_true c595) (of_decide_eq_true c596)) (cons2 d593 (cons2 d594 rfl)) <| fun w597 e598 => L_nil <| stepEnd rfl rfl e598 ⟨fun _ => rfl, fun h => absurd (b589.symm.trans h) (by decide)⟩
                · have d599 : s583 97 = (.bool (decide (x8_33 = (a0.length : Int)))) := (hd587 4 rfl)
                  have g600 : (decide (x8_33 = (a0.length : Int))) = true := (not_ff b589)
                  exact L_skip rfl rfl (ltb rfl) (d599.trans (congrArg Value.bool g600)) rfl rfl (ltb rfl) <| L_nil <| stepEnd rfl rfl (Ext.refl w584) ⟨fun h => absurd (b589.symm.trans h) (by decide), fun _ => rfl⟩
              · intro s601 w602 e603 hf604 hd605 hu606
                rcases bool_two (decide (x8_33 = (a0.length : Int))) with b607 | b607
                · have d608 : s601 97 = (.bool (decide (x8_33 = (a0.length : Int)))) := (hd605 4 rfl)
                  exact L_op (.plain rfl) rfl (ltb rfl) (X_pick (b := true) (v := (.bool true)) (d608.trans (congrArg Value.bool b607)) rfl) <| L_nil <| stepEnd rfl rfl (Ext.refl w602) (or_t b607)
                · have d609 : s601 97 = (.bool (decide (x8_33 = (a0.length : Int)))) := (hd605 4 rfl)
                  have d610 : s601 108 = (.bool (lessL (cut 47 ((gt a1 x9_34).path)) (cut 47 ((gt a0 x8_33).path)))) := ((hd605 15 rfl).1 (not_mk b607))
                  exact L_op (.plain rfl) rfl (ltb rfl) (X_pick (b := false) (v := (.bool (lessL (cut 47 ((gt a1 x9_34).path)) (cut 47 ((gt a0 x8_33).path))))) (d609.trans (congrArg Value.bool b607)) d610) <| L_nil <| stepEnd rfl rfl (Ext.refl w602) (or_f b607)
              · intro s611 w612 e613 hf614 hd615 hu616
                have d617 : s611 109 = (.bool ((decide (x8_33 = (a0.length : Int))) || (lessL (cut 47 ((gt a1 x9_34).path)) (cut 47 ((gt a0 x8_33).path))))) := (hd615 16 rfl)
                exact L_op (.plain rfl) rfl (ltb rfl) (X_assign d617) <| L_nil <| stepEnd rfl rfl (Ext.refl w612) rfl
              intro s618 w619 e620 hf621 ha622
              have K623 := Kp.ofD (kp := [(92, 110)]) rfl hf621
              have d624 : s618 92 = (.bool ((decide (x8_33 = (a0.length : Int))) || (lessL (cut 47 ((gt a1 x9_34).path)) (cut 47 ((gt a0 x8_33).path))))) := ha622 17 rfl
              clear ha622 hf621
              refine thn_n ?_
              rcases bif_two H with ⟨q625, H⟩ | ⟨q625, H⟩
              · refine W_true (d624.trans (congrArg Value.bool q625)) <| W_seq <| W_reg <| L_op (.plain rfl) rfl (ltb rfl) (X_move (v := v32) ((K623 7 rfl).trans ((K379 7 rfl).trans ((K58 7 rfl).trans h50)))) <| L_op (.plain rfl) rfl (ltb rfl) (X_move (v := v_a1) ((K623 1 rfl).trans ((K379 1 rfl).trans ((K58 1 rfl).trans ((K47 1 rfl).trans (K3 1 rfl)))))) <| L_op (.plain rfl) rfl (ltb rfl) (X_move (v := (.int .i64 x9_34)) ((K623 9 rfl).trans ((K379 9 rfl).trans ((K58 9 rfl).trans h53)))) ?_
                obtain ⟨c626, H⟩ := bif_some H
                refine L_idx (.plain rfl) rfl (ltb rfl) rfl Tryd.underlying38 Tryd.sizeOf42 rfl (Rd.ext f_a1 (Ext.trans (Ext.trans (Ext.trans (Ext.trans (Ext.trans (Ext.trans e5 e17) e29) e48) e60) e376) e620)) rfl c626 <| fun p627 h628 => L_op (.plain rfl) rfl (ltb rfl) (X_fieldAddr Tryd.underlying42 rfl Tryd.sizeOf9 rfl rfl) <| L_op (.plain rfl) rfl (ltb rfl) (X_loadF Tryd.isAgg9 (j := 1) h628 rfl rfl) <| L_lit (.plain rfl) rfl (ltb rfl) rfl Tryd.underlying47 Tryd.sizeOf9 Tryd.zeroValue9 rfl rfl rfl (vs := [(S ((gt a1 x9_34).path))]) rfl (lit_all rfl) <| fun b629 w630 z631 z632 e633 k634 => ?_
                obtain ⟨c635, H⟩ := bif_some H
                refine L_append (enc := encS) (.plain rfl) rfl (ltb rfl) rfl El.t47 rfl rfl (Ow.ext h51 (Ext.trans (Ext.trans (Ext.trans e60 e376) e620) e633)) (Ow.rd (Ow.new (xs := [(gt a1 x9_34).path]) (sz := 1) (enc := encS) (base := w619.heap.size) k634 (Nat.le_of_eq z631) rfl (fun _ _ => by rfl) (Nat.le_of_ble_eq_true rfl))) (ones_S _) (of_decide_eq_true c635) ((Ext.trans (Ext.trans (Ext.trans (Ext.trans e48 e60) e376) e620) e633)).size <| fun v636 w637 o638 z639 g640 => L_op (.plain rfl) rfl (ltb rfl) (X_assign (v := v636) rfl) <| L_nil <| thn_n <| W_reg <| L_op (.plain rfl) rfl (ltb rfl) (X_move (v := (.int .i64 x9_34)) ((K623 9 rfl).trans ((K379 9 rfl).trans ((K58 9 rfl).trans h53)))) <| L_op (.plain rfl) rfl (ltb rfl) (X_add rfl rfl) <| L_op (.plain rfl) rfl (ltb rfl) (X_assign (v := (.int .i64 (IntKind.wrap .i64 (x9_34 + 1)))) rfl) <| L_nil <| blk_n <| blk_n <| thn_n ?_
                obtain rfl := Option.some.inj H
                exact ⟨_, Nat.lt_succ_self _, x7_31 ++ ([(gt a1 x9_34).path] : List (List UInt8)), v636, x8_33, IntKind.wrap .i64 (x9_34 + 1), (Kp.upd (Kp.upd (Kp.upd (Kp.upd (Kp.upd (Kp.upd (Kp.upd (Kp.upd (Kp.upd (Kp.upd (Kp.upd (Kp.upd (Kp.cut (Kp.cut (Kp.cut (Kp.upd (Kp.upd (Kp.upd (Kp.upd (Kp.upd K47 rfl) rfl) rfl) rfl) rfl) K58 rfl) K379 rfl) K623 rfl) rfl) rfl) rfl) rfl) rfl) rfl) rfl) rfl) rfl) rfl) rfl) rfl), rfl, o638, ((K623 8 rfl).trans ((K379 8 rfl).trans ((K58 8 rfl).trans h52))), rfl, (g640 _ (Ext.trans (Ext.trans (Ext.trans (Ext.trans e48 e60) e376) e620) e633)), S55⟩
              · refine W_false (d624.trans (congrArg Value.bool q625)) <| W_seq <| W_seq ?_
                obtain ⟨c641, H⟩ := bif_some H
                obtain ⟨c644, H⟩ := bif_some H
                refine W_drawM [LEq v_a0, LEq (.int .i64 x8_33), LAt0 (encNd (gt a0 x8_33)), LEq (.agg (encNd (gt a0 x8_33)).toArray), LEq v_a1, LEq (.int .i64 x9_34), LAt0 (encNd (gt a1 x9_34)), LEq (.agg (encNd (gt a1 x9_34)).toArray), LEq (.bool (!decide ((gt a0 x8_33) = (gt a1 x9_34))))] (by kernel_rfl) (by kernel_rfl) ⟨LEq.mono, LEq.mono, LAt0.mono, LEq.mono, LEq.mono, LEq.mono, LAt0.mono, LEq.mono, LEq.mono, trivial⟩ ⟨?_, ?_, ?_, ?_, ?_, ?_, ?_, ?_, ?_, trivial⟩ ?_
                · intro s647 w648 e649 hf650 hd651 hu652
                  exact L_op (.plain rfl) rfl (ltb rfl) (X_move (v := v_a0) ((hf650 0 rfl).trans ((K623 0 rfl).trans ((K379 0 rfl).trans ((K58 0 rfl).trans ((K47 0 rfl).trans (K3 0 rfl))))))) <| L_nil <| stepEnd rfl rfl (Ext.refl w648) rfl
                · intro s653 w654 e655 hf656 hd657 hu658
                  exact L_op (.plain rfl) rfl (ltb rfl) (X_move (v := (.int .i64 x8_33)) ((hf656 8 rfl).trans ((K623 8 rfl).trans ((K379 8 rfl).trans ((K58 8 rfl).trans h52))))) <| L_nil <| stepEnd rfl rfl (Ext.refl w654) rfl
                · intro s659 w660 e661 hf662 hd663 hu664
                  have d665 : s659 37 = v_a0 := (hd663 0 rfl)
                  have d666 : s659 38 = (.int .i64 x8_33) := (hd663 1 rfl)
                  have c667 := c641
                  exact L_idx (.plain rfl) rfl (ltb rfl) rfl Tryd.underlying38 Tryd.sizeOf42 d665 (Rd.ext f_a0 (Ext.trans (Ext.trans (Ext.trans (Ext.trans (Ext.trans (Ext.trans (Ext.trans e5 e17) e29) e48) e60) e376) e620) e661)) d666 c667 <| fun p668 h669 => L_nil <| stepEnd rfl rfl (Ext.refl w660) ⟨_, rfl, h669⟩
                · intro s670 w671 e672 hf673 hd674 hu675
                  obtain ⟨p676, h677, h678⟩ := (hd674 2 rfl)
                  exact L_op (.plain rfl) rfl (ltb rfl) (X_loadS Tryd.isAgg42 Tryd.sizeOf42 rfl h677 h678) <| L_nil <| stepEnd rfl rfl (Ext.refl w671) rfl
                · intro s679 w680 e681 hf682 hd683 hu684
                  exact L_op (.plain rfl) rfl (ltb rfl) (X_move (v := v_a1) ((hf682 1 rfl).trans ((K623 1 rfl).trans ((K379 1 rfl).trans ((K58 1 rfl).trans ((K47 1 rfl).trans (K3 1 rfl))))))) <| L_nil <| stepEnd rfl rfl (Ext.refl w680) rfl
                · intro s685 w686 e687 hf688 hd689 hu690
                  exact L_op (.plain rfl) rfl (ltb rfl) (X_move (v := (.int .i64 x9_34)) ((hf688 9 rfl).trans ((K623 9 rfl).trans ((K379 9 rfl).trans ((K58 9 rfl).trans h53))))) <| L_nil <| stepEnd rfl rfl (Ext.refl w686) rfl
                · intro s691 w692 e693 hf694 hd695 hu696
                  have d697 : s691 41 = v_a1 := (hd695 4 rfl)
                  have d698 : s691 42 = (.int .i64 x9_34) := (hd695 5 rfl)
                  have c699 := c644
                  exact L_idx (.plain rfl) rfl (ltb rfl) rfl Tryd.underlying38 Tryd.sizeOf42 d697 (Rd.ext f_a1 (Ext.trans (Ext.trans (Ext.trans (Ext.trans (Ext.trans (Ext.trans (Ext.trans e5 e17) e29) e48) e60) e376) e620) e693)) d698 c699 <| fun p700 h701 => L_nil <| stepEnd rfl rfl (Ext.refl w692) ⟨_, rfl, h701⟩
                · intro s702 w703 e704 hf705 hd706 hu707
                  obtain ⟨p708, h709, h710⟩ := (hd706 6 rfl)
                  exact L_op (.plain rfl) rfl (ltb rfl) (X_loadS Tryd.isAgg42 Tryd.sizeOf42 rfl h709 h710) <| L_nil <| stepEnd rfl rfl (Ext.refl w703) rfl
                · intro s711 w712 e713 hf714 hd715 hu716
                  have d717 : s711 40 = (.agg (encNd (gt a0 x8_33)).toArray) := (hd715 3 rfl)
                  have d718 : s711 44 = (.agg (encNd (gt a1 x9_34)).toArray) := (hd715 7 rfl)
                  exact L_op (.plain rfl) rfl (ltb rfl) (X_neA Eqg.t42 (Eqs.t42 (gt a0 x8_33) (gt a1 x9_34)) d717 d718) <| L_nil <| stepEnd rfl rfl (Ext.refl w712) rfl
                intro s719 w720 e721 hf722 ha723
                have K724 := Kp.ofD (kp := [(37, 46)]) rfl hf722
                have d725 : s719 45 = (.bool (!decide ((gt a0 x8_33) = (gt a1 x9_34)))) := ha723 8 rfl
                clear ha723 hf722
                refine thn_n ?_
                rcases bif_two H with ⟨q726, H⟩ | ⟨q726, H⟩
                · refine W_true (d725.trans (congrArg Value.bool q726)) <| W_reg <| L_op (.plain rfl) rfl (ltb rfl) (X_move (v := v32) ((K724 7 rfl).trans ((K623 7 rfl).trans ((K379 7 rfl).trans ((K58 7 rfl).trans h50))))) <| L_op (.plain rfl) rfl (ltb rfl) (X_move (v := v_a0) ((K724 0 rfl).trans ((K623 0 rfl).trans ((K379 0 rfl).trans ((K58 0 rfl).trans ((K47 0 rfl).trans (K3 0 rfl))))))) <| L_op (.plain rfl) rfl (ltb rfl) (X_move (v := (.int .i64 x8_33)) ((K724 8 rfl).trans ((K623 8 rfl).trans ((K379 8 rfl).trans ((K58 8 rfl).trans h52))))) ?_
                  obtain ⟨c727, H⟩ := bif_some H
                  refine L_idx (.plain rfl) rfl (ltb rfl) rfl Tryd.underlying38 Tryd.sizeOf42 rfl (Rd.ext f_a0 (Ext.trans (Ext.trans (Ext.trans (Ext.trans (Ext.trans (Ext.trans (Ext.trans e5 e17) e29) e48) e60) e376) e620) e721)) rfl c727 <| fun p728 h729 => L_op (.plain rfl) rfl (ltb rfl) (X_fieldAddr Tryd.underlying42 rfl Tryd.sizeOf9 rfl rfl) <| L_op (.plain rfl) rfl (ltb rfl) (X_loadF Tryd.isAgg9 (j := 1) h729 rfl rfl) <| L_lit (.plain rfl) rfl (ltb rfl) rfl Tryd.underlying47 Tryd.sizeOf9 Tryd.zeroValue9 rfl rfl rfl (vs := [(S ((gt a0 x8_33).path))]) rfl (lit_all rfl) <| fun b730 w731 z732 z733 e734 k735 => ?_
                  obtain ⟨c736, H⟩ := bif_some H
                  refine L_append (enc := encS) (.plain rfl) rfl (ltb rfl) rfl El.t47 rfl rfl (Ow.ext h51 (Ext.trans (Ext.trans (Ext.trans (Ext.trans e60 e376) e620) e721) e734)) (Ow.rd (Ow.new (xs := [(gt a0 x8_33).path]) (sz := 1) (enc := encS) (base := w720.heap.size) k735 (Nat.le_of_eq z732) rfl (fun _ _ => by rfl) (Nat.le_of_ble_eq_true rfl))) (ones_S _) (of_decide_eq_true c736) ((Ext.trans (Ext.trans (Ext.trans (Ext.trans (Ext.trans e48 e60) e376) e620) e721) e734)).size <| fun v737 w738 o739 z740 g741 => L_op (.plain rfl) rfl (ltb rfl) (X_assign (v := v737) rfl) <| L_nil <| thn_n <| W_seq <| W_reg <| L_op (.plain rfl) rfl (ltb rfl) (X_move (v := (.int .i64 x8_33)) ((K724 8 rfl).trans ((K623 8 rfl).trans ((K379 8 rfl).trans ((K58 8 rfl).trans h52))))) <| L_op (.plain rfl) rfl (ltb rfl) (X_add rfl rfl) <| L_op (.plain rfl) rfl (ltb rfl) (X_assign (v := (.int .i64 (IntKind.wrap .i64 (x8_33 + 1)))) rfl) <| L_nil <| thn_n <| W_reg <| L_op (.plain rfl) rfl (ltb rfl) (X_move (v := (.int .i64 x9_34)) ((K724 9 rfl).trans ((K623 9 rfl).trans ((K379 9 rfl).trans ((K58 9 rfl).trans h53))))) <| L_op (.plain rfl) rfl (ltb rfl) (X_add rfl rfl) <| L_op (.plain rfl) rfl (ltb rfl) (X_assign (v := (.int .i64 (IntKind.wrap .i64 (x9_34 + 1)))) rfl) <| L_nil <| blk_n <| blk_n <| thn_n ?_
                  obtain rfl := Option.some.inj H
                  exact ⟨_, Nat.lt_succ_self _, x7_31 ++ ([(gt a0 x8_33).path] : List (List UInt8)), v737, IntKind.wrap .i64 (x8_33 + 1), IntKind.wrap .i64 (x9_34 + 1), (Kp.upd (Kp.upd (Kp.upd (Kp.upd (Kp.upd (Kp.upd (Kp.upd (Kp.upd (Kp.upd (Kp.upd (Kp.upd (Kp.upd (Kp.upd (Kp.upd (Kp.upd (Kp.cut (Kp.cut (Kp.cut (Kp.cut (Kp.upd (Kp.upd (Kp.upd (Kp.upd (Kp.upd K47 rfl) rfl) rfl) rfl) rfl) K58 rfl) K379 rfl) K623 rfl) K724 rfl) rfl) rfl) rfl) rfl) rfl) rfl) rfl) rfl) rfl) rfl) rfl) rfl) rfl) rfl) rfl), rfl, o739, rfl, rfl, (g741 _ (Ext.trans (Ext.trans (Ext.trans (Ext.trans (Ext.trans e48 e60) e376) e620) e721) e734)), S55⟩
                · refine W_false (d725.trans (congrArg Value.bool q726)) <| W_skip <| thn_n <| W_seq <| W_reg <| L_op (.plain rfl) rfl (ltb rfl) (X_move (v := (.int .i64 x8_33)) ((K724 8 rfl).trans ((K623 8 rfl).trans ((K379 8 rfl).trans ((K58 8 rfl).trans h52))))) <| L_op (.plain rfl) rfl (ltb rfl) (X_add rfl rfl) <| L_op (.plain rfl) rfl (ltb rfl) (X_assign (v := (.int .i64 (IntKind.wrap .i64 (x8_33 + 1)))) rfl) <| L_nil <| thn_n <| W_reg <| L_op (.plain rfl) rfl (ltb rfl) (X_move (v := (.int .i64 x9_34)) ((K724 9 rfl).trans ((K623 9 rfl).trans ((K379 9 rfl).trans ((K58 9 rfl).trans h53))))) <| L_op (.plain rfl) rfl (ltb rfl) (X_add rfl rfl) <| L_op (.plain rfl) rfl (ltb rfl) (X_assign (v := (.int .i64 (IntKind.wrap .i64 (x9_34 + 1)))) rfl) <| L_nil <| blk_n <| blk_n <| thn_n ?_
                  obtain rfl := Option.some.inj H
                  exact ⟨_, Nat.lt_succ_self _, x7_31, v32, IntKind.wrap .i64 (x8_33 + 1), IntKind.wrap .i64 (x9_34 + 1), (Kp.upd (Kp.upd (Kp.upd (Kp.upd (Kp.upd (Kp.upd (Kp.cut (Kp.cut (Kp.cut (Kp.cut (Kp.upd (Kp.upd (Kp.upd (Kp.upd (Kp.upd K47 rfl) rfl) rfl) rfl) rfl) K58 rfl) K379 rfl) K623 rfl) K724 rfl) rfl) rfl) rfl) rfl) rfl) rfl), ((K724 7 rfl).trans ((K623 7 rfl).trans ((K379 7 rfl).trans ((K58 7 rfl).trans h50)))), (Ow.ext h51 (Ext.trans (Ext.trans (Ext.trans e60 e376) e620) e721)), rfl, rfl, (Ext.trans (Ext.trans (Ext.trans (Ext.trans e48 e60) e376) e620) e721), S55⟩
          · refine W_false (h59.trans (congrArg Value.bool q62)) <| W_exit <| thn_x <| thn_x <| blk_x <| thn_n ?_
            obtain rfl := Option.some.inj H
            obtain rfl := Option.some.inj S55
            exact ⟨x7_31, v32, (Kp.cut (Kp.upd (Kp.upd (Kp.upd (Kp.upd (Kp.upd K47 rfl) rfl) rfl) rfl) rfl) K58 rfl), ((K58 7 rfl).trans h50), (Ow.ext h51 e60), (Ext.trans e48 e60), rfl⟩
      · rintro s41 w40 ⟨x7_38, v39, K42, h742, h743, e43, y744⟩
        rw [y744] at C37
        have H := C37
        replace H : _ = some _ := H
        refine thn_n <| W_seq <| W_reg <| L_op (.plain rfl) rfl (ltb rfl) (X_move (v := v39) h742) <| L_op (.plain rfl) rfl (ltb rfl) (X_assign (v := v39) rfl) <| L_op (.plain rfl) rfl (ltb rfl) (X_assign (v := (.int .i64 0)) rfl) <| L_nil <| thn_n <| W_ret <| fin_r ?_
        obtain rfl := Option.some.inj H
        exact fin2o rfl rfl (Ext.trans (Ext.trans (Ext.trans e5 e17) e29) e43) h743 ((Ext.trans (Ext.trans e5 e17) e29)).size
theorem spec_Touched.calls {w : World} {a0 : List Nd} {a1 : List Nd} {v_a0 : Value} (f_a0 : Rd 4 encNd w v_a0 a0) {v_a1 : Value} (f_a1 : Rd 4 encNd w v_a1 a1) (h0 : a0.length ≤ 1048576) (h1 : a1.length ≤ 1048576) (h2 : ∀ x ∈ a0, x.path.length ≤ 1048576) (h3 : ∀ x ∈ a1, x.path.length ≤ 1048576) :
    Calls Tryd.prog 21 #[v_a0, v_a1] w (Rt (RT 9 1 encS w ((touchedOf a0 a1).1) (.int .i64 ((touchedOf a0 a1).2)))) := by
  obtain ⟨k, h⟩ := spec_Touched.eq a0 a1 h0 h1 h2 h3
  exact spec_Touched.walk f_a0 f_a1 h
/-! impl.treesCode -/
theorem impl_treesCode.walk {w : World} {a0 : List Nd} {a1 : List Nd} (gv : GV 0 w) {v_a0 : Value} (f_a0 : Rd 4 encNd w v_a0 a0) {v_a1 : Value} (f_a1 : Rd 4 encNd w v_a1 a1) {r : Int} (H : impl_treesCode.sh a0 a1 = some r) :
    Calls Tryd.prog 54 #[v_a0, v_a1] w (Rt (RP w (.int .i64 r))) := by
  unfold impl_treesCode.sh at H
  refine calls_of_W Tryd.func54 rfl (Nat.le_of_ble_eq_true rfl) Tryd.ntmps54 rfl ?_
  refine W_seq <| W_reg <| L_op (.plain rfl) rfl (ltb rfl) (X_assign (v := (.int .i64 0)) rfl) <| L_nil <| thn_n <| W_seq <| W_reg <| L_op (.plain rfl) rfl (ltb rfl) (X_move (v := v_a0) rfl) <| L_callP (.plain rfl) rfl (ltb rfl) rfl Tryd.call42 (impl_isLongListN.calls (w := w) (a0 := a0) f_a0) rfl <| fun w1 e2 => L_op (.plain rfl) rfl (ltb rfl) (X_move (v := (.bool (decide (4096 < a0.length)))) rfl) <| L_grp 3 [(8, 11)] 10 (.bool ((decide (4096 < a0.length)) || (decide (4096 < a1.length)))) ?_ ?_
  · rcases bool_two (decide (4096 < a0.length)) with b2_ | b2_
    · exact L_skip rfl rfl (ltb rfl) (congrArg Value.bool b2_) rfl rfl (ltb rfl) <| L_skip rfl rfl (ltb rfl) (congrArg Value.bool b2_) rfl rfl (ltb rfl) <| L_op (.plain rfl) rfl (ltb rfl) (X_pick (b := true) (v := (.bool true)) (congrArg Value.bool b2_) rfl) <| L_nil <| thn_n ⟨(Kp.upd (Kp.upd (Kp.upd (Kp.refl _ _) rfl) rfl) rfl), (or_t b2_), (Ext.refl w1)⟩
    · exact L_op (.guard 2 false 7 rfl rfl (ltb rfl) (congrArg Value.bool b2_)) rfl (ltb rfl) (X_move (v := v_a1) rfl) <| L_callP (.guard 2 false 7 rfl rfl (ltb rfl) (congrArg Value.bool b2_)) rfl (ltb rfl) rfl Tryd.call42 (impl_isLongListN.calls (w := w1) (a0 := a1) (Rd.ext f_a1 e2)) rfl <| fun w4 e5 => L_op (.plain rfl) rfl (ltb rfl) (X_pick (b := false) (v := (.bool (decide (4096 < a1.length)))) (congrArg Value.bool b2_) rfl) <| L_nil <| thn_n ⟨(Kp.upd (Kp.upd (Kp.upd (Kp.refl _ _) rfl) rfl) rfl), (or_f b2_), e5⟩
  intro s8 w4 K5 h6 e7
  refine L_op (.plain rfl) rfl (ltb rfl) (X_mkiface Tryd.underlying4 rfl h6) <| L_op (.plain rfl) rfl (ltb rfl) (X_mkiface Tryd.underlying3 rfl rfl) <| L_op (.plain rfl) rfl (ltb rfl) (X_move (v := v_a0) (K5 0 rfl)) ?_
  obtain ⟨c9, H⟩ := bif_some H
  obtain ⟨c10, H⟩ := bif_some H
  refine L_callP (.plain rfl) rfl (ltb rfl) rfl Tryd.call43 (impl_TreeOK.calls (w := w4) (a0 := a0) (GV.ext gv (Ext.trans e2 e7)) (Rd.ext f_a0 (Ext.trans e2 e7)) (of_decide_eq_true c9) (of_decide_eq_true c10)) rfl <| fun w11 e12 => L_op (.plain rfl) rfl (ltb rfl) (X_not rfl) <| L_op (.plain rfl) rfl (ltb rfl) (X_move (v := (.bool (!(treeOK a0)))) rfl) ?_
  obtain ⟨z14, x15, H⟩ := bind_some H
  refine L_grpE 4 [(17, 21)] 20 (fun q => q = z14) ?_ ?_
  · rcases bif_two x15 with ⟨b12_, H⟩ | ⟨b12_, H⟩
    · refine L_skip rfl rfl (ltb rfl) (congrArg Value.bool b12_) rfl rfl (ltb rfl) <| L_skip rfl rfl (ltb rfl) (congrArg Value.bool b12_) rfl rfl (ltb rfl) <| L_skip rfl rfl (ltb rfl) (congrArg Value.bool b12_) rfl rfl (ltb rfl) <| L_op (.plain rfl) rfl (ltb rfl) (X_pick (b := true) (v := (.bool true)) (congrArg Value.bool b12_) rfl) ?_
      obtain rfl := Option.some.inj H
      exact L_nil <| thn_n ⟨(Kp.upd (Kp.upd (Kp.upd (Kp.upd (Kp.refl _ _) rfl) rfl) rfl) rfl), ⟨_, rfl, rfl⟩, (Ext.refl w11)⟩
    · refine L_op (.guard 11 false 16 rfl rfl (ltb rfl) (congrArg Value.bool b12_)) rfl (ltb rfl) (X_move (v := v_a1) (K5 1 rfl)) ?_
      obtain ⟨c14, H⟩ := bif_some H
      obtain ⟨c15, H⟩ := bif_some H
      refine L_callP (.guard 11 false 16 rfl rfl (ltb rfl) (congrArg Value.bool b12_)) rfl (ltb rfl) rfl Tryd.call43 (impl_TreeOK.calls (w := w11) (a0 := a1) (GV.ext gv (Ext.trans (Ext.trans e2 e7) e12)) (Rd.ext f_a1 (Ext.trans (Ext.trans e2 e7) e12)) (of_decide_eq_true c14) (of_decide_eq_true c15)) rfl <| fun w16 e17 => L_op (.guard 11 false 16 rfl rfl (ltb rfl) (congrArg Value.bool b12_)) rfl (ltb rfl) (X_not rfl) <| L_op (.plain rfl) rfl (ltb rfl) (X_pick (b := false) (v := (.bool (!(treeOK a1)))) (congrArg Value.bool b12_) rfl) ?_
      obtain rfl := Option.some.inj H
      exact L_nil <| thn_n ⟨(Kp.upd (Kp.upd (Kp.upd (Kp.upd (Kp.refl _ _) rfl) rfl) rfl) rfl), ⟨_, rfl, rfl⟩, e17⟩
  intro s20 w16 z21 K17 hq h18 e19
  rw [hq] at h18; clear hq
  refine L_op (.plain rfl) rfl (ltb rfl) (X_mkiface Tryd.underlying4 rfl h18) <| L_op (.plain rfl) rfl (ltb rfl) (X_mkiface Tryd.underlying3 rfl rfl) <| L_lit (.plain rfl) rfl (ltb rfl) rfl Tryd.underlying94 Tryd.sizeOf20 Tryd.zeroValue20 rfl rfl rfl (vs := [(.iface 4 (.bool ((decide (4096 < a0.length)) || (decide (4096 < a1.length))))), (.iface 3 (.int .i64 2)), (.iface 4 (.bool z14)), (.iface 3 (.int .i64 1))]) (cons2 (K17 11 rfl) (cons2 (K17 12 rfl) (cons2 rfl (cons2 rfl rfl)))) (lit_all rfl) <| fun b22 w23 z24 z25 e26 k27 => ?_
  obtain ⟨c28, H⟩ := bif_some H
  obtain ⟨z31, x32, H⟩ := bind_some H
  replace x32 := Option.some.inj x32
  refine L_callP (.plain rfl) rfl (ltb rfl) rfl Tryd.call41 (impl_first.calls (w := w23) (a0 := ([.inl ((decide (4096 < a0.length)) || (decide (4096 < a1.length))), .inr 2, .inl z14, .inr 1] : List (Bool ⊕ Int))) (Ow.rd (Ow.new (xs := [.inl ((decide (4096 < a0.length)) || (decide (4096 < a1.length))), .inr 2, .inl z14, .inr 1]) (sz := 1) (enc := (encAny 4 3)) (base := w16.heap.size) k27 (Nat.le_of_eq z24) rfl (fun _ _ => by first | rfl | exact encAny_len _ _ _) (Nat.le_of_ble_eq_true rfl))) (of_decide_eq_true c28)) rfl <| fun w29 e30 => L_op (.plain rfl) rfl (ltb rfl) (X_assign (v := (.int .i64 z31)) (congrArg (Value.int .i64) x32)) <| L_nil <| thn_n <| W_ret <| fin_r ?_
  obtain rfl := Option.some.inj H
  exact fin1 rfl (Ext.trans (Ext.trans (Ext.trans (Ext.trans (Ext.trans e2 e7) e12) e19) e26) e30)
theorem impl_treesCode.calls {w : World} {a0 : List Nd} {a1 : List Nd} (gv : GV 0 w) {v_a0 : Value} (f_a0 : Rd 4 encNd w v_a0 a0) {v_a1 : Value} (f_a1 : Rd 4 encNd w v_a1 a1) (h0 : a0.length ≤ 1048576) (h1 : a1.length ≤ 1048576) (h2 : ∀ x ∈ a0, x.path.length ≤ 1048576) (h3 : ∀ x ∈ a1, x.path.length ≤ 1048576) :
    Calls Tryd.prog 54 #[v_a0, v_a1] w (Rt (RP w (.int .i64 (treesCode a0 a1)))) := impl_treesCode.walk gv f_a0 f_a1 (impl_treesCode.eq a0 a1 h0 h1 h2 h3)
/-! impl.nodeAt -/
theorem impl_nodeAt.walk {w : World} {a0 : List Nd} {a1 : List UInt8} {v_a0 : Value} (f_a0 : Rd 4 encNd w v_a0 a0) {r : Nd} (H : impl_nodeAt.sh a0 a1 = some r) :
    Calls Tryd.prog 85 #[v_a0, S a1] w (Rt (RP w (.agg (encNd r).toArray))) := by
  unfold impl_nodeAt.sh at H
  refine calls_of_WG Tryd.func85 rfl (Nat.le_of_ble_eq_true rfl) Tryd.ntmps85 ?_
  refine W_seq <| W_reg <| L_alloc (.plain rfl) rfl (ltb rfl) rfl Tryd.zeroValue42 <| fun b1 w2 z3 z4 e5 k6 => L_nil <| thn_n <| W_seq <| W_seq <| W_reg <| L_op (.plain rfl) rfl (ltb rfl) (X_move (v := v_a0) rfl) <| L_op (.plain rfl) rfl (ltb rfl) (X_move (v := (S a1)) rfl) ?_
  obtain ⟨c7, H⟩ := bif_some H
  refine L_callP (.plain rfl) rfl (ltb rfl) rfl Tryd.call77 (impl_at.calls (w := w2) (a0 := a0) (a1 := a1) (Rd.ext f_a0 e5) (of_decide_eq_true c7)) rfl <| fun w8 e9 => L_op (.plain rfl) rfl (ltb rfl) (X_assign (v := (.int .i64 (findN a0 a1))) rfl) <| L_nil <| thn_n <| W_seq <| W_reg <| L_op (.plain rfl) rfl (ltb rfl) (X_move (v := (.int .i64 (findN a0 a1))) rfl) <| L_op (.plain rfl) rfl (ltb rfl) (X_geq rfl rfl) <| L_nil <| thn_n ?_
  rcases bif_two H with ⟨q10, H⟩ | ⟨q10, H⟩
  · refine W_true (congrArg Value.bool q10) <| W_seq <| W_reg <| L_op (.plain rfl) rfl (ltb rfl) (X_move (v := v_a0) rfl) <| L_op (.plain rfl) rfl (ltb rfl) (X_move (v := (.int .i64 (findN a0 a1))) rfl) ?_
    obtain ⟨c11, H⟩ := bif_some H
    refine L_idx (.plain rfl) rfl (ltb rfl) rfl Tryd.underlying38 Tryd.sizeOf42 rfl (Rd.ext f_a0 (Ext.trans e5 e9)) rfl c11 <| fun p12 h13 => L_op (.plain rfl) rfl (ltb rfl) (X_loadS Tryd.isAgg42 Tryd.sizeOf42 rfl rfl h13) <| L_storeA (.plain rfl) rfl rfl Tryd.sizeOf42 rfl rfl rfl rfl rfl (Blk.ext k6 e9) <| fun w14 h15 k16 => L_nil <| thn_n <| W_ret <| thn_r <| finG_r ?_
    obtain rfl := Option.some.inj H
    exact finC1 rfl rfl k16 Tryd.isAgg42 Tryd.sizeOf42 rfl (Below.trans (Ext.trans e5 e9) (Wr.below h15 (Nat.le_of_eq z3)))
  · refine W_false (congrArg Value.bool q10) <| W_skip <| thn_n <| W_seq <| W_reg <| L_op (.plain rfl) rfl (ltb rfl) (X_build1 (vs := []) (pl := #[(0, 1), (1, 1), (2, 1), (3, 1)]) Tryd.underlying42 Tryd.zeroValue42 rfl (fun _ => by kernel_rfl) rfl rfl rfl) <| L_storeA (.plain rfl) rfl rfl Tryd.sizeOf42 rfl rfl rfl rfl rfl (Blk.ext k6 e9) <| fun w17 h18 k19 => L_nil <| thn_n <| W_ret <| finG_r ?_
    obtain rfl := Option.some.inj H
    exact finC1 rfl rfl k19 Tryd.isAgg42 Tryd.sizeOf42 rfl (Below.trans (Ext.trans e5 e9) (Wr.below h18 (Nat.le_of_eq z3)))
theorem impl_nodeAt.calls {w : World} {a0 : List Nd} {a1 : List UInt8} {v_a0 : Value} (f_a0 : Rd 4 encNd w v_a0 a0) (h0 : a0.length ≤ 1048576) :
    Calls Tryd.prog 85 #[v_a0, S a1] w (Rt (RP w (.agg (encNd (nodeAt a0 a1)).toArray))) := impl_nodeAt.walk f_a0 (impl_nodeAt.eq a0 a1 h0)
/-! impl.paths -/
theorem impl_paths.walk {k : Nat} {w : World} {a0 : List (List Rec)} (gv : GV 0 w) {v_a0 : Value} (f_a0 : Rd2 5 encRec w v_a0 a0) {r : List (List UInt8)} (H : impl_paths.sh k a0 = some r) :
    Calls Tryd.prog 83 #[v_a0] w (Rt (RO 9 1 encS w r)) := by
  unfold impl_paths.sh at H
  refine calls_of_W Tryd.func83 rfl (Nat.le_of_ble_eq_true rfl) Tryd.ntmps83 rfl ?_
  refine W_seq <| W_reg <| L_op (.plain rfl) rfl (ltb rfl) (X_assign (v := (.slice none 0 0)) rfl) <| L_nil <| thn_n <| W_seq <| W_reg <| L_lit (.plain rfl) rfl (ltb rfl) rfl Tryd.underlying47 Tryd.sizeOf9 Tryd.zeroValue9 rfl rfl rfl (vs := []) rfl (lit_all rfl) <| fun b1 w2 z3 z4 e5 k6 => L_op (.plain rfl) rfl (ltb rfl) (X_assign (v := (.slice (some ⟨b1, 0, none⟩) 0 0)) rfl) <| L_nil <| thn_n <| W_seq <| W_seq <| W_reg <| L_op (.plain rfl) rfl (ltb rfl) (X_move (v := v_a0) rfl) <| L_op (.plain rfl) rfl (ltb rfl) (X_lenR2 Tryd.underlying28 rfl (Rd2.ext f_a0 e5)) <| L_op (.plain rfl) rfl (ltb rfl) (X_move (v := (.int .i64 0)) rfl) <| L_nil <| thn_n ?_
  obtain ⟨z10, L11, C12⟩ := bind_some H
  clear H
  refine  W_cutQ (fun s0 sQ wQ => ∃ (x3_13 : List (List UInt8)) (v14 : Value), Kp [(3, 4), (5, 6), (7, 8), (11, 28)] s0 sQ ∧ sQ 3 = v14 ∧ Ow 9 1 encS w2.heap.size wQ v14 x3_13 ∧ Ext w2 wQ ∧ z10 = .inr x3_13) ?_ ?_
  · refine W_block <| W_loopI (fun s0 kk sQ wQ => ∃ (x3_7 : List (List UInt8)) (v8 : Value) (x11_9 : Int), Kp [(3, 4), (5, 6), (7, 8), (11, 28)] s0 sQ ∧ sQ 3 = v8 ∧ Ow 9 1 encS w2.heap.size wQ v8 x3_7 ∧ sQ 11 = .int .i64 x11_9 ∧ Ext w2 wQ ∧ loopF (impl_paths.b1 k a0) kk (x3_7, x11_9) = some z10) k ⟨([] : List (List UInt8)), (.slice (some ⟨b1, 0, none⟩) 0 0), 0, (Kp.refl _ _), rfl, (Ow.zero), rfl, (Ext.refl w2), L11⟩ ?_
    rintro k19 s20 w21 ⟨x3_7, v8, x11_9, K22, h25, h26, h27, e23, L24⟩
    cases k19 with
    | zero => exact absurd L24 (by simp [loopF])
    | succ k19 =>
      obtain ⟨t28, H, S29⟩ := loopF_succ L24
      clear L24
      unfold impl_paths.b1 at H
      refine W_seq <| W_reg <| L_op (.plain rfl) rfl (ltb rfl) (X_lss h27 (K22 10 rfl)) <| L_nil <| thn_n <| W_seq ?_
      rcases bif_two H with ⟨q30, H⟩ | ⟨q30, H⟩
      · refine W_true (congrArg Value.bool q30) <| W_skip <| thn_n <| W_seq <| W_block <| W_seq <| W_reg ?_
        obtain ⟨c31, H⟩ := bif_some H
        refine L_idx2o (.plain rfl) rfl (ltb rfl) rfl Tryd.underlying28 Tryd.sizeOf59 (K22 9 rfl) f_a0 (Ext.trans e5 e23) h27 c31 <| fun p32 v34 h33 h35 => L_op (.plain rfl) rfl (ltb rfl) (X_loadAt Tryd.isAgg59 rfl h33 rfl) <| L_op (.plain rfl) rfl (ltb rfl) (X_assign (v := v34) rfl) <| L_nil <| thn_n <| W_seq <| W_reg <| L_op (.plain rfl) rfl (ltb rfl) (X_move (v := v34) rfl) <| L_op (.plain rfl) rfl (ltb rfl) (X_lenR Tryd.underlying59 rfl (Rd.ext h35 (Ext.trans e5 e23))) <| L_op (.plain rfl) rfl (ltb rfl) (X_move (v := (.int .i64 0)) rfl) <| L_nil <| thn_n ?_
        obtain ⟨z39, L40, C41⟩ := bind_some H
        clear H
        refine  W_cutQ (fun s0 sQ wQ => ∃ (x3_42 : List (List UInt8)) (v43 : Value), Kp [(3, 4), (7, 8), (17, 27)] s0 sQ ∧ sQ 3 = v43 ∧ Ow 9 1 encS w2.heap.size wQ v43 x3_42 ∧ Ext w2 wQ ∧ z39 = .inr x3_42) ?_ ?_
        · refine W_block <| W_loopI (fun s0 kk sQ wQ => ∃ (x3_36 : List (List UInt8)) (v37 : Value) (x17_38 : Int), Kp [(3, 4), (7, 8), (17, 27)] s0 sQ ∧ sQ 3 = v37 ∧ Ow 9 1 encS w2.heap.size wQ v37 x3_36 ∧ sQ 17 = .int .i64 x17_38 ∧ Ext w2 wQ ∧ loopF (impl_paths.b2 a0 x11_9) kk (x3_36, x17_38) = some z39) k ⟨x3_7, v8, 0, (Kp.refl _ _), h25, h26, rfl, e23, L40⟩ ?_
          rintro k48 s49 w50 ⟨x3_36, v37, x17_38, K51, h54, h55, h56, e52, L53⟩
          cases k48 with
          | zero => exact absurd L53 (by simp [loopF])
          | succ k48 =>
            obtain ⟨t57, H, S58⟩ := loopF_succ L53
            clear L53
            unfold impl_paths.b2 at H
            refine W_seq <| W_reg <| L_op (.plain rfl) rfl (ltb rfl) (X_lss h56 (K51 16 rfl)) <| L_nil <| thn_n <| W_seq ?_
            rcases bif_two H with ⟨q59, H⟩ | ⟨q59, H⟩
            · refine W_true (congrArg Value.bool q59) <| W_skip <| thn_n <| W_seq <| W_block <| W_seq <| W_reg ?_
              obtain ⟨c60, H⟩ := bif_some H
              refine L_idx (.plain rfl) rfl (ltb rfl) rfl Tryd.underlying59 Tryd.sizeOf25 (K51 15 rfl) (Rd.ext h35 (Ext.trans e5 e52)) h56 c60 <| fun p61 h62 => L_op (.plain rfl) rfl (ltb rfl) (X_loadS Tryd.isAgg25 Tryd.sizeOf25 rfl rfl h62) <| L_alloc (.plain rfl) rfl (ltb rfl) rfl Tryd.zeroValue25 <| fun b63 w64 z65 z66 e67 k68 => L_storeA (.plain rfl) rfl rfl Tryd.sizeOf25 rfl rfl rfl rfl rfl k68 <| fun w69 h70 k71 => L_nil <| thn_n <| W_reg <| L_op (.plain rfl) rfl (ltb rfl) (X_move (v := v37) h54) <| L_op (.plain rfl) rfl (ltb rfl) (X_fieldAddr Tryd.underlying25 rfl Tryd.sizeOf9 rfl rfl) <| L_op (.plain rfl) rfl (ltb rfl) (X_loadB Tryd.isAgg9 k71 rfl rfl) <| L_lit (.plain rfl) rfl (ltb rfl) rfl Tryd.underlying47 Tryd.sizeOf9 Tryd.zeroValue9 rfl rfl rfl (vs := [(S ((gt (gt a0 x11_9) x17_38).path))]) rfl (lit_all rfl) <| fun b72 w73 z74 z75 e76 k77 => ?_
              obtain ⟨c78, H⟩ := bif_some H
              refine L_append (enc := encS) (.plain rfl) rfl (ltb rfl) rfl El.t47 rfl rfl (Ow.ext h55 (Ext.trans (Below.trans e67 (Wr.below h70 (Nat.le_of_eq z65))) e76)) (Ow.rd (Ow.new (xs := [(gt (gt a0 x11_9) x17_38).path]) (sz := 1) (enc := encS) (base := w69.heap.size) k77 (Nat.le_of_eq z74) rfl (fun _ _ => by rfl) (Nat.le_of_ble_eq_true rfl))) (ones_S _) (of_decide_eq_true c78) ((Ext.trans (Ext.trans e52 (Below.trans e67 (Wr.below h70 (Nat.le_of_eq z65)))) e76)).size <| fun v79 w80 o81 z82 g83 => L_op (.plain rfl) rfl (ltb rfl) (X_assign (v := v79) rfl) <| L_nil <| blk_n <| thn_n <| W_reg <| L_op (.plain rfl) rfl (ltb rfl) (X_add h56 rfl) <| L_op (.plain rfl) rfl (ltb rfl) (X_move (v := (.int .i64 (IntKind.wrap .i64 (x17_38 + 1)))) rfl) <| L_nil <| thn_n ?_
              obtain rfl := Option.some.inj H
              exact ⟨_, Nat.lt_succ_self _, x3_36 ++ ([(gt (gt a0 x11_9) x17_38).path] : List (List UInt8)), v79, IntKind.wrap .i64 (x17_38 + 1), (Kp.upd (Kp.upd (Kp.upd (Kp.upd (Kp.upd (Kp.upd (Kp.upd (Kp.upd (Kp.upd (Kp.upd (Kp.upd (Kp.upd K51 rfl) rfl) rfl) rfl) rfl) rfl) rfl) rfl) rfl) rfl) rfl) rfl), rfl, o81, rfl, (g83 _ (Ext.trans (Ext.trans e52 (Below.trans e67 (Wr.below h70 (Nat.le_of_eq z65)))) e76)), S58⟩
            · refine W_false (congrArg Value.bool q59) <| W_exit <| thn_x <| thn_x <| blk_x <| thn_n ?_
              obtain rfl := Option.some.inj H
              obtain rfl := Option.some.inj S58
              exact ⟨x3_36, v37, (Kp.upd K51 rfl), h54, h55, e52, rfl⟩
        · rintro s45 w44 ⟨x3_42, v43, K46, h84, h85, e47, y86⟩
          rw [y86] at C41
          have H := C41
          replace H : _ = some _ := H
          refine blk_n <| thn_n <| W_reg <| L_op (.plain rfl) rfl (ltb rfl) (X_add ((K46 11 rfl).trans h27) rfl) <| L_op (.plain rfl) rfl (ltb rfl) (X_move (v := (.int .i64 (IntKind.wrap .i64 (x11_9 + 1)))) rfl) <| L_nil <| thn_n ?_
          obtain rfl := Option.some.inj H
          exact ⟨_, Nat.lt_succ_self _, x3_42, v43, IntKind.wrap .i64 (x11_9 + 1), (Kp.upd (Kp.upd (Kp.cut (Kp.upd (Kp.upd (Kp.upd (Kp.upd (Kp.upd (Kp.upd (Kp.upd K22 rfl) rfl) rfl) rfl) rfl) rfl) rfl) K46 rfl) rfl) rfl), h84, h85, rfl, e47, S29⟩
      · refine W_false (congrArg Value.bool q30) <| W_exit <| thn_x <| thn_x <| blk_x <| thn_n ?_
        obtain rfl := Option.some.inj H
        obtain rfl := Option.some.inj S29
        exact ⟨x3_7, v8, (Kp.upd K22 rfl), h25, h26, e23, rfl⟩
  · rintro s16 w15 ⟨x3_13, v14, K17, h87, h88, e18, y89⟩
    rw [y89] at C12
    have H := C12
    replace H : _ = some _ := H
    refine thn_n <| W_seq <| W_reg <| L_op (.plain rfl) rfl (ltb rfl) (X_move (v := v14) h87) ?_
    obtain ⟨c90, H⟩ := bif_some H
    obtain ⟨c91, H⟩ := bif_some H
    refine L_callA (.plain rfl) rfl (ltb rfl) rfl Tryd.call108 (slices_SortFuncS.calls (w := w15) h88 (GV.ext gv (Ext.trans e5 e18)) (GV.pos (GV.ext gv e5)) (of_decide_eq_true c90) (of_decide_eq_true c91)) rfl <| fun _ w92 A93 => ?_
    obtain ⟨rfl, B94, ys95, p96, q97, o98⟩ := A93
    refine L_nil <| thn_n <| W_seq <| W_reg <| L_op (.plain rfl) rfl (ltb rfl) (X_move (v := v14) h87) <| L_callA (.plain rfl) rfl (ltb rfl) rfl Tryd.call109 (slices_CompactS.calls (w := w92) o98 p96 q97) rfl <| fun v103 w99 A100 => ?_
    obtain ⟨B101, o102⟩ := A100
    refine L_op (.plain rfl) rfl (ltb rfl) (X_assign (v := v103) rfl) <| L_nil <| thn_n <| W_ret <| fin_r ?_
    obtain rfl := Option.some.inj H
    exact fin1o rfl (Ext.trans e5 (B101 _ (B94 _ e18))) o102 (e5).size
theorem impl_paths.calls {w : World} {a0 : List (List Rec)} (gv : GV 0 w) {v_a0 : Value} (f_a0 : Rd2 5 encRec w v_a0 a0) (h0 : a0.length ≤ 5) (h1 : ∀ l ∈ a0, l.length ≤ 1048576) (h2 : ∀ l ∈ a0, ∀ x ∈ l, x.path.length ≤ 1048576) :
    Calls Tryd.prog 83 #[v_a0] w (Rt (RO 9 1 encS w (pathsL a0))) := by
  obtain ⟨k, h⟩ := impl_paths.eq a0 h0 h1 h2
  exact impl_paths.walk gv f_a0 h
/-! impl.touched -/
abbrev impl_touched.e1 (a0 : List Nd) (a1 : List Nd) := (pathsL ([(a0.map recOf), (a1.map recOf)] : List (List Rec)))
theorem impl_touched.walk {k : Nat} {w : World} {a0 : List Nd} {a1 : List Nd} (gv : GV 0 w) {v_a0 : Value} (f_a0 : Rd 4 encNd w v_a0 a0) {v_a1 : Value} (f_a1 : Rd 4 encNd w v_a1 a1) {r : List (List UInt8)} (H : impl_touched.sh k a0 a1 = some r) :
    Calls Tryd.prog 55 #[v_a0, v_a1] w (Rt (RO 9 1 encS w r)) := by
  unfold impl_touched.sh at H
  refine calls_of_W Tryd.func55 rfl (Nat.le_of_ble_eq_true rfl) Tryd.ntmps55 rfl ?_
  refine W_seq <| W_reg <| L_op (.plain rfl) rfl (ltb rfl) (X_assign (v := (.slice none 0 0)) rfl) <| L_nil <| thn_n <| W_seq <| W_reg <| L_lit (.plain rfl) rfl (ltb rfl) rfl Tryd.underlying47 Tryd.sizeOf9 Tryd.zeroValue9 rfl rfl rfl (vs := []) rfl (lit_all rfl) <| fun b1 w2 z3 z4 e5 k6 => L_op (.plain rfl) rfl (ltb rfl) (X_assign (v := (.slice (some ⟨b1, 0, none⟩) 0 0)) rfl) <| L_nil <| thn_n <| W_seq <| W_seq <| W_reg <| L_op (.plain rfl) rfl (ltb rfl) (X_move (v := v_a0) rfl) ?_
  obtain ⟨c7, H⟩ := bif_some H
  refine L_callO (.plain rfl) rfl (ltb rfl) rfl Tryd.call84 (impl_records.calls (w := w2) (a0 := a0) (Rd.ext f_a0 e5) (of_decide_eq_true c7)) rfl <| fun v10 w8 e9 o11 => L_op (.plain rfl) rfl (ltb rfl) (X_move (v := v_a1) rfl) ?_
  obtain ⟨c12, H⟩ := bif_some H
  refine L_callO (.plain rfl) rfl (ltb rfl) rfl Tryd.call84 (impl_records.calls (w := w8) (a0 := a1) (Rd.ext f_a1 (Ext.trans e5 e9)) (of_decide_eq_true c12)) rfl <| fun v15 w13 e14 o16 => L_lit (.plain rfl) rfl (ltb rfl) rfl Tryd.underlying28 Tryd.sizeOf59 Tryd.zeroValue59 rfl rfl rfl (vs := [v10, v15]) rfl (by simp; exact ⟨(Rd.one (Ow.rd (Ow.ext o11 e14))), (Rd.one (Ow.rd o16))⟩) <| fun b17 w18 z19 z20 e21 k22 => ?_
  obtain ⟨c23, H⟩ := bif_some H
  obtain ⟨c24, H⟩ := bif_some H
  obtain ⟨c25, H⟩ := bif_some H
  refine L_callO (.plain rfl) rfl (ltb rfl) rfl Tryd.call83 (impl_paths.calls (w := w18) (a0 := ([(a0.map recOf), (a1.map recOf)] : List (List Rec))) (GV.ext gv (Ext.trans (Ext.trans (Ext.trans e5 e9) e14) e21)) (Rd2.new (vs := [v10, v15]) k22 ⟨(Ow.rd (Ow.ext o11 (Ext.trans e14 e21))), (Ow.rd (Ow.ext o16 e21)), trivial⟩ (Nat.le_of_ble_eq_true rfl)) (of_decide_eq_true c23) (of_decide_eq_true c24) (of_decide_eq_true c25)) rfl <| fun v28 w26 e27 o29 => L_op (.plain rfl) rfl (ltb rfl) (X_lenR Tryd.underlying47 rfl (Ow.rd o29)) <| L_op (.plain rfl) rfl (ltb rfl) (X_move (v := (.int .i64 0)) rfl) <| L_nil <| thn_n ?_
  obtain ⟨z33, L34, C35⟩ := bind_some H
  clear H
  refine  W_cutQ (fun s0 sQ wQ => ∃ (x5_36 : List (List UInt8)) (v37 : Value), Kp [(5, 6), (7, 8), (16, 32)] s0 sQ ∧ sQ 5 = v37 ∧ Ow 9 1 encS w26.heap.size wQ v37 x5_36 ∧ Ext w26 wQ ∧ z33 = .inr x5_36) ?_ ?_
  · refine W_block <| W_loopI (fun s0 kk sQ wQ => ∃ (x5_30 : List (List UInt8)) (v31 : Value) (x16_32 : Int), Kp [(5, 6), (7, 8), (16, 32)] s0 sQ ∧ sQ 5 = v31 ∧ Ow 9 1 encS w26.heap.size wQ v31 x5_30 ∧ sQ 16 = .int .i64 x16_32 ∧ Ext w26 wQ ∧ loopF (impl_touched.b1 a0 a1) kk (x5_30, x16_32) = some z33) k ⟨([] : List (List UInt8)), (.slice (some ⟨b1, 0, none⟩) 0 0), 0, (Kp.refl _ _), rfl, (Ow.zero), rfl, (Ext.refl w26), L34⟩ ?_
    rintro k42 s43 w44 ⟨x5_30, v31, x16_32, K45, h48, h49, h50, e46, L47⟩
    cases k42 with
    | zero => exact absurd L47 (by simp [loopF])
    | succ k42 =>
      obtain ⟨t51, H, S52⟩ := loopF_succ L47
      clear L47
      unfold impl_touched.b1 at H
      refine W_seq <| W_reg <| L_op (.plain rfl) rfl (ltb rfl) (X_lss h50 (K45 15 rfl)) <| L_nil <| thn_n <| W_seq ?_
      rcases bif_two H with ⟨q53, H⟩ | ⟨q53, H⟩
      · refine W_true (congrArg Value.bool q53) <| W_skip <| thn_n <| W_seq <| W_block <| W_seq <| W_reg ?_
        obtain ⟨c54, H⟩ := bif_some H
        refine L_idx (.plain rfl) rfl (ltb rfl) rfl Tryd.underlying47 Tryd.sizeOf9 (K45 14 rfl) (Ow.rd (Ow.ext o29 e46)) h50 c54 <| fun p55 h56 => L_op (.plain rfl) rfl (ltb rfl) (X_loadAt Tryd.isAgg9 rfl h56 rfl) <| L_op (.plain rfl) rfl (ltb rfl) (X_assign rfl) <| L_nil <| thn_n <| W_seq <| W_reg <| L_op (.plain rfl) rfl (ltb rfl) (X_move (v := v_a0) (K45 0 rfl)) <| L_op (.plain rfl) rfl (ltb rfl) (X_move rfl) ?_
        obtain ⟨c57, H⟩ := bif_some H
        refine L_callP (.plain rfl) rfl (ltb rfl) rfl Tryd.call85 (impl_nodeAt.calls (w := w44) (a0 := a0) (a1 := gt (impl_touched.e1 a0 a1) x16_32) (Rd.ext f_a0 (Ext.trans (Ext.trans (Ext.trans (Ext.trans (Ext.trans e5 e9) e14) e21) e27) e46)) (of_decide_eq_true c57)) rfl <| fun w58 e59 => L_op (.plain rfl) rfl (ltb rfl) (X_move (v := v_a1) (K45 1 rfl)) <| L_op (.plain rfl) rfl (ltb rfl) (X_move rfl) ?_
        obtain ⟨c60, H⟩ := bif_some H
        refine L_callP (.plain rfl) rfl (ltb rfl) rfl Tryd.call85 (impl_nodeAt.calls (w := w58) (a0 := a1) (a1 := gt (impl_touched.e1 a0 a1) x16_32) (Rd.ext f_a1 (Ext.trans (Ext.trans (Ext.trans (Ext.trans (Ext.trans (Ext.trans e5 e9) e14) e21) e27) e46) e59)) (of_decide_eq_true c60)) rfl <| fun w61 e62 => L_op (.plain rfl) rfl (ltb rfl) (X_neA Eqg.t42 (Eqs.t42 (nodeAt a0 (gt (impl_touched.e1 a0 a1) x16_32)) (nodeAt a1 (gt (impl_touched.e1 a0 a1) x16_32))) rfl rfl) <| L_nil <| thn_n ?_
        rcases bif_two H with ⟨q63, H⟩ | ⟨q63, H⟩
        · refine W_true (congrArg Value.bool q63) <| W_reg <| L_op (.plain rfl) rfl (ltb rfl) (X_move (v := v31) h48) <| L_op (.plain rfl) rfl (ltb rfl) (X_move rfl) <| L_lit (.plain rfl) rfl (ltb rfl) rfl Tryd.underlying47 Tryd.sizeOf9 Tryd.zeroValue9 rfl rfl rfl (vs := [(S (gt (impl_touched.e1 a0 a1) x16_32))]) rfl (lit_all rfl) <| fun b64 w65 z66 z67 e68 k69 => ?_
          obtain ⟨c70, H⟩ := bif_some H
          refine L_append (enc := encS) (.plain rfl) rfl (ltb rfl) rfl El.t47 rfl rfl (Ow.ext h49 (Ext.trans (Ext.trans e59 e62) e68)) (Ow.rd (Ow.new (xs := [gt (impl_touched.e1 a0 a1) x16_32]) (sz := 1) (enc := encS) (base := w61.heap.size) k69 (Nat.le_of_eq z66) rfl (fun _ _ => by rfl) (Nat.le_of_ble_eq_true rfl))) (ones_S _) (of_decide_eq_true c70) ((Ext.trans (Ext.trans (Ext.trans e46 e59) e62) e68)).size <| fun v71 w72 o73 z74 g75 => L_op (.plain rfl) rfl (ltb rfl) (X_assign (v := v71) rfl) <| L_nil <| blk_n <| thn_n <| W_reg <| L_op (.plain rfl) rfl (ltb rfl) (X_add h50 rfl) <| L_op (.plain rfl) rfl (ltb rfl) (X_move (v := (.int .i64 (IntKind.wrap .i64 (x16_32 + 1)))) rfl) <| L_nil <| thn_n ?_
          obtain rfl := Option.some.inj H
          exact ⟨_, Nat.lt_succ_self _, x5_30 ++ ([gt (impl_touched.e1 a0 a1) x16_32] : List (List UInt8)), v71, IntKind.wrap .i64 (x16_32 + 1), (Kp.upd (Kp.upd (Kp.upd (Kp.upd (Kp.upd (Kp.upd (Kp.upd (Kp.upd (Kp.upd (Kp.upd (Kp.upd (Kp.upd (Kp.upd (Kp.upd (Kp.upd (Kp.upd (Kp.upd (Kp.upd K45 rfl) rfl) rfl) rfl) rfl) rfl) rfl) rfl) rfl) rfl) rfl) rfl) rfl) rfl) rfl) rfl) rfl) rfl), rfl, o73, rfl, (g75 _ (Ext.trans (Ext.trans (Ext.trans e46 e59) e62) e68)), S52⟩
        · refine W_false (congrArg Value.bool q63) <| W_skip <| blk_n <| thn_n <| W_reg <| L_op (.plain rfl) rfl (ltb rfl) (X_add h50 rfl) <| L_op (.plain rfl) rfl (ltb rfl) (X_move (v := (.int .i64 (IntKind.wrap .i64 (x16_32 + 1)))) rfl) <| L_nil <| thn_n ?_
          obtain rfl := Option.some.inj H
          exact ⟨_, Nat.lt_succ_self _, x5_30, v31, IntKind.wrap .i64 (x16_32 + 1), (Kp.upd (Kp.upd (Kp.upd (Kp.upd (Kp.upd (Kp.upd (Kp.upd (Kp.upd (Kp.upd (Kp.upd (Kp.upd (Kp.upd (Kp.upd K45 rfl) rfl) rfl) rfl) rfl) rfl) rfl) rfl) rfl) rfl) rfl) rfl) rfl), h48, (Ow.ext h49 (Ext.trans e59 e62)), rfl, (Ext.trans (Ext.trans e46 e59) e62), S52⟩
      · refine W_false (congrArg Value.bool q53) <| W_exit <| thn_x <| thn_x <| blk_x <| thn_n ?_
        obtain rfl := Option.some.inj H
        obtain rfl := Option.some.inj S52
        exact ⟨x5_30, v31, (Kp.upd K45 rfl), h48, h49, e46, rfl⟩
  · rintro s39 w38 ⟨x5_36, v37, K40, h76, h77, e41, y78⟩
    rw [y78] at C35
    have H := C35
    replace H : _ = some _ := H
    refine thn_n <| W_seq <| W_reg <| L_op (.plain rfl) rfl (ltb rfl) (X_move (v := v37) h76) <| L_op (.plain rfl) rfl (ltb rfl) (X_assign (v := v37) rfl) <| L_nil <| thn_n <| W_ret <| fin_r ?_
    obtain rfl := Option.some.inj H
    exact fin1o rfl (Ext.trans (Ext.trans (Ext.trans (Ext.trans (Ext.trans e5 e9) e14) e21) e27) e41) h77 ((Ext.trans (Ext.trans (Ext.trans (Ext.trans e5 e9) e14) e21) e27)).size
theorem impl_touched.calls {w : World} {a0 : List Nd} {a1 : List Nd} (gv : GV 0 w) {v_a0 : Value} (f_a0 : Rd 4 encNd w v_a0 a0) {v_a1 : Value} (f_a1 : Rd 4 encNd w v_a1 a1) (h0 : a0.length ≤ 1048576) (h1 : a1.length ≤ 1048576) (h2 : ∀ x ∈ a0, x.path.length ≤ 1048576) (h3 : ∀ x ∈ a1, x.path.length ≤ 1048576) :
    Calls Tryd.prog 55 #[v_a0, v_a1] w (Rt (RO 9 1 encS w (touchedL a0 a1))) := by
  obtain ⟨k, h⟩ := impl_touched.eq a0 a1 h0 h1 h2 h3
  exact impl_touched.walk gv f_a0 f_a1 h
/-! impl.Touched -/
theorem impl_Touched.walk {w : World} {a0 : List Nd} {a1 : List Nd} (gv : GV 0 w) {v_a0 : Value} (f_a0 : Rd 4 encNd w v_a0 a0) {v_a1 : Value} (f_a1 : Rd 4 encNd w v_a1 a1) {r : List (List UInt8) × Int} (H : impl_Touched.sh a0 a1 = some r) :
    Calls Tryd.prog 22 #[v_a0, v_a1] w (Rt (RT 9 1 encS w r.1 (.int .i64 r.2))) := by
  unfold impl_Touched.sh at H
  refine calls_of_W Tryd.func22 rfl (Nat.le_of_ble_eq_true rfl) Tryd.ntmps22 rfl ?_
  refine W_seq <| W_reg <| L_op (.plain rfl) rfl (ltb rfl) (X_assign (v := (.slice none 0 0)) rfl) <| L_op (.plain rfl) rfl (ltb rfl) (X_assign (v := (.int .i64 0)) rfl) <| L_nil <| thn_n <| W_seq <| W_seq <| W_reg <| L_op (.plain rfl) rfl (ltb rfl) (X_move (v := v_a0) rfl) <| L_op (.plain rfl) rfl (ltb rfl) (X_move (v := v_a1) rfl) ?_
  obtain ⟨c1, H⟩ := bif_some H
  obtain ⟨c2, H⟩ := bif_some H
  obtain ⟨c3, H⟩ := bif_some H
  obtain ⟨c4, H⟩ := bif_some H
  refine L_callP (.plain rfl) rfl (ltb rfl) rfl Tryd.call54 (impl_treesCode.calls (w := w) (a0 := a0) (a1 := a1) gv f_a0 f_a1 (of_decide_eq_true c1) (of_decide_eq_true c2) (of_decide_eq_true c3) (of_decide_eq_true c4)) rfl <| fun w5 e6 => L_op (.plain rfl) rfl (ltb rfl) (X_assign (v := (.int .i64 (treesCode a0 a1))) rfl) <| L_nil <| thn_n <| W_seq <| W_reg <| L_op (.plain rfl) rfl (ltb rfl) (X_move (v := (.int .i64 (treesCode a0 a1))) rfl) <| L_op (.plain rfl) rfl (ltb rfl) (X_neq rfl rfl) <| L_nil <| thn_n ?_
  rcases bif_two H with ⟨q7, H⟩ | ⟨q7, H⟩
  · refine W_true (congrArg Value.bool q7) <| W_seq <| W_reg <| L_op (.plain rfl) rfl (ltb rfl) (X_move (v := (.int .i64 (treesCode a0 a1))) rfl) <| L_op (.plain rfl) rfl (ltb rfl) (X_assign (v := (.slice none 0 0)) rfl) <| L_op (.plain rfl) rfl (ltb rfl) (X_assign (v := (.int .i64 (treesCode a0 a1))) rfl) <| L_nil <| thn_n <| W_ret <| thn_r <| fin_r ?_
    obtain rfl := Option.some.inj H
    exact fin2o rfl rfl e6 (Ow.zero (base := w.heap.size)) (Nat.le_refl _)
  · refine W_false (congrArg Value.bool q7) <| W_skip <| thn_n <| W_seq <| W_reg <| L_op (.plain rfl) rfl (ltb rfl) (X_move (v := v_a0) rfl) <| L_op (.plain rfl) rfl (ltb rfl) (X_move (v := v_a1) rfl) ?_
    obtain ⟨c8, H⟩ := bif_some H
    obtain ⟨c9, H⟩ := bif_some H
    obtain ⟨c10, H⟩ := bif_some H
    obtain ⟨c11, H⟩ := bif_some H
    refine L_callO (.plain rfl) rfl (ltb rfl) rfl Tryd.call55 (impl_touched.calls (w := w5) (a0 := a0) (a1 := a1) (GV.ext gv e6) (Rd.ext f_a0 e6) (Rd.ext f_a1 e6) (of_decide_eq_true c8) (of_decide_eq_true c9) (of_decide_eq_true c10) (of_decide_eq_true c11)) rfl <| fun v14 w12 e13 o15 => L_op (.plain rfl) rfl (ltb rfl) (X_assign (v := v14) rfl) <| L_op (.plain rfl) rfl (ltb rfl) (X_assign (v := (.int .i64 0)) rfl) <| L_nil <| thn_n <| W_ret <| fin_r ?_
    obtain rfl := Option.some.inj H
    exact fin2o rfl rfl (Ext.trans e6 e13) o15 (e6).size
theorem impl_Touched.calls {w : World} {a0 : List Nd} {a1 : List Nd} (gv : GV 0 w) {v_a0 : Value} (f_a0 : Rd 4 encNd w v_a0 a0) {v_a1 : Value} (f_a1 : Rd 4 encNd w v_a1 a1) (h0 : a0.length ≤ 1048576) (h1 : a1.length ≤ 1048576) (h2 : ∀ x ∈ a0, x.path.length ≤ 1048576) (h3 : ∀ x ∈ a1, x.path.length ≤ 1048576) :
    Calls Tryd.prog 22 #[v_a0, v_a1] w (Rt (RT 9 1 encS w ((touchedOf a0 a1).1) (.int .i64 ((touchedOf a0 a1).2)))) := impl_Touched.walk gv f_a0 f_a1 (impl_Touched.eq a0 a1 h0 h1 h2 h3)
/-! laws.FnExactTouched -/
abbrev law_Touched.e1 (a0 : List Nd) (a1 : List Nd) := (!(decide (((touchedOf a0 a1).1) = ((touchedOf a0 a1).1))))
theorem law_Touched.walk {w : World} {a0 : List Nd} {a1 : List Nd} (gv : GV 0 w) {v_a0 : Value} (f_a0 : Rd 4 encNd w v_a0 a0) {v_a1 : Value} (f_a1 : Rd 4 encNd w v_a1 a1) {r : Bool} (H : law_Touched.sh a0 a1 = some r) :
    Calls Tryd.prog 5 #[v_a0, v_a1] w (Rt (RP w (.bool r))) := by
  unfold law_Touched.sh at H
  refine calls_of_W Tryd.func5 rfl (Nat.le_of_ble_eq_true rfl) Tryd.ntmps5 rfl ?_
  refine W_seq <| W_reg <| L_op (.plain rfl) rfl (ltb rfl) (X_assign (v := (.bool false)) rfl) <| L_nil <| thn_n <| W_seq <| W_reg <| L_op (.plain rfl) rfl (ltb rfl) (X_assign (v := (.int .i64 1048576)) rfl) <| L_nil <| thn_n <| W_seq <| W_reg <| L_op (.plain rfl) rfl (ltb rfl) (X_move (v := v_a0) rfl) <| L_op (.plain rfl) rfl (ltb rfl) (X_move (v := (.int .i64 1048576)) rfl) ?_
  obtain ⟨c1, H⟩ := bif_some H
  obtain ⟨c2, H⟩ := bif_some H
  obtain ⟨c3, H⟩ := bif_some H
  obtain ⟨c4, H⟩ := bif_some H
  refine L_callP (.plain rfl) rfl (ltb rfl) rfl Tryd.call12 (laws_szNodeS.calls (w := w) (a0 := a0) (a1 := 1048576) f_a0 (of_decide_eq_true c1) (of_decide_eq_true c2) (of_decide_eq_true c3) (of_decide_eq_true c4)) rfl <| fun w5 e6 => L_op (.plain rfl) rfl (ltb rfl) (X_assign (v := (.int .i64 (szNdS a0 1048576))) rfl) <| L_nil <| thn_n <| W_seq <| W_seq <| W_reg <| L_op (.plain rfl) rfl (ltb rfl) (X_move (v := (.int .i64 (szNdS a0 1048576))) rfl) <| L_op (.plain rfl) rfl (ltb rfl) (X_lss rfl rfl) <| L_nil <| thn_n ?_
  rcases bif_two H with ⟨q7, H⟩ | ⟨q7, H⟩
  · refine W_true (congrArg Value.bool q7) <| W_seq <| W_reg <| L_op (.plain rfl) rfl (ltb rfl) (X_assign (v := (.bool true)) rfl) <| L_nil <| thn_n <| W_ret <| thn_r <| fin_r ?_
    obtain rfl := Option.some.inj H
    exact fin1 rfl e6
  · refine W_false (congrArg Value.bool q7) <| W_skip <| thn_n <| W_seq <| W_reg <| L_op (.plain rfl) rfl (ltb rfl) (X_move (v := v_a1) rfl) <| L_op (.plain rfl) rfl (ltb rfl) (X_move (v := (.int .i64 (szNdS a0 1048576))) rfl) ?_
    obtain ⟨c8, H⟩ := bif_some H
    obtain ⟨c9, H⟩ := bif_some H
    obtain ⟨c10, H⟩ := bif_some H
    obtain ⟨c11, H⟩ := bif_some H
    refine L_callP (.plain rfl) rfl (ltb rfl) rfl Tryd.call12 (laws_szNodeS.calls (w := w5) (a0 := a1) (a1 := (szNdS a0 1048576)) (Rd.ext f_a1 e6) (of_decide_eq_true c8) (of_decide_eq_true c9) (of_decide_eq_true c10) (of_decide_eq_true c11)) rfl <| fun w12 e13 => L_op (.plain rfl) rfl (ltb rfl) (X_assign (v := (.int .i64 (szNdS a1 (szNdS a0 1048576)))) rfl) <| L_nil <| thn_n <| W_seq <| W_seq <| W_reg <| L_op (.plain rfl) rfl (ltb rfl) (X_move (v := (.int .i64 (szNdS a1 (szNdS a0 1048576)))) rfl) <| L_op (.plain rfl) rfl (ltb rfl) (X_lss rfl rfl) <| L_nil <| thn_n ?_
    rcases bif_two H with ⟨q14, H⟩ | ⟨q14, H⟩
    · refine W_true (congrArg Value.bool q14) <| W_seq <| W_reg <| L_op (.plain rfl) rfl (ltb rfl) (X_assign (v := (.bool true)) rfl) <| L_nil <| thn_n <| W_ret <| thn_r <| fin_r ?_
      obtain rfl := Option.some.inj H
      exact fin1 rfl (Ext.trans e6 e13)
    · refine W_false (congrArg Value.bool q14) <| W_skip <| thn_n <| W_seq <| W_reg <| L_op (.plain rfl) rfl (ltb rfl) (X_move (v := v_a0) rfl) ?_
      obtain ⟨c15, H⟩ := bif_some H
      refine L_callO (.plain rfl) rfl (ltb rfl) rfl Tryd.call15 (laws_toNodeS.calls (w := w12) (a0 := a0) (Rd.ext f_a0 (Ext.trans e6 e13)) (of_decide_eq_true c15)) rfl <| fun v18 w16 e17 o19 => L_op (.plain rfl) rfl (ltb rfl) (X_move (v := v_a1) rfl) ?_
      obtain ⟨c20, H⟩ := bif_some H
      refine L_callO (.plain rfl) rfl (ltb rfl) rfl Tryd.call15 (laws_toNodeS.calls (w := w16) (a0 := a1) (Rd.ext f_a1 (Ext.trans (Ext.trans e6 e13) e17)) (of_decide_eq_true c20)) rfl <| fun v23 w21 e22 o24 => ?_
      obtain ⟨c25, H⟩ := bif_some H
      obtain ⟨c26, H⟩ := bif_some H
      obtain ⟨c27, H⟩ := bif_some H
      obtain ⟨c28, H⟩ := bif_some H
      refine L_callT (.plain rfl) rfl (ltb rfl) rfl Tryd.call21 (spec_Touched.calls (w := w21) (a0 := a0) (a1 := a1) (Ow.rd (Ow.ext o19 e22)) (Ow.rd o24) (of_decide_eq_true c25) (of_decide_eq_true c26) (of_decide_eq_true c27) (of_decide_eq_true c28)) rfl <| fun v31 w29 e30 o32 => L_op (.plain rfl) rfl (ltb rfl) (X_move (v := (.tuple #[v31, (.int .i64 ((touchedOf a0 a1).2))])) rfl) <| L_op (.plain rfl) rfl (ltb rfl) (X_extract (v := v31) rfl rfl) <| L_op (.plain rfl) rfl (ltb rfl) (X_extract (v := (.int .i64 ((touchedOf a0 a1).2))) rfl rfl) <| L_op (.plain rfl) rfl (ltb rfl) (X_assign (v := v31) rfl) <| L_op (.plain rfl) rfl (ltb rfl) (X_assign (v := (.int .i64 ((touchedOf a0 a1).2))) rfl) <| L_nil <| thn_n <| W_seq <| W_reg <| L_op (.plain rfl) rfl (ltb rfl) (X_move (v := v_a0) rfl) ?_
      obtain ⟨c33, H⟩ := bif_some H
      refine L_callO (.plain rfl) rfl (ltb rfl) rfl Tryd.call15 (laws_toNodeS.calls (w := w29) (a0 := a0) (Rd.ext f_a0 (Ext.trans (Ext.trans (Ext.trans (Ext.trans e6 e13) e17) e22) e30)) (of_decide_eq_true c33)) rfl <| fun v36 w34 e35 o37 => L_op (.plain rfl) rfl (ltb rfl) (X_assign (v := v36) rfl) <| L_nil <| thn_n <| W_seq <| W_reg <| L_op (.plain rfl) rfl (ltb rfl) (X_move (v := v_a1) rfl) ?_
      obtain ⟨c38, H⟩ := bif_some H
      refine L_callO (.plain rfl) rfl (ltb rfl) rfl Tryd.call15 (laws_toNodeS.calls (w := w34) (a0 := a1) (Rd.ext f_a1 (Ext.trans (Ext.trans (Ext.trans (Ext.trans (Ext.trans e6 e13) e17) e22) e30) e35)) (of_decide_eq_true c38)) rfl <| fun v41 w39 e40 o42 => L_op (.plain rfl) rfl (ltb rfl) (X_assign (v := v41) rfl) <| L_nil <| thn_n <| W_seq <| W_reg <| L_op (.plain rfl) rfl (ltb rfl) (X_move (v := v36) rfl) <| L_op (.plain rfl) rfl (ltb rfl) (X_move (v := v41) rfl) ?_
      obtain ⟨c43, H⟩ := bif_some H
      obtain ⟨c44, H⟩ := bif_some H
      obtain ⟨c45, H⟩ := bif_some H
      obtain ⟨c46, H⟩ := bif_some H
      refine L_callT (.plain rfl) rfl (ltb rfl) rfl Tryd.call22 (impl_Touched.calls (w := w39) (a0 := a0) (a1 := a1) (GV.ext gv (Ext.trans (Ext.trans (Ext.trans (Ext.trans (Ext.trans (Ext.trans e6 e13) e17) e22) e30) e35) e40)) (Ow.rd (Ow.ext o37 e40)) (Ow.rd o42) (of_decide_eq_true c43) (of_decide_eq_true c44) (of_decide_eq_true c45) (of_decide_eq_true c46)) rfl <| fun v49 w47 e48 o50 => L_op (.plain rfl) rfl (ltb rfl) (X_move (v := (.tuple #[v49, (.int .i64 ((touchedOf a0 a1).2))])) rfl) <| L_op (.plain rfl) rfl (ltb rfl) (X_extract (v := v49) rfl rfl) <| L_op (.plain rfl) rfl (ltb rfl) (X_extract (v := (.int .i64 ((touchedOf a0 a1).2))) rfl rfl) <| L_op (.plain rfl) rfl (ltb rfl) (X_assign (v := v49) rfl) <| L_op (.plain rfl) rfl (ltb rfl) (X_assign (v := (.int .i64 ((touchedOf a0 a1).2))) rfl) <| L_nil <| thn_n <| W_seq <| W_seq <| W_reg <| L_op (.plain rfl) rfl (ltb rfl) (X_move (v := v49) rfl) <| L_op (.plain rfl) rfl (ltb rfl) (X_move (v := v31) rfl) ?_
      obtain ⟨c51, H⟩ := bif_some H
      refine L_callP (.plain rfl) rfl (ltb rfl) rfl Tryd.call23 (laws_eqStringS.calls (w := w47) (a0 := (touchedOf a0 a1).1) (a1 := (touchedOf a0 a1).1) (Ow.rd o50) (Ow.rd (Ow.ext o32 (Ext.trans (Ext.trans e35 e40) e48))) (of_decide_eq_true c51)) rfl <| fun w52 e53 => L_op (.plain rfl) rfl (ltb rfl) (X_not rfl) <| L_op (.plain rfl) rfl (ltb rfl) (X_move (v := (.bool (law_Touched.e1 a0 a1))) rfl) <| L_grp 4 [(50, 54)] 53 (.bool ((law_Touched.e1 a0 a1) || (!decide (((touchedOf a0 a1).2) = ((touchedOf a0 a1).2))))) ?_ ?_
      · rcases bool_two (law_Touched.e1 a0 a1) with b53_ | b53_
        · exact L_skip rfl rfl (ltb rfl) (congrArg Value.bool b53_) rfl rfl (ltb rfl) <| L_skip rfl rfl (ltb rfl) (congrArg Value.bool b53_) rfl rfl (ltb rfl) <| L_skip rfl rfl (ltb rfl) (congrArg Value.bool b53_) rfl rfl (ltb rfl) <| L_op (.plain rfl) rfl (ltb rfl) (X_pick (b := true) (v := (.bool true)) (congrArg Value.bool b53_) rfl) <| L_nil <| thn_n ⟨(Kp.upd (Kp.upd (Kp.upd (Kp.upd (Kp.refl _ _) rfl) rfl) rfl) rfl), (or_t b53_), (Ext.refl w52)⟩
        · exact L_op (.guard 4 false 49 rfl rfl (ltb rfl) (congrArg Value.bool b53_)) rfl (ltb rfl) (X_move (v := (.int .i64 ((touchedOf a0 a1).2))) rfl) <| L_op (.guard 4 false 49 rfl rfl (ltb rfl) (congrArg Value.bool b53_)) rfl (ltb rfl) (X_move (v := (.int .i64 ((touchedOf a0 a1).2))) rfl) <| L_op (.guard 4 false 49 rfl rfl (ltb rfl) (congrArg Value.bool b53_)) rfl (ltb rfl) (X_neq rfl rfl) <| L_op (.plain rfl) rfl (ltb rfl) (X_pick (b := false) (v := (.bool (!decide (((touchedOf a0 a1).2) = ((touchedOf a0 a1).2))))) (congrArg Value.bool b53_) rfl) <| L_nil <| thn_n ⟨(Kp.upd (Kp.upd (Kp.upd (Kp.upd (Kp.refl _ _) rfl) rfl) rfl) rfl), (or_f b53_), (Ext.refl w52)⟩
      intro s59 w55 K56 h57 e58
      refine L_nil <| thn_n ?_
      rcases bif_two H with ⟨q60, H⟩ | ⟨q60, H⟩
      · refine W_true (h57.trans (congrArg Value.bool q60)) <| W_seq <| W_reg <| L_op (.plain rfl) rfl (ltb rfl) (X_assign (v := (.bool false)) rfl) <| L_nil <| thn_n <| W_ret <| thn_r <| fin_r ?_
        obtain rfl := Option.some.inj H
        exact fin1 rfl (Ext.trans (Ext.trans (Ext.trans (Ext.trans (Ext.trans (Ext.trans (Ext.trans (Ext.trans (Ext.trans e6 e13) e17) e22) e30) e35) e40) e48) e53) e58)
      · refine W_false (h57.trans (congrArg Value.bool q60)) <| W_skip <| thn_n <| W_seq <| W_seq <| W_reg <| L_op (.plain rfl) rfl (ltb rfl) (X_move (v := v36) (K56 8 rfl)) <| L_op (.plain rfl) rfl (ltb rfl) (X_move (v := v_a0) (K56 0 rfl)) ?_
        obtain ⟨c61, H⟩ := bif_some H
        refine L_callO (.plain rfl) rfl (ltb rfl) rfl Tryd.call15 (laws_toNodeS.calls (w := w55) (a0 := a0) (Rd.ext f_a0 (Ext.trans (Ext.trans (Ext.trans (Ext.trans (Ext.trans (Ext.trans (Ext.trans (Ext.trans (Ext.trans e6 e13) e17) e22) e30) e35) e40) e48) e53) e58)) (of_decide_eq_true c61)) rfl <| fun v64 w62 e63 o65 => ?_
        obtain ⟨c66, H⟩ := bif_some H
        refine L_callP (.plain rfl) rfl (ltb rfl) rfl Tryd.call18 (laws_eqNodeS.calls (w := w62) (a0 := a0) (a1 := a0) (Ow.rd (Ow.ext o37 (Ext.trans (Ext.trans (Ext.trans (Ext.trans e40 e48) e53) e58) e63))) (Ow.rd o65) (of_decide_eq_true c66)) rfl <| fun w67 e68 => L_op (.plain rfl) rfl (ltb rfl) (X_not rfl) <| L_nil <| thn_n ?_
        rcases bif_two H with ⟨q69, H⟩ | ⟨q69, H⟩
        · refine W_true (congrArg Value.bool q69) <| W_seq <| W_reg <| L_op (.plain rfl) rfl (ltb rfl) (X_assign (v := (.bool false)) rfl) <| L_nil <| thn_n <| W_ret <| thn_r <| fin_r ?_
          obtain rfl := Option.some.inj H
          exact fin1 rfl (Ext.trans (Ext.trans (Ext.trans (Ext.trans (Ext.trans (Ext.trans (Ext.trans (Ext.trans (Ext.trans (Ext.trans (Ext.trans e6 e13) e17) e22) e30) e35) e40) e48) e53) e58) e63) e68)
        · refine W_false (congrArg Value.bool q69) <| W_skip <| thn_n <| W_seq <| W_seq <| W_reg <| L_op (.plain rfl) rfl (ltb rfl) (X_move (v := v41) (K56 9 rfl)) <| L_op (.plain rfl) rfl (ltb rfl) (X_move (v := v_a1) (K56 1 rfl)) ?_
          obtain ⟨c70, H⟩ := bif_some H
          refine L_callO (.plain rfl) rfl (ltb rfl) rfl Tryd.call15 (laws_toNodeS.calls (w := w67) (a0 := a1) (Rd.ext f_a1 (Ext.trans (Ext.trans (Ext.trans (Ext.trans (Ext.trans (Ext.trans (Ext.trans (Ext.trans (Ext.trans (Ext.trans (Ext.trans e6 e13) e17) e22) e30) e35) e40) e48) e53) e58) e63) e68)) (of_decide_eq_true c70)) rfl <| fun v73 w71 e72 o74 => ?_
          obtain ⟨c75, H⟩ := bif_some H
          refine L_callP (.plain rfl) rfl (ltb rfl) rfl Tryd.call18 (laws_eqNodeS.calls (w := w71) (a0 := a1) (a1 := a1) (Ow.rd (Ow.ext o42 (Ext.trans (Ext.trans (Ext.trans (Ext.trans (Ext.trans e48 e53) e58) e63) e68) e72))) (Ow.rd o74) (of_decide_eq_true c75)) rfl <| fun w76 e77 => L_op (.plain rfl) rfl (ltb rfl) (X_not rfl) <| L_nil <| thn_n ?_
          rcases bif_two H with ⟨q78, H⟩ | ⟨q78, H⟩
          · refine W_true (congrArg Value.bool q78) <| W_seq <| W_reg <| L_op (.plain rfl) rfl (ltb rfl) (X_assign (v := (.bool false)) rfl) <| L_nil <| thn_n <| W_ret <| thn_r <| fin_r ?_
            obtain rfl := Option.some.inj H
            exact fin1 rfl (Ext.trans (Ext.trans (Ext.trans (Ext.trans (Ext.trans (Ext.trans (Ext.trans (Ext.trans (Ext.trans (Ext.trans (Ext.trans (Ext.trans (Ext.trans e6 e13) e17) e22) e30) e35) e40) e48) e53) e58) e63) e68) e72) e77)
          · refine W_false (congrArg Value.bool q78) <| W_skip <| thn_n <| W_seq <| W_reg <| L_op (.plain rfl) rfl (ltb rfl) (X_assign (v := (.int .i64 1)) rfl) <| L_nil <| thn_n <| W_seq <| W_reg <| L_op (.plain rfl) rfl (ltb rfl) (X_move (v := v36) (K56 8 rfl)) <| L_op (.plain rfl) rfl (ltb rfl) (X_move (v := (.int .i64 1)) rfl) ?_
            obtain ⟨c79, H⟩ := bif_some H
            obtain ⟨c80, H⟩ := bif_some H
            obtain ⟨c81, H⟩ := bif_some H
            refine L_callM (.plain rfl) rfl (ltb rfl) rfl Tryd.call19 (laws_markNodeS.calls (w := w76) (a0 := a0) (a1 := 1) (Ow.ext o37 (Ext.trans (Ext.trans (Ext.trans (Ext.trans (Ext.trans (Ext.trans (Ext.trans e40 e48) e53) e58) e63) e68) e72) e77)) (Ow.hb o37) (of_decide_eq_true c79) (of_decide_eq_true c80) (of_decide_eq_true c81)) rfl <| fun w82 e83 o84 => L_op (.plain rfl) rfl (ltb rfl) (X_assign (v := (.int .i64 (1 + 4 * (a0.length : Int)))) rfl) <| L_nil <| thn_n <| W_seq <| W_reg <| L_op (.plain rfl) rfl (ltb rfl) (X_move (v := v41) (K56 9 rfl)) <| L_op (.plain rfl) rfl (ltb rfl) (X_move (v := (.int .i64 (1 + 4 * (a0.length : Int)))) rfl) ?_
            obtain ⟨c85, H⟩ := bif_some H
            obtain ⟨c86, H⟩ := bif_some H
            obtain ⟨c87, H⟩ := bif_some H
            refine L_callM (.plain rfl) rfl (ltb rfl) rfl Tryd.call19 (laws_markNodeS.calls (w := w82) (a0 := a1) (a1 := (1 + 4 * (a0.length : Int))) (Ow.later (Ow.ext o42 (Ext.trans (Ext.trans (Ext.trans (Ext.trans (Ext.trans (Ext.trans e48 e53) e58) e63) e68) e72) e77)) e83 (Ext.refl w34).size) (Ow.hb o42) (of_decide_eq_true c85) (of_decide_eq_true c86) (of_decide_eq_true c87)) rfl <| fun w88 e89 o90 => L_op (.plain rfl) rfl (ltb rfl) (X_assign (v := (.int .i64 ((1 + 4 * (a0.length : Int)) + 4 * (a1.length : Int)))) rfl) <| L_nil <| thn_n <| W_seq <| W_seq <| W_reg <| L_op (.plain rfl) rfl (ltb rfl) (X_move (v := (.int .i64 ((1 + 4 * (a0.length : Int)) + 4 * (a1.length : Int)))) rfl) <| L_op (.plain rfl) rfl (ltb rfl) (X_lss rfl rfl) <| L_op (.plain rfl) rfl (ltb rfl) (X_move rfl) ?_
            obtain ⟨z92, x93, H⟩ := bind_some H
            refine L_grpE 5 [(73, 78)] 77 (fun q => q = z92) ?_ ?_
            · rcases bif_two x93 with ⟨b90_, H⟩ | ⟨b90_, H⟩
              · refine L_skip rfl rfl (ltb rfl) (congrArg Value.bool b90_) rfl rfl (ltb rfl) <| L_skip rfl rfl (ltb rfl) (congrArg Value.bool b90_) rfl rfl (ltb rfl) <| L_skip rfl rfl (ltb rfl) (congrArg Value.bool b90_) rfl rfl (ltb rfl) <| L_skip rfl rfl (ltb rfl) (congrArg Value.bool b90_) rfl rfl (ltb rfl) <| L_op (.plain rfl) rfl (ltb rfl) (X_pick (b := true) (v := (.bool true)) (congrArg Value.bool b90_) rfl) ?_
                obtain rfl := Option.some.inj H
                exact L_nil <| thn_n ⟨(Kp.upd (Kp.upd (Kp.upd (Kp.upd (Kp.upd (Kp.refl _ _) rfl) rfl) rfl) rfl) rfl), ⟨_, rfl, rfl⟩, (Ext.refl w88)⟩
              · refine L_op (.guard 2 false 72 rfl rfl (ltb rfl) (congrArg Value.bool b90_)) rfl (ltb rfl) (X_move (v := v49) (K56 10 rfl)) <| L_op (.guard 2 false 72 rfl rfl (ltb rfl) (congrArg Value.bool b90_)) rfl (ltb rfl) (X_move (v := v31) (K56 6 rfl)) ?_
                obtain ⟨c92, H⟩ := bif_some H
                refine L_callP (.guard 2 false 72 rfl rfl (ltb rfl) (congrArg Value.bool b90_)) rfl (ltb rfl) rfl Tryd.call23 (laws_eqStringS.calls (w := w88) (a0 := (touchedOf a0 a1).1) (a1 := (touchedOf a0 a1).1) (Ow.rd (Ow.later (Ow.later (Ow.ext o50 (Ext.trans (Ext.trans (Ext.trans (Ext.trans (Ext.trans e53 e58) e63) e68) e72) e77)) e83 e40.size) e89 (Ext.refl w39).size)) (Ow.rd (Ow.ext o32 (Ext.gr (Ext.gr (Ext.trans (Ext.trans (Ext.trans (Ext.trans (Ext.trans (Ext.trans (Ext.trans (Ext.trans e35 e40) e48) e53) e58) e63) e68) e72) e77) e83 (Ext.refl w29).size) e89 e35.size))) (of_decide_eq_true c92)) rfl <| fun w93 e94 => L_op (.guard 2 false 72 rfl rfl (ltb rfl) (congrArg Value.bool b90_)) rfl (ltb rfl) (X_not rfl) <| L_op (.plain rfl) rfl (ltb rfl) (X_pick (b := false) (v := (.bool (law_Touched.e1 a0 a1))) (congrArg Value.bool b90_) rfl) ?_
                obtain rfl := Option.some.inj H
                exact L_nil <| thn_n ⟨(Kp.upd (Kp.upd (Kp.upd (Kp.upd (Kp.upd (Kp.refl _ _) rfl) rfl) rfl) rfl) rfl), ⟨_, rfl, rfl⟩, e94⟩
            intro s98 w94 z99 K95 hq h96 e97
            rw [hq] at h96; clear hq
            refine L_op (.plain rfl) rfl (ltb rfl) (X_move (v := (.bool z92)) h96) <| L_grp 4 [(79, 83)] 82 (.bool (z92 || (!decide (((touchedOf a0 a1).2) = ((touchedOf a0 a1).2))))) ?_ ?_
            · rcases bool_two z92 with b99_ | b99_
              · exact L_skip rfl rfl (ltb rfl) (congrArg Value.bool b99_) rfl rfl (ltb rfl) <| L_skip rfl rfl (ltb rfl) (congrArg Value.bool b99_) rfl rfl (ltb rfl) <| L_skip rfl rfl (ltb rfl) (congrArg Value.bool b99_) rfl rfl (ltb rfl) <| L_op (.plain rfl) rfl (ltb rfl) (X_pick (b := true) (v := (.bool true)) (congrArg Value.bool b99_) rfl) <| L_nil <| thn_n ⟨(Kp.upd (Kp.upd (Kp.upd (Kp.upd (Kp.refl _ _) rfl) rfl) rfl) rfl), (or_t b99_), (Ext.refl w94)⟩
              · exact L_op (.guard 8 false 78 rfl rfl (ltb rfl) (congrArg Value.bool b99_)) rfl (ltb rfl) (X_move (v := (.int .i64 ((touchedOf a0 a1).2))) ((K95 11 rfl).trans (K56 11 rfl))) <| L_op (.guard 8 false 78 rfl rfl (ltb rfl) (congrArg Value.bool b99_)) rfl (ltb rfl) (X_move (v := (.int .i64 ((touchedOf a0 a1).2))) ((K95 7 rfl).trans (K56 7 rfl))) <| L_op (.guard 8 false 78 rfl rfl (ltb rfl) (congrArg Value.bool b99_)) rfl (ltb rfl) (X_neq rfl rfl) <| L_op (.plain rfl) rfl (ltb rfl) (X_pick (b := false) (v := (.bool (!decide (((touchedOf a0 a1).2) = ((touchedOf a0 a1).2))))) (congrArg Value.bool b99_) rfl) <| L_nil <| thn_n ⟨(Kp.upd (Kp.upd (Kp.upd (Kp.upd (Kp.refl _ _) rfl) rfl) rfl) rfl), (or_f b99_), (Ext.refl w94)⟩
            intro s105 w101 K102 h103 e104
            refine L_nil <| thn_n ?_
            rcases bif_two H with ⟨q106, H⟩ | ⟨q106, H⟩
            · refine W_true (h103.trans (congrArg Value.bool q106)) <| W_seq <| W_reg <| L_op (.plain rfl) rfl (ltb rfl) (X_assign (v := (.bool false)) rfl) <| L_nil <| thn_n <| W_ret <| thn_r <| fin_r ?_
              obtain rfl := Option.some.inj H
              exact fin1 rfl (Ext.trans (Ext.trans (Ext.trans (Ext.trans (Ext.trans (Ext.trans (Ext.trans e6 e13) e17) e22) e30) (Ext.gr (Ext.gr (Ext.trans (Ext.trans (Ext.trans (Ext.trans (Ext.trans (Ext.trans (Ext.trans (Ext.trans e35 e40) e48) e53) e58) e63) e68) e72) e77) e83 (Ext.refl w29).size) e89 e35.size)) e97) e104)
            · refine W_false (h103.trans (congrArg Value.bool q106)) <| W_skip <| thn_n <| W_seq <| W_reg <| L_op (.plain rfl) rfl (ltb rfl) (X_assign (v := (.int .i64 1)) rfl) <| L_nil <| thn_n <| W_seq <| W_reg <| L_op (.plain rfl) rfl (ltb rfl) (X_move (v := v49) ((K102 10 rfl).trans ((K95 10 rfl).trans (K56 10 rfl)))) <| L_op (.plain rfl) rfl (ltb rfl) (X_move (v := (.int .i64 1)) rfl) ?_
              obtain ⟨c107, H⟩ := bif_some H
              obtain ⟨c108, H⟩ := bif_some H
              obtain ⟨c109, H⟩ := bif_some H
              refine L_callM (.plain rfl) rfl (ltb rfl) rfl Tryd.call24 (laws_markStringS.calls (w := w101) (a0 := (touchedOf a0 a1).1) (a1 := 1) (Ow.ext (Ow.later (Ow.later (Ow.ext o50 (Ext.trans (Ext.trans (Ext.trans (Ext.trans (Ext.trans e53 e58) e63) e68) e72) e77)) e83 e40.size) e89 (Ext.refl w39).size) (Ext.trans e97 e104)) (Ow.hb o50) (of_decide_eq_true c107) (of_decide_eq_true c108) (of_decide_eq_true c109)) rfl <| fun w110 e111 o112 => L_op (.plain rfl) rfl (ltb rfl) (X_assign (v := (.int .i64 (1 + (((touchedOf a0 a1).1).length : Int)))) rfl) <| L_nil <| thn_n <| W_seq <| W_reg <| L_op (.plain rfl) rfl (ltb rfl) (X_assign (v := (.int .i64 1)) rfl) <| L_nil <| thn_n <| W_seq <| W_reg <| L_op (.plain rfl) rfl (ltb rfl) (X_move (v := v49) ((K102 10 rfl).trans ((K95 10 rfl).trans (K56 10 rfl)))) <| L_op (.plain rfl) rfl (ltb rfl) (X_move (v := (.int .i64 1)) rfl) ?_
              obtain ⟨c113, H⟩ := bif_some H
              obtain ⟨c114, H⟩ := bif_some H
              obtain ⟨c115, H⟩ := bif_some H
              refine L_callP (.plain rfl) rfl (ltb rfl) rfl Tryd.call25 (laws_heldStringS.calls (w := w110) (a0 := (marksS ((touchedOf a0 a1).1).length 1)) (a1 := 1) (Ow.rd o112) (of_decide_eq_true c113) (of_decide_eq_true c114) (of_decide_eq_true c115)) rfl <| fun w116 e117 => L_op (.plain rfl) rfl (ltb rfl) (X_assign (v := (.int .i64 (heldS (marksS ((touchedOf a0 a1).1).length 1) 1))) rfl) <| L_nil <| thn_n <| W_seq <| W_seq <| W_reg <| L_op (.plain rfl) rfl (ltb rfl) (X_move (v := (.int .i64 (heldS (marksS ((touchedOf a0 a1).1).length 1) 1))) rfl) <| L_op (.plain rfl) rfl (ltb rfl) (X_lss rfl rfl) <| L_nil <| thn_n ?_
              rcases bif_two H with ⟨q118, H⟩ | ⟨q118, H⟩
              · refine W_true (congrArg Value.bool q118) <| W_seq <| W_reg <| L_op (.plain rfl) rfl (ltb rfl) (X_assign (v := (.bool false)) rfl) <| L_nil <| thn_n <| W_ret <| thn_r <| fin_r ?_
                obtain rfl := Option.some.inj H
                exact fin1 rfl (Ext.trans (Ext.trans (Ext.trans (Ext.trans (Ext.trans (Ext.trans e6 e13) e17) e22) e30) (Ext.gr (Ext.trans (Ext.trans (Ext.gr (Ext.gr (Ext.trans (Ext.trans (Ext.trans (Ext.trans (Ext.trans (Ext.trans (Ext.trans (Ext.trans e35 e40) e48) e53) e58) e63) e68) e72) e77) e83 (Ext.refl w29).size) e89 e35.size) e97) e104) e111 (Ext.trans e35 e40).size)) e117)
              · refine W_false (congrArg Value.bool q118) <| W_skip <| thn_n <| W_seq <| W_seq <| W_reg <| L_op (.plain rfl) rfl (ltb rfl) (X_move (v := (.int .i64 (heldS (marksS ((touchedOf a0 a1).1).length 1) 1))) rfl) <| L_op (.plain rfl) rfl (ltb rfl) (X_move (v := (.int .i64 (1 + (((touchedOf a0 a1).1).length : Int)))) rfl) <| L_op (.plain rfl) rfl (ltb rfl) (X_neq rfl rfl) <| L_nil <| thn_n ?_
                rcases bif_two H with ⟨q119, H⟩ | ⟨q119, H⟩
                · refine W_true (congrArg Value.bool q119) <| W_seq <| W_reg <| L_op (.plain rfl) rfl (ltb rfl) (X_assign (v := (.bool false)) rfl) <| L_nil <| thn_n <| W_ret <| thn_r <| fin_r ?_
                  obtain rfl := Option.some.inj H
                  exact fin1 rfl (Ext.trans (Ext.trans (Ext.trans (Ext.trans (Ext.trans (Ext.trans e6 e13) e17) e22) e30) (Ext.gr (Ext.trans (Ext.trans (Ext.gr (Ext.gr (Ext.trans (Ext.trans (Ext.trans (Ext.trans (Ext.trans (Ext.trans (Ext.trans (Ext.trans e35 e40) e48) e53) e58) e63) e68) e72) e77) e83 (Ext.refl w29).size) e89 e35.size) e97) e104) e111 (Ext.trans e35 e40).size)) e117)
                · refine W_false (congrArg Value.bool q119) <| W_skip <| thn_n <| W_seq <| W_reg <| L_op (.plain rfl) rfl (ltb rfl) (X_move (v := v_a0) ((K102 0 rfl).trans ((K95 0 rfl).trans (K56 0 rfl)))) ?_
                  obtain ⟨c120, H⟩ := bif_some H
                  refine L_callO (.plain rfl) rfl (ltb rfl) rfl Tryd.call15 (laws_toNodeS.calls (w := w116) (a0 := a0) (Rd.ext f_a0 (Ext.trans (Ext.trans (Ext.trans (Ext.trans (Ext.trans (Ext.trans e6 e13) e17) e22) e30) (Ext.gr (Ext.trans (Ext.trans (Ext.gr (Ext.gr (Ext.trans (Ext.trans (Ext.trans (Ext.trans (Ext.trans (Ext.trans (Ext.trans (Ext.trans e35 e40) e48) e53) e58) e63) e68) e72) e77) e83 (Ext.refl w29).size) e89 e35.size) e97) e104) e111 (Ext.trans e35 e40).size)) e117)) (of_decide_eq_true c120)) rfl <| fun v123 w121 e122 o124 => L_op (.plain rfl) rfl (ltb rfl) (X_move (v := v_a1) ((K102 1 rfl).trans ((K95 1 rfl).trans (K56 1 rfl)))) ?_
                  obtain ⟨c125, H⟩ := bif_some H
                  refine L_callO (.plain rfl) rfl (ltb rfl) rfl Tryd.call15 (laws_toNodeS.calls (w := w121) (a0 := a1) (Rd.ext f_a1 (Ext.trans (Ext.trans (Ext.trans (Ext.trans (Ext.trans (Ext.trans (Ext.trans e6 e13) e17) e22) e30) (Ext.gr (Ext.trans (Ext.trans (Ext.gr (Ext.gr (Ext.trans (Ext.trans (Ext.trans (Ext.trans (Ext.trans (Ext.trans (Ext.trans (Ext.trans e35 e40) e48) e53) e58) e63) e68) e72) e77) e83 (Ext.refl w29).size) e89 e35.size) e97) e104) e111 (Ext.trans e35 e40).size)) e117) e122)) (of_decide_eq_true c125)) rfl <| fun v128 w126 e127 o129 => ?_
                  obtain ⟨c130, H⟩ := bif_some H
                  obtain ⟨c131, H⟩ := bif_some H
                  obtain ⟨c132, H⟩ := bif_some H
                  obtain ⟨c133, H⟩ := bif_some H
                  refine L_callT (.plain rfl) rfl (ltb rfl) rfl Tryd.call22 (impl_Touched.calls (w := w126) (a0 := a0) (a1 := a1) (GV.ext gv (Ext.trans (Ext.trans (Ext.trans (Ext.trans (Ext.trans (Ext.trans (Ext.trans (Ext.trans e6 e13) e17) e22) e30) (Ext.gr (Ext.trans (Ext.trans (Ext.gr (Ext.gr (Ext.trans (Ext.trans (Ext.trans (Ext.trans (Ext.trans (Ext.trans (Ext.trans (Ext.trans e35 e40) e48) e53) e58) e63) e68) e72) e77) e83 (Ext.refl w29).size) e89 e35.size) e97) e104) e111 (Ext.trans e35 e40).size)) e117) e122) e127)) (Ow.rd (Ow.ext o124 e127)) (Ow.rd o129) (of_decide_eq_true c130) (of_decide_eq_true c131) (of_decide_eq_true c132) (of_decide_eq_true c133)) rfl <| fun v136 w134 e135 o137 => L_op (.plain rfl) rfl (ltb rfl) (X_move (v := (.tuple #[v136, (.int .i64 ((touchedOf a0 a1).2))])) rfl) <| L_op (.plain rfl) rfl (ltb rfl) (X_extract (v := v136) rfl rfl) <| L_op (.plain rfl) rfl (ltb rfl) (X_extract (v := (.int .i64 ((touchedOf a0 a1).2))) rfl rfl) <| L_op (.plain rfl) rfl (ltb rfl) (X_assign (v := v136) rfl) <| L_op (.plain rfl) rfl (ltb rfl) (X_assign (v := (.int .i64 ((touchedOf a0 a1).2))) rfl) <| L_nil <| thn_n <| W_seq <| W_seq <| W_reg <| L_op (.plain rfl) rfl (ltb rfl) (X_move (v := v136) rfl) <| L_op (.plain rfl) rfl (ltb rfl) (X_move (v := v31) ((K102 6 rfl).trans ((K95 6 rfl).trans (K56 6 rfl)))) ?_
                  obtain ⟨c138, H⟩ := bif_some H
                  refine L_callP (.plain rfl) rfl (ltb rfl) rfl Tryd.call23 (laws_eqStringS.calls (w := w134) (a0 := (touchedOf a0 a1).1) (a1 := (touchedOf a0 a1).1) (Ow.rd o137) (Ow.rd (Ow.ext o32 (Ext.trans (Ext.trans (Ext.trans (Ext.trans (Ext.gr (Ext.trans (Ext.trans (Ext.gr (Ext.gr (Ext.trans (Ext.trans (Ext.trans (Ext.trans (Ext.trans (Ext.trans (Ext.trans (Ext.trans e35 e40) e48) e53) e58) e63) e68) e72) e77) e83 (Ext.refl w29).size) e89 e35.size) e97) e104) e111 (Ext.trans e35 e40).size) e117) e122) e127) e135))) (of_decide_eq_true c138)) rfl <| fun w139 e140 => L_op (.plain rfl) rfl (ltb rfl) (X_not rfl) <| L_op (.plain rfl) rfl (ltb rfl) (X_move (v := (.bool (law_Touched.e1 a0 a1))) rfl) <| L_grp 4 [(107, 111)] 110 (.bool ((law_Touched.e1 a0 a1) || (!decide (((touchedOf a0 a1).2) = ((touchedOf a0 a1).2))))) ?_ ?_
                  · rcases bool_two (law_Touched.e1 a0 a1) with b140_ | b140_
                    · exact L_skip rfl rfl (ltb rfl) (congrArg Value.bool b140_) rfl rfl (ltb rfl) <| L_skip rfl rfl (ltb rfl) (congrArg Value.bool b140_) rfl rfl (ltb rfl) <| L_skip rfl rfl (ltb rfl) (congrArg Value.bool b140_) rfl rfl (ltb rfl) <| L_op (.plain rfl) rfl (ltb rfl) (X_pick (b := true) (v := (.bool true)) (congrArg Value.bool b140_) rfl) <| L_nil <| thn_n ⟨(Kp.upd (Kp.upd (Kp.upd (Kp.upd (Kp.refl _ _) rfl) rfl) rfl) rfl), (or_t b140_), (Ext.refl w139)⟩
                    · exact L_op (.guard 4 false 106 rfl rfl (ltb rfl) (congrArg Value.bool b140_)) rfl (ltb rfl) (X_move (v := (.int .i64 ((touchedOf a0 a1).2))) rfl) <| L_op (.guard 4 false 106 rfl rfl (ltb rfl) (congrArg Value.bool b140_)) rfl (ltb rfl) (X_move (v := (.int .i64 ((touchedOf a0 a1).2))) ((K102 7 rfl).trans ((K95 7 rfl).trans (K56 7 rfl)))) <| L_op (.guard 4 false 106 rfl rfl (ltb rfl) (congrArg Value.bool b140_)) rfl (ltb rfl) (X_neq rfl rfl) <| L_op (.plain rfl) rfl (ltb rfl) (X_pick (b := false) (v := (.bool (!decide (((touchedOf a0 a1).2) = ((touchedOf a0 a1).2))))) (congrArg Value.bool b140_) rfl) <| L_nil <| thn_n ⟨(Kp.upd (Kp.upd (Kp.upd (Kp.upd (Kp.refl _ _) rfl) rfl) rfl) rfl), (or_f b140_), (Ext.refl w139)⟩
                  intro s146 w142 K143 h144 e145
                  refine L_nil <| thn_n ?_
                  rcases bif_two H with ⟨q147, H⟩ | ⟨q147, H⟩
                  · refine W_true (h144.trans (congrArg Value.bool q147)) <| W_seq <| W_reg <| L_op (.plain rfl) rfl (ltb rfl) (X_assign (v := (.bool false)) rfl) <| L_nil <| thn_n <| W_ret <| thn_r <| fin_r ?_
                    obtain rfl := Option.some.inj H
                    exact fin1 rfl (Ext.trans (Ext.trans (Ext.trans (Ext.trans (Ext.trans (Ext.trans (Ext.trans (Ext.trans (Ext.trans (Ext.trans (Ext.trans e6 e13) e17) e22) e30) (Ext.gr (Ext.trans (Ext.trans (Ext.gr (Ext.gr (Ext.trans (Ext.trans (Ext.trans (Ext.trans (Ext.trans (Ext.trans (Ext.trans (Ext.trans e35 e40) e48) e53) e58) e63) e68) e72) e77) e83 (Ext.refl w29).size) e89 e35.size) e97) e104) e111 (Ext.trans e35 e40).size)) e117) e122) e127) e135) e140) e145)
                  · refine W_false (h144.trans (congrArg Value.bool q147)) <| W_skip <| thn_n <| W_seq <| W_reg <| L_op (.plain rfl) rfl (ltb rfl) (X_assign (v := (.int .i64 1)) rfl) <| L_nil <| thn_n <| W_seq <| W_reg <| L_op (.plain rfl) rfl (ltb rfl) (X_move (v := v49) ((K143 10 rfl).trans ((K102 10 rfl).trans ((K95 10 rfl).trans (K56 10 rfl))))) <| L_op (.plain rfl) rfl (ltb rfl) (X_move (v := (.int .i64 1)) rfl) ?_
                    obtain ⟨c148, H⟩ := bif_some H
                    obtain ⟨c149, H⟩ := bif_some H
                    obtain ⟨c150, H⟩ := bif_some H
                    refine L_callP (.plain rfl) rfl (ltb rfl) rfl Tryd.call25 (laws_heldStringS.calls (w := w142) (a0 := (marksS ((touchedOf a0 a1).1).length 1)) (a1 := 1) (Ow.rd (Ow.ext o112 (Ext.trans (Ext.trans (Ext.trans (Ext.trans (Ext.trans e117 e122) e127) e135) e140) e145))) (of_decide_eq_true c148) (of_decide_eq_true c149) (of_decide_eq_true c150)) rfl <| fun w151 e152 => L_op (.plain rfl) rfl (ltb rfl) (X_assign (v := (.int .i64 (heldS (marksS ((touchedOf a0 a1).1).length 1) 1))) rfl) <| L_nil <| thn_n <| W_seq <| W_seq <| W_reg <| L_op (.plain rfl) rfl (ltb rfl) (X_move (v := (.int .i64 (heldS (marksS ((touchedOf a0 a1).1).length 1) 1))) rfl) <| L_op (.plain rfl) rfl (ltb rfl) (X_lss rfl rfl) <| L_nil <| thn_n ?_
                    rcases bif_two H with ⟨q153, H⟩ | ⟨q153, H⟩
                    · refine W_true (congrArg Value.bool q153) <| W_seq <| W_reg <| L_op (.plain rfl) rfl (ltb rfl) (X_assign (v := (.bool false)) rfl) <| L_nil <| thn_n <| W_ret <| thn_r <| fin_r ?_
                      obtain rfl := Option.some.inj H
                      exact fin1 rfl (Ext.trans (Ext.trans (Ext.trans (Ext.trans (Ext.trans (Ext.trans (Ext.trans (Ext.trans (Ext.trans (Ext.trans (Ext.trans (Ext.trans e6 e13) e17) e22) e30) (Ext.gr (Ext.trans (Ext.trans (Ext.gr (Ext.gr (Ext.trans (Ext.trans (Ext.trans (Ext.trans (Ext.trans (Ext.trans (Ext.trans (Ext.trans e35 e40) e48) e53) e58) e63) e68) e72) e77) e83 (Ext.refl w29).size) e89 e35.size) e97) e104) e111 (Ext.trans e35 e40).size)) e117) e122) e127) e135) e140) e145) e152)
                    · refine W_false (congrArg Value.bool q153) <| W_skip <| thn_n <| W_seq <| W_seq <| W_reg <| L_op (.plain rfl) rfl (ltb rfl) (X_move (v := (.int .i64 (heldS (marksS ((touchedOf a0 a1).1).length 1) 1))) rfl) <| L_op (.plain rfl) rfl (ltb rfl) (X_move (v := (.int .i64 (1 + (((touchedOf a0 a1).1).length : Int)))) (K143 13 rfl)) <| L_op (.plain rfl) rfl (ltb rfl) (X_neq rfl rfl) <| L_nil <| thn_n ?_
                      rcases bif_two H with ⟨q154, H⟩ | ⟨q154, H⟩
                      · refine W_true (congrArg Value.bool q154) <| W_seq <| W_reg <| L_op (.plain rfl) rfl (ltb rfl) (X_assign (v := (.bool false)) rfl) <| L_nil <| thn_n <| W_ret <| thn_r <| fin_r ?_
                        obtain rfl := Option.some.inj H
                        exact fin1 rfl (Ext.trans (Ext.trans (Ext.trans (Ext.trans (Ext.trans (Ext.trans (Ext.trans (Ext.trans (Ext.trans (Ext.trans (Ext.trans (Ext.trans e6 e13) e17) e22) e30) (Ext.gr (Ext.trans (Ext.trans (Ext.gr (Ext.gr (Ext.trans (Ext.trans (Ext.trans (Ext.trans (Ext.trans (Ext.trans (Ext.trans (Ext.trans e35 e40) e48) e53) e58) e63) e68) e72) e77) e83 (Ext.refl w29).size) e89 e35.size) e97) e104) e111 (Ext.trans e35 e40).size)) e117) e122) e127) e135) e140) e145) e152)
                      · refine W_false (congrArg Value.bool q154) <| W_skip <| thn_n <| W_seq <| W_reg <| L_op (.plain rfl) rfl (ltb rfl) (X_assign (v := (.bool true)) rfl) <| L_nil <| thn_n <| W_ret <| fin_r ?_
                        obtain rfl := Option.some.inj H
                        exact fin1 rfl (Ext.trans (Ext.trans (Ext.trans (Ext.trans (Ext.trans (Ext.trans (Ext.trans (Ext.trans (Ext.trans (Ext.trans (Ext.trans (Ext.trans e6 e13) e17) e22) e30) (Ext.gr (Ext.trans (Ext.trans (Ext.gr (Ext.gr (Ext.trans (Ext.trans (Ext.trans (Ext.trans (Ext.trans (Ext.trans (Ext.trans (Ext.trans e35 e40) e48) e53) e58) e63) e68) e72) e77) e83 (Ext.refl w29).size) e89 e35.size) e97) e104) e111 (Ext.trans e35 e40).size)) e117) e122) e127) e135) e140) e145) e152)
theorem law_Touched.calls {w : World} {a0 : List Nd} {a1 : List Nd} (gv : GV 0 w) {v_a0 : Value} (f_a0 : Rd 4 encNd w v_a0 a0) {v_a1 : Value} (f_a1 : Rd 4 encNd w v_a1 a1) (h0 : ∀ x ∈ a0, okNd x) (h1 : a0.length ≤ 9223372036854775807) (h2 : ∀ x ∈ a1, okNd x) (h3 : a1.length ≤ 9223372036854775807) :
    Calls Tryd.prog 5 #[v_a0, v_a1] w (Rt (RP w (.bool true))) := law_Touched.walk gv f_a0 f_a1 (law_Touched.eq a0 a1 h0 h1 h2 h3)
end Go.Proofs.YtilogldgepaeiacDoor
