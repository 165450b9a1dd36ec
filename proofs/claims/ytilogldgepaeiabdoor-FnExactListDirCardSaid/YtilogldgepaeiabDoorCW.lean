/- The walks, by program (wip/tools). -/
import Derived.Test.YtilogldgepaeiabDoorProg
import Derived.Test.YtilogldgepaeiabDoorKI
import Derived.Test.YtilogldgepaeiabDoorCWA
set_option linter.unusedVariables false
set_option maxRecDepth 10000
namespace Go.Proofs.YtilogldgepaeiabDoor
open Go.UL Go.RowKit
/-! spec.l04OK -/
abbrev spec_l04OK.e1 (a0 : List Nd) (x3_2 : Int) := ((decide (((gt a0 x3_2).kind) = 4)) || (!(decide (recFault (recOf (gt a0 x3_2)) = 0))))
abbrev spec_l04OK.e2 (a0 : List Nd) (x3_2 : Int) := ((!(spec_l04OK.e1 a0 x3_2)) && (decide (0 < x3_2)))
abbrev spec_l04OK.e3 (a0 : List Nd) (x3_2 : Int) := (lessL (cut 47 ((gt a0 (IntKind.wrap .i64 (x3_2 - 1))).path)) (cut 47 ((gt a0 x3_2).path)))
theorem spec_l04OK.walk {k : Nat} {w : World} {a0 : List Nd} {v_a0 : Value} (f_a0 : Rd 4 encNd w v_a0 a0) {r : Bool} (H : spec_l04OK.sh k a0 = some r) :
    Calls Tryd.prog 84 #[v_a0] w (Rt (RP w (.bool r))) := by
  unfold spec_l04OK.sh at H
  refine calls_of_W Tryd.func84 rfl (Nat.le_of_ble_eq_true rfl) Tryd.ntmps84 rfl ?_
  refine W_seq <| W_reg <| L_op (.plain rfl) rfl (ltb rfl) (X_assign (v := (.bool false)) rfl) <| L_nil <| thn_n <| W_seq <| W_seq <| W_reg <| L_op (.plain rfl) rfl (ltb rfl) (X_move (v := v_a0) rfl) <| L_op (.plain rfl) rfl (ltb rfl) (X_lenR Tryd.underlying43 rfl f_a0) <| L_op (.plain rfl) rfl (ltb rfl) (X_gtr rfl rfl) <| L_nil <| thn_n ?_
  rcases bif_two H with ⟨q1, H⟩ | ⟨q1, H⟩
  · refine W_true (congrArg Value.bool q1) <| W_seq <| W_reg <| L_op (.plain rfl) rfl (ltb rfl) (X_assign (v := (.bool false)) rfl) <| L_nil <| thn_n <| W_ret <| thn_r <| fin_r ?_
    obtain rfl := Option.some.inj H
    exact fin1 rfl (Ext.refl w)
  · refine W_false (congrArg Value.bool q1) <| W_skip <| thn_n <| W_seq <| W_seq <| W_reg <| L_op (.plain rfl) rfl (ltb rfl) (X_assign (v := (.int .i64 0)) rfl) <| L_nil <| thn_n ?_
    obtain ⟨z3, L4, C5⟩ := bind_some H
    clear H
    refine  W_cutQ (fun s0 sQ wQ => Kp [(2, 6), (9, 72)] s0 sQ ∧ Ext w wQ ∧ z3 = .inr ()) ?_ ?_
    · refine W_block <| W_loopI (fun s0 kk sQ wQ => ∃ (x3_2 : Int), Kp [(2, 6), (9, 72)] s0 sQ ∧ sQ 3 = .int .i64 x3_2 ∧ Ext w wQ ∧ loopF (spec_l04OK.b1 a0) kk x3_2 = some z3) k ⟨0, (Kp.refl _ _), rfl, (Ext.refl w), L4⟩ ?_
      rintro k10 s11 w12 ⟨x3_2, K13, h16, e14, L15⟩
      cases k10 with
      | zero => exact absurd L15 (by simp [loopF])
      | succ k10 =>
        obtain ⟨t17, H, S18⟩ := loopF_succ L15
        clear L15
        unfold spec_l04OK.b1 at H
        refine W_seq <| W_seq <| W_reg <| L_op (.plain rfl) rfl (ltb rfl) (X_move (v := (.int .i64 x3_2)) h16) <| L_op (.plain rfl) rfl (ltb rfl) (X_move (v := v_a0) (K13 0 rfl)) <| L_op (.plain rfl) rfl (ltb rfl) (X_lenR Tryd.underlying43 rfl (Rd.ext f_a0 e14)) <| L_op (.plain rfl) rfl (ltb rfl) (X_lss rfl rfl) <| L_nil <| thn_n ?_
        rcases bif_two H with ⟨q19, H⟩ | ⟨q19, H⟩
        · refine W_true (congrArg Value.bool q19) <| W_skip <| thn_n <| W_seq <| W_block <| W_seq <| W_seq ?_
          obtain ⟨c20, H⟩ := bif_some H
          obtain ⟨c23, H⟩ := bif_some H
          obtain ⟨c30, H⟩ := bif_some H
          obtain ⟨c33, H⟩ := bif_some H
          obtain ⟨c36, H⟩ := bif_some H
          obtain ⟨c37, H⟩ := bif_some H
          refine W_drawM [LEq v_a0, LEq (.int .i64 x3_2), LAt0 (encNd (gt a0 x3_2)), LAt 0 (encNd (gt a0 x3_2)), LEq (.int .i64 ((gt a0 x3_2).kind)), LEq (.bool (decide (((gt a0 x3_2).kind) = 4))), LEq (.bool (decide (((gt a0 x3_2).kind) = 4))), LIf (!(decide (((gt a0 x3_2).kind) = 4))) (LEq v_a0), LIf (!(decide (((gt a0 x3_2).kind) = 4))) (LEq (.int .i64 x3_2)), LIf (!(decide (((gt a0 x3_2).kind) = 4))) (LAt0 (encNd (gt a0 x3_2))), LIf (!(decide (((gt a0 x3_2).kind) = 4))) (LEq (.agg (encNd (gt a0 x3_2)).toArray)), LIf (!(decide (((gt a0 x3_2).kind) = 4))) (LEq (.agg (encRec (recOf (gt a0 x3_2))).toArray)), LIf (!(decide (((gt a0 x3_2).kind) = 4))) (LEq (.bool (decide (recFault (recOf (gt a0 x3_2)) = 0)))), LIf (!(decide (((gt a0 x3_2).kind) = 4))) (LEq (.bool (!(decide (recFault (recOf (gt a0 x3_2)) = 0))))), LEq (.bool (spec_l04OK.e1 a0 x3_2)), LEq (.bool (spec_l04OK.e1 a0 x3_2)), LIf (!(spec_l04OK.e1 a0 x3_2)) (LEq (.int .i64 x3_2)), LIf (!(spec_l04OK.e1 a0 x3_2)) (LEq (.bool (decide (0 < x3_2)))), LIf (!(spec_l04OK.e1 a0 x3_2)) (LEq (.bool (decide (0 < x3_2)))), LIf (spec_l04OK.e2 a0 x3_2) (LEq v_a0), LIf (spec_l04OK.e2 a0 x3_2) (LEq (.int .i64 x3_2)), LIf (spec_l04OK.e2 a0 x3_2) (LEq (.int .i64 (IntKind.wrap .i64 (x3_2 - 1)))), LIf (spec_l04OK.e2 a0 x3_2) (LAt0 (encNd (gt a0 (IntKind.wrap .i64 (x3_2 - 1))))), LIf (spec_l04OK.e2 a0 x3_2) (LAt 1 (encNd (gt a0 (IntKind.wrap .i64 (x3_2 - 1))))), LIf (spec_l04OK.e2 a0 x3_2) (LEq (S ((gt a0 (IntKind.wrap .i64 (x3_2 - 1))).path))), LIf (spec_l04OK.e2 a0 x3_2) (LEq v_a0), LIf (spec_l04OK.e2 a0 x3_2) (LEq (.int .i64 x3_2)), LIf (spec_l04OK.e2 a0 x3_2) (LAt0 (encNd (gt a0 x3_2))), LIf (spec_l04OK.e2 a0 x3_2) (LAt 1 (encNd (gt a0 x3_2))), LIf (spec_l04OK.e2 a0 x3_2) (LEq (S ((gt a0 x3_2).path))), LIf (spec_l04OK.e2 a0 x3_2) (LEq (.bool (spec_l04OK.e3 a0 x3_2))), LIf (spec_l04OK.e2 a0 x3_2) (LEq (.bool (!(spec_l04OK.e3 a0 x3_2)))), LIf (!(spec_l04OK.e1 a0 x3_2)) (LEq (.bool ((decide (0 < x3_2)) && (!(spec_l04OK.e3 a0 x3_2))))), LEq (.bool ((spec_l04OK.e1 a0 x3_2) || ((decide (0 < x3_2)) && (!(spec_l04OK.e3 a0 x3_2)))))] (by kernel_rfl) (by kernel_rfl) ⟨LEq.mono, LEq.mono, LAt0.mono, LAt.mono, LEq.mono, LEq.mono, LEq.mono, (LIf.mono LEq.mono), (LIf.mono LEq.mono), (LIf.mono LAt0.mono), (LIf.mono LEq.mono), (LIf.mono LEq.mono), (LIf.mono LEq.mono), (LIf.mono LEq.mono), LEq.mono, LEq.mono, (LIf.mono LEq.mono), (LIf.mono LEq.mono), (LIf.mono LEq.mono), (LIf.mono LEq.mono), (LIf.mono LEq.mono), (LIf.mono LEq.mono), (LIf.mono LAt0.mono), (LIf.mono LAt.mono), (LIf.mono LEq.mono), (LIf.mono LEq.mono), (LIf.mono LEq.mono), (LIf.mono LAt0.mono), (LIf.mono LAt.mono), (LIf.mono LEq.mono), (LIf.mono LEq.mono), (LIf.mono LEq.mono), (LIf.mono LEq.mono), LEq.mono, trivial⟩ ⟨?_, ?_, ?_, ?_, ?_, ?_, ?_, ?_, ?_, ?_, ?_, ?_, ?_, ?_, ?_, ?_, ?_, ?_, ?_, ?_, ?_, ?_, ?_, ?_, ?_, ?_, ?_, ?_, ?_, ?_, ?_, ?_, ?_, ?_, trivial⟩ ?_
          · intro s40 w41 e42 hf43 hd44 hu45
            exact L_op (.plain rfl) rfl (ltb rfl) (X_move (v := v_a0) ((hf43 0 rfl).trans (K13 0 rfl))) <| L_nil <| stepEnd rfl rfl (Ext.refl w41) rfl
          · intro s46 w47 e48 hf49 hd50 hu51
            exact L_op (.plain rfl) rfl (ltb rfl) (X_move (v := (.int .i64 x3_2)) ((hf49 3 rfl).trans h16)) <| L_nil <| stepEnd rfl rfl (Ext.refl w47) rfl
          · intro s52 w53 e54 hf55 hd56 hu57
            have d58 : s52 15 = v_a0 := (hd56 0 rfl)
            have d59 : s52 16 = (.int .i64 x3_2) := (hd56 1 rfl)
            have c60 := c20
            exact L_idx (.plain rfl) rfl (ltb rfl) rfl Tryd.underlying43 Tryd.sizeOf40 d58 (Rd.ext f_a0 (Ext.trans e14 e54)) d59 c60 <| fun p61 h62 => L_nil <| stepEnd rfl rfl (Ext.refl w53) ⟨_, rfl, h62⟩
          · intro s63 w64 e65 hf66 hd67 hu68
            obtain ⟨p69, h70, h71⟩ := (hd67 2 rfl)
            exact L_op (.plain rfl) rfl (ltb rfl) (X_fieldAddr Tryd.underlying40 rfl Tryd.sizeOf3 rfl h70) <| L_nil <| stepEnd rfl rfl (Ext.refl w64) ⟨_, rfl, h71⟩
          · intro s72 w73 e74 hf75 hd76 hu77
            obtain ⟨p78, h79, h80⟩ := (hd76 3 rfl)
            exact L_op (.plain rfl) rfl (ltb rfl) (X_loadF Tryd.isAgg3 (j := 0) h80 h79 rfl) <| L_nil <| stepEnd rfl rfl (Ext.refl w73) rfl
          · intro s81 w82 e83 hf84 hd85 hu86
            have d87 : s81 19 = (.int .i64 ((gt a0 x3_2).kind)) := (hd85 4 rfl)
            exact L_op (.plain rfl) rfl (ltb rfl) (X_eql d87 rfl) <| L_nil <| stepEnd rfl rfl (Ext.refl w82) rfl
          · intro s88 w89 e90 hf91 hd92 hu93
            have d94 : s88 20 = (.bool (decide (((gt a0 x3_2).kind) = 4))) := (hd92 5 rfl)
            exact L_op (.plain rfl) rfl (ltb rfl) (X_move (v := (.bool (decide (((gt a0 x3_2).kind) = 4)))) d94) <| L_nil <| stepEnd rfl rfl (Ext.refl w89) rfl
          · intro s95 w96 e97 hf98 hd99 hu100
            rcases bool_two (!(decide (((gt a0 x3_2).kind) = 4))) with b101 | b101
            · have g102 : (decide (((gt a0 x3_2).kind) = 4)) = false := (not_f b101)
              have d103 : s95 21 = (.bool (decide (((gt a0 x3_2).kind) = 4))) := (hd99 6 rfl)
              have d104 : s95 21 = (.bool (decide (((gt a0 x3_2).kind) = 4))) := (hd99 6 rfl)
              exact L_op (.guard 6 false 21 rfl rfl (ltb rfl) (d103.trans (congrArg Value.bool g102))) rfl (ltb rfl) (X_move (v := v_a0) ((hf98 0 rfl).trans (K13 0 rfl))) <| L_nil <| stepEnd rfl rfl (Ext.refl w96) ⟨fun _ => rfl, fun h => absurd (b101.symm.trans h) (by decide)⟩
            · have d105 : s95 21 = (.bool (decide (((gt a0 x3_2).kind) = 4))) := (hd99 6 rfl)
              have g106 : (decide (((gt a0 x3_2).kind) = 4)) = true := (not_ff b101)
              exact L_skip rfl rfl (ltb rfl) (d105.trans (congrArg Value.bool g106)) rfl rfl (ltb rfl) <| L_nil <| stepEnd rfl rfl (Ext.refl w96) ⟨fun h => absurd (b101.symm.trans h) (by decide), fun _ => rfl⟩
          · intro s107 w108 e109 hf110 hd111 hu112
            rcases bool_two (!(decide (((gt a0 x3_2).kind) = 4))) with b113 | b113
            · have g114 : (decide (((gt a0 x3_2).kind) = 4)) = false := (not_f b113)
              have d115 : s107 21 = (.bool (decide (((gt a0 x3_2).kind) = 4))) := (hd111 6 rfl)
              have d116 : s107 21 = (.bool (decide (((gt a0 x3_2).kind) = 4))) := (hd111 6 rfl)
              exact L_op (.guard 6 false 21 rfl rfl (ltb rfl) (d115.trans (congrArg Value.bool g114))) rfl (ltb rfl) (X_move (v := (.int .i64 x3_2)) ((hf110 3 rfl).trans h16)) <| L_nil <| stepEnd rfl rfl (Ext.refl w108) ⟨fun _ => rfl, fun h => absurd (b113.symm.trans h) (by decide)⟩
            · have d117 : s107 21 = (.bool (decide (((gt a0 x3_2).kind) = 4))) := (hd111 6 rfl)
              have g118 : (decide (((gt a0 x3_2).kind) = 4)) = true := (not_ff b113)
              exact L_skip rfl rfl (ltb rfl) (d117.trans (congrArg Value.bool g118)) rfl rfl (ltb rfl) <| L_nil <| stepEnd rfl rfl (Ext.refl w108) ⟨fun h => absurd (b113.symm.trans h) (by decide), fun _ => rfl⟩
          · intro s119 w120 e121 hf122 hd123 hu124
            rcases bool_two (!(decide (((gt a0 x3_2).kind) = 4))) with b125 | b125
            · have g126 : (decide (((gt a0 x3_2).kind) = 4)) = false := (not_f b125)
              have d127 : s119 21 = (.bool (decide (((gt a0 x3_2).kind) = 4))) := (hd123 6 rfl)
              have d128 : s119 21 = (.bool (decide (((gt a0 x3_2).kind) = 4))) := (hd123 6 rfl)
              have d129 : s119 22 = v_a0 := ((hd123 7 rfl).1 (not_mk (not_f b125)))
              have d130 : s119 23 = (.int .i64 x3_2) := ((hd123 8 rfl).1 (not_mk (not_f b125)))
              have c131 := imp_take b125 c23
              exact L_idx (.guard 6 false 21 rfl rfl (ltb rfl) (d127.trans (congrArg Value.bool g126))) rfl (ltb rfl) rfl Tryd.underlying43 Tryd.sizeOf40 d129 (Rd.ext f_a0 (Ext.trans e14 e121)) d130 c131 <| fun p132 h133 => L_nil <| stepEnd rfl rfl (Ext.refl w120) ⟨fun _ => ⟨_, rfl, h133⟩, fun h => absurd (b125.symm.trans h) (by decide)⟩
            · have d134 : s119 21 = (.bool (decide (((gt a0 x3_2).kind) = 4))) := (hd123 6 rfl)
              have g135 : (decide (((gt a0 x3_2).kind) = 4)) = true := (not_ff b125)
              exact L_skip rfl rfl (ltb rfl) (d134.trans (congrArg Value.bool g135)) rfl rfl (ltb rfl) <| L_nil <| stepEnd rfl rfl (Ext.refl w120) ⟨fun h => absurd (b125.symm.trans h) (by decide), fun _ => rfl⟩
          · intro s136 w137 e138 hf139 hd140 hu141
            rcases bool_two (!(decide (((gt a0 x3_2).kind) = 4))) with b142 | b142
            · have g143 : (decide (((gt a0 x3_2).kind) = 4)) = false := (not_f b142)
              have d144 : s136 21 = (.bool (decide (((gt a0 x3_2).kind) = 4))) := (hd140 6 rfl)
              have d145 : s136 21 = (.bool (decide (((gt a0 x3_2).kind) = 4))) := (hd140 6 rfl)
              obtain ⟨p146, h147, h148⟩ := ((hd140 9 rfl).1 (not_mk (not_f b142)))
              exact L_op (.guard 6 false 21 rfl rfl (ltb rfl) (d144.trans (congrArg Value.bool g143))) rfl (ltb rfl) (X_loadS Tryd.isAgg40 Tryd.sizeOf40 rfl h147 h148) <| L_nil <| stepEnd rfl rfl (Ext.refl w137) ⟨fun _ => rfl, fun h => absurd (b142.symm.trans h) (by decide)⟩
            · have d149 : s136 21 = (.bool (decide (((gt a0 x3_2).kind) = 4))) := (hd140 6 rfl)
              have g150 : (decide (((gt a0 x3_2).kind) = 4)) = true := (not_ff b142)
              exact L_skip rfl rfl (ltb rfl) (d149.trans (congrArg Value.bool g150)) rfl rfl (ltb rfl) <| L_nil <| stepEnd rfl rfl (Ext.refl w137) ⟨fun h => absurd (b142.symm.trans h) (by decide), fun _ => rfl⟩
          · intro s151 w152 e153 hf154 hd155 hu156
            rcases bool_two (!(decide (((gt a0 x3_2).kind) = 4))) with b157 | b157
            · have g158 : (decide (((gt a0 x3_2).kind) = 4)) = false := (not_f b157)
              have d159 : s151 21 = (.bool (decide (((gt a0 x3_2).kind) = 4))) := (hd155 6 rfl)
              have d160 : s151 21 = (.bool (decide (((gt a0 x3_2).kind) = 4))) := (hd155 6 rfl)
              have d161 : s151 25 = (.agg (encNd (gt a0 x3_2)).toArray) := ((hd155 10 rfl).1 (not_mk (not_f b157)))
              exact L_callP (.guard 6 false 21 rfl rfl (ltb rfl) (d159.trans (congrArg Value.bool g158))) rfl (ltb rfl) rfl Tryd.call123 (spec_l04Record.calls (w := w152) (a0 := gt a0 x3_2)) (cons2 d161 rfl) <| fun w162 e163 => L_nil <| stepEnd rfl rfl e163 ⟨fun _ => rfl, fun h => absurd (b157.symm.trans h) (by decide)⟩
            · have d164 : s151 21 = (.bool (decide (((gt a0 x3_2).kind) = 4))) := (hd155 6 rfl)
              have g165 : (decide (((gt a0 x3_2).kind) = 4)) = true := (not_ff b157)
              exact L_skip rfl rfl (ltb rfl) (d164.trans (congrArg Value.bool g165)) rfl rfl (ltb rfl) <| L_nil <| stepEnd rfl rfl (Ext.refl w152) ⟨fun h => absurd (b157.symm.trans h) (by decide), fun _ => rfl⟩
          · intro s166 w167 e168 hf169 hd170 hu171
            rcases bool_two (!(decide (((gt a0 x3_2).kind) = 4))) with b172 | b172
            · have g173 : (decide (((gt a0 x3_2).kind) = 4)) = false := (not_f b172)
              have d174 : s166 21 = (.bool (decide (((gt a0 x3_2).kind) = 4))) := (hd170 6 rfl)
              have d175 : s166 21 = (.bool (decide (((gt a0 x3_2).kind) = 4))) := (hd170 6 rfl)
              have d176 : s166 26 = (.agg (encRec (recOf (gt a0 x3_2))).toArray) := ((hd170 11 rfl).1 (not_mk (not_f b172)))
              exact L_callP (.guard 6 false 21 rfl rfl (ltb rfl) (d174.trans (congrArg Value.bool g173))) rfl (ltb rfl) rfl Tryd.call122 (spec_l02OK.calls (w := w167) (a0 := (recOf (gt a0 x3_2)))) (cons2 d176 rfl) <| fun w177 e178 => L_nil <| stepEnd rfl rfl e178 ⟨fun _ => rfl, fun h => absurd (b172.symm.trans h) (by decide)⟩
            · have d179 : s166 21 = (.bool (decide (((gt a0 x3_2).kind) = 4))) := (hd170 6 rfl)
              have g180 : (decide (((gt a0 x3_2).kind) = 4)) = true := (not_ff b172)
              exact L_skip rfl rfl (ltb rfl) (d179.trans (congrArg Value.bool g180)) rfl rfl (ltb rfl) <| L_nil <| stepEnd rfl rfl (Ext.refl w167) ⟨fun h => absurd (b172.symm.trans h) (by decide), fun _ => rfl⟩
          · intro s181 w182 e183 hf184 hd185 hu186
            rcases bool_two (!(decide (((gt a0 x3_2).kind) = 4))) with b187 | b187
            · have g188 : (decide (((gt a0 x3_2).kind) = 4)) = false := (not_f b187)
              have d189 : s181 21 = (.bool (decide (((gt a0 x3_2).kind) = 4))) := (hd185 6 rfl)
              have d190 : s181 21 = (.bool (decide (((gt a0 x3_2).kind) = 4))) := (hd185 6 rfl)
              have d191 : s181 27 = (.bool (decide (recFault (recOf (gt a0 x3_2)) = 0))) := ((hd185 12 rfl).1 (not_mk (not_f b187)))
              exact L_op (.guard 6 false 21 rfl rfl (ltb rfl) (d189.trans (congrArg Value.bool g188))) rfl (ltb rfl) (X_not d191) <| L_nil <| stepEnd rfl rfl (Ext.refl w182) ⟨fun _ => rfl, fun h => absurd (b187.symm.trans h) (by decide)⟩
            · have d192 : s181 21 = (.bool (decide (((gt a0 x3_2).kind) = 4))) := (hd185 6 rfl)
              have g193 : (decide (((gt a0 x3_2).kind) = 4)) = true := (not_ff b187)
              exact L_skip rfl rfl (ltb rfl) (d192.trans (congrArg Value.bool g193)) rfl rfl (ltb rfl) <| L_nil <| stepEnd rfl rfl (Ext.refl w182) ⟨fun h => absurd (b187.symm.trans h) (by decide), fun _ => rfl⟩
          · intro s194 w195 e196 hf197 hd198 hu199
            rcases bool_two (decide (((gt a0 x3_2).kind) = 4)) with b200 | b200
            · have d201 : s194 21 = (.bool (decide (((gt a0 x3_2).kind) = 4))) := (hd198 6 rfl)
              exact L_op (.plain rfl) rfl (ltb rfl) (X_pick (b := true) (v := (.bool true)) (d201.trans (congrArg Value.bool b200)) rfl) <| L_nil <| stepEnd rfl rfl (Ext.refl w195) (or_t b200)
            · have d202 : s194 21 = (.bool (decide (((gt a0 x3_2).kind) = 4))) := (hd198 6 rfl)
              have d203 : s194 28 = (.bool (!(decide (recFault (recOf (gt a0 x3_2)) = 0)))) := ((hd198 13 rfl).1 (not_mk b200))
              exact L_op (.plain rfl) rfl (ltb rfl) (X_pick (b := false) (v := (.bool (!(decide (recFault (recOf (gt a0 x3_2)) = 0))))) (d202.trans (congrArg Value.bool b200)) d203) <| L_nil <| stepEnd rfl rfl (Ext.refl w195) (or_f b200)
          · intro s204 w205 e206 hf207 hd208 hu209
            have d210 : s204 29 = (.bool (spec_l04OK.e1 a0 x3_2)) := (hd208 14 rfl)
            exact L_op (.plain rfl) rfl (ltb rfl) (X_move d210) <| L_nil <| stepEnd rfl rfl (Ext.refl w205) rfl
          · intro s211 w212 e213 hf214 hd215 hu216
            rcases bool_two (!(spec_l04OK.e1 a0 x3_2)) with b217 | b217
            · have g218 : (spec_l04OK.e1 a0 x3_2) = false := (not_f b217)
              have d219 : s211 30 = (.bool (spec_l04OK.e1 a0 x3_2)) := (hd215 15 rfl)
              have d220 : s211 30 = (.bool (spec_l04OK.e1 a0 x3_2)) := (hd215 15 rfl)
              exact L_op (.guard 15 false 30 rfl rfl (ltb rfl) (d219.trans (congrArg Value.bool g218))) rfl (ltb rfl) (X_move (v := (.int .i64 x3_2)) ((hf214 3 rfl).trans h16)) <| L_nil <| stepEnd rfl rfl (Ext.refl w212) ⟨fun _ => rfl, fun h => absurd (b217.symm.trans h) (by decide)⟩
            · have d221 : s211 30 = (.bool (spec_l04OK.e1 a0 x3_2)) := (hd215 15 rfl)
              have g222 : (spec_l04OK.e1 a0 x3_2) = true := (not_ff b217)
              exact L_skip rfl rfl (ltb rfl) (d221.trans (congrArg Value.bool g222)) rfl rfl (ltb rfl) <| L_nil <| stepEnd rfl rfl (Ext.refl w212) ⟨fun h => absurd (b217.symm.trans h) (by decide), fun _ => rfl⟩
          · intro s223 w224 e225 hf226 hd227 hu228
            rcases bool_two (!(spec_l04OK.e1 a0 x3_2)) with b229 | b229
            · have g230 : (spec_l04OK.e1 a0 x3_2) = false := (not_f b229)
              have d231 : s223 30 = (.bool (spec_l04OK.e1 a0 x3_2)) := (hd227 15 rfl)
              have d232 : s223 30 = (.bool (spec_l04OK.e1 a0 x3_2)) := (hd227 15 rfl)
              have d233 : s223 31 = (.int .i64 x3_2) := ((hd227 16 rfl).1 (not_mk (not_f b229)))
              exact L_op (.guard 15 false 30 rfl rfl (ltb rfl) (d231.trans (congrArg Value.bool g230))) rfl (ltb rfl) (X_gtr d233 rfl) <| L_nil <| stepEnd rfl rfl (Ext.refl w224) ⟨fun _ => rfl, fun h => absurd (b229.symm.trans h) (by decide)⟩
            · have d234 : s223 30 = (.bool (spec_l04OK.e1 a0 x3_2)) := (hd227 15 rfl)
              have g235 : (spec_l04OK.e1 a0 x3_2) = true := (not_ff b229)
              exact L_skip rfl rfl (ltb rfl) (d234.trans (congrArg Value.bool g235)) rfl rfl (ltb rfl) <| L_nil <| stepEnd rfl rfl (Ext.refl w224) ⟨fun h => absurd (b229.symm.trans h) (by decide), fun _ => rfl⟩
          · intro s236 w237 e238 hf239 hd240 hu241
            rcases bool_two (!(spec_l04OK.e1 a0 x3_2)) with b242 | b242
            · have g243 : (spec_l04OK.e1 a0 x3_2) = false := (not_f b242)
              have d244 : s236 30 = (.bool (spec_l04OK.e1 a0 x3_2)) := (hd240 15 rfl)
              have d245 : s236 30 = (.bool (spec_l04OK.e1 a0 x3_2)) := (hd240 15 rfl)
              have d246 : s236 32 = (.bool (decide (0 < x3_2))) := ((hd240 17 rfl).1 (not_mk (not_f b242)))
              exact L_op (.guard 15 false 30 rfl rfl (ltb rfl) (d244.trans (congrArg Value.bool g243))) rfl (ltb rfl) (X_move (v := (.bool (decide (0 < x3_2)))) d246) <| L_nil <| stepEnd rfl rfl (Ext.refl w237) ⟨fun _ => rfl, fun h => absurd (b242.symm.trans h) (by decide)⟩
            · have d247 : s236 30 = (.bool (spec_l04OK.e1 a0 x3_2)) := (hd240 15 rfl)
              have g248 : (spec_l04OK.e1 a0 x3_2) = true := (not_ff b242)
              exact L_skip rfl rfl (ltb rfl) (d247.trans (congrArg Value.bool g248)) rfl rfl (ltb rfl) <| L_nil <| stepEnd rfl rfl (Ext.refl w237) ⟨fun h => absurd (b242.symm.trans h) (by decide), fun _ => rfl⟩
          · intro s249 w250 e251 hf252 hd253 hu254
            rcases bool_two (spec_l04OK.e2 a0 x3_2) with b255 | b255
            · have g256 : (decide (0 < x3_2)) = true := (and_r b255)
              have d257 : s249 33 = (.bool (decide (0 < x3_2))) := ((hd253 18 rfl).1 (not_mk (not_f (and_l b255))))
              have d258 : s249 33 = (.bool (decide (0 < x3_2))) := ((hd253 18 rfl).1 (not_mk (not_f (and_l b255))))
              exact L_op (.guard 18 true 33 rfl rfl (ltb rfl) (d257.trans (congrArg Value.bool g256))) rfl (ltb rfl) (X_move (v := v_a0) ((hf252 0 rfl).trans (K13 0 rfl))) <| L_nil <| stepEnd rfl rfl (Ext.refl w250) ⟨fun _ => rfl, fun h => absurd (b255.symm.trans h) (by decide)⟩
            · rcases bool_two (!(spec_l04OK.e1 a0 x3_2)) with b259 | b259
              · have d260 : s249 33 = (.bool (decide (0 < x3_2))) := ((hd253 18 rfl).1 (not_mk (not_f b259)))
                have g261 : (decide (0 < x3_2)) = false := (and_fr b255 b259)
                exact L_skip rfl rfl (ltb rfl) (d260.trans (congrArg Value.bool g261)) rfl rfl (ltb rfl) <| L_nil <| stepEnd rfl rfl (Ext.refl w250) ⟨fun h => absurd (b255.symm.trans h) (by decide), fun _ => rfl⟩
              · exact L_skipU rfl rfl (ltb rfl) ((hd253 18 rfl).2 b259) rfl (ltb rfl) <| L_nil <| stepEnd rfl rfl (Ext.refl w250) ⟨fun h => absurd (b255.symm.trans h) (by decide), fun _ => rfl⟩
          · intro s262 w263 e264 hf265 hd266 hu267
            rcases bool_two (spec_l04OK.e2 a0 x3_2) with b268 | b268
            · have g269 : (decide (0 < x3_2)) = true := (and_r b268)
              have d270 : s262 33 = (.bool (decide (0 < x3_2))) := ((hd266 18 rfl).1 (not_mk (not_f (and_l b268))))
              have d271 : s262 33 = (.bool (decide (0 < x3_2))) := ((hd266 18 rfl).1 (not_mk (not_f (and_l b268))))
              exact L_op (.guard 18 true 33 rfl rfl (ltb rfl) (d270.trans (congrArg Value.bool g269))) rfl (ltb rfl) (X_move (v := (.int .i64 x3_2)) ((hf265 3 rfl).trans h16)) <| L_nil <| stepEnd rfl rfl (Ext.refl w263) ⟨fun _ => rfl, fun h => absurd (b268.symm.trans h) (by decide)⟩
            · rcases bool_two (!(spec_l04OK.e1 a0 x3_2)) with b272 | b272
              · have d273 : s262 33 = (.bool (decide (0 < x3_2))) := ((hd266 18 rfl).1 (not_mk (not_f b272)))
                have g274 : (decide (0 < x3_2)) = false := (and_fr b268 b272)
                exact L_skip rfl rfl (ltb rfl) (d273.trans (congrArg Value.bool g274)) rfl rfl (ltb rfl) <| L_nil <| stepEnd rfl rfl (Ext.refl w263) ⟨fun h => absurd (b268.symm.trans h) (by decide), fun _ => rfl⟩
              · exact L_skipU rfl rfl (ltb rfl) ((hd266 18 rfl).2 b272) rfl (ltb rfl) <| L_nil <| stepEnd rfl rfl (Ext.refl w263) ⟨fun h => absurd (b268.symm.trans h) (by decide), fun _ => rfl⟩
          · intro s275 w276 e277 hf278 hd279 hu280
            rcases bool_two (spec_l04OK.e2 a0 x3_2) with b281 | b281
            · have g282 : (decide (0 < x3_2)) = true := (and_r b281)
              have d283 : s275 33 = (.bool (decide (0 < x3_2))) := ((hd279 18 rfl).1 (not_mk (not_f (and_l b281))))
              have d284 : s275 33 = (.bool (decide (0 < x3_2))) := ((hd279 18 rfl).1 (not_mk (not_f (and_l b281))))
              have d285 : s275 35 = (.int .i64 x3_2) := ((hd279 20 rfl).1 (and_mk (not_mk (not_f (and_l b281))) (and_r b281)))
              exact L_op (.guard 18 true 33 rfl rfl (ltb rfl) (d283.trans (congrArg Value.bool g282))) rfl (ltb rfl) (X_sub d285 rfl) <| L_nil <| stepEnd rfl rfl (Ext.refl w276) ⟨fun _ => rfl, fun h => absurd (b281.symm.trans h) (by decide)⟩
            · rcases bool_two (!(spec_l04OK.e1 a0 x3_2)) with b286 | b286
              · have d287 : s275 33 = (.bool (decide (0 < x3_2))) := ((hd279 18 rfl).1 (not_mk (not_f b286)))
                have g288 : (decide (0 < x3_2)) = false := (and_fr b281 b286)
                exact L_skip rfl rfl (ltb rfl) (d287.trans (congrArg Value.bool g288)) rfl rfl (ltb rfl) <| L_nil <| stepEnd rfl rfl (Ext.refl w276) ⟨fun h => absurd (b281.symm.trans h) (by decide), fun _ => rfl⟩
              · exact L_skipU rfl rfl (ltb rfl) ((hd279 18 rfl).2 b286) rfl (ltb rfl) <| L_nil <| stepEnd rfl rfl (Ext.refl w276) ⟨fun h => absurd (b281.symm.trans h) (by decide), fun _ => rfl⟩
          · intro s289 w290 e291 hf292 hd293 hu294
            rcases bool_two (spec_l04OK.e2 a0 x3_2) with b295 | b295
            · have g296 : (decide (0 < x3_2)) = true := (and_r b295)
              have d297 : s289 33 = (.bool (decide (0 < x3_2))) := ((hd293 18 rfl).1 (not_mk (not_f (and_l b295))))
              have d298 : s289 33 = (.bool (decide (0 < x3_2))) := ((hd293 18 rfl).1 (not_mk (not_f (and_l b295))))
              have d299 : s289 34 = v_a0 := ((hd293 19 rfl).1 (and_mk (not_mk (not_f (and_l b295))) (and_r b295)))
              have d300 : s289 36 = (.int .i64 (IntKind.wrap .i64 (x3_2 - 1))) := ((hd293 21 rfl).1 (and_mk (not_mk (not_f (and_l b295))) (and_r b295)))
              have c301 := imp_take b295 c30
              exact L_idx (.guard 18 true 33 rfl rfl (ltb rfl) (d297.trans (congrArg Value.bool g296))) rfl (ltb rfl) rfl Tryd.underlying43 Tryd.sizeOf40 d299 (Rd.ext f_a0 (Ext.trans e14 e291)) d300 c301 <| fun p302 h303 => L_nil <| stepEnd rfl rfl (Ext.refl w290) ⟨fun _ => ⟨_, rfl, h303⟩, fun h => absurd (b295.symm.trans h) (by decide)⟩
            · rcases bool_two (!(spec_l04OK.e1 a0 x3_2)) with b304 | b304
              · have d305 : s289 33 = (.bool (decide (0 < x3_2))) := ((hd293 18 rfl).1 (not_mk (not_f b304)))
                have g306 : (decide (0 < x3_2)) = false := (and_fr b295 b304)
                exact L_skip rfl rfl (ltb rfl) (d305.trans (congrArg Value.bool g306)) rfl rfl (ltb rfl) <| L_nil <| stepEnd rfl rfl (Ext.refl w290) ⟨fun h => absurd (b295.symm.trans h) (by decide), fun _ => rfl⟩
              · exact L_skipU rfl rfl (ltb rfl) ((hd293 18 rfl).2 b304) rfl (ltb rfl) <| L_nil <| stepEnd rfl rfl (Ext.refl w290) ⟨fun h => absurd (b295.symm.trans h) (by decide), fun _ => rfl⟩
          · intro s307 w308 e309 hf310 hd311 hu312
            rcases bool_two (spec_l04OK.e2 a0 x3_2) with b313 | b313
            · have g314 : (decide (0 < x3_2)) = true := (and_r b313)
              have d315 : s307 33 = (.bool (decide (0 < x3_2))) := ((hd311 18 rfl).1 (not_mk (not_f (and_l b313))))
              have d316 : s307 33 = (.bool (decide (0 < x3_2))) := ((hd311 18 rfl).1 (not_mk (not_f (and_l b313))))
              obtain ⟨p317, h318, h319⟩ := ((hd311 22 rfl).1 (and_mk (not_mk (not_f (and_l b313))) (and_r b313)))
              exact L_op (.guard 18 true 33 rfl rfl (ltb rfl) (d315.trans (congrArg Value.bool g314))) rfl (ltb rfl) (X_fieldAddr Tryd.underlying40 rfl Tryd.sizeOf9 rfl h318) <| L_nil <| stepEnd rfl rfl (Ext.refl w308) ⟨fun _ => ⟨_, rfl, h319⟩, fun h => absurd (b313.symm.trans h) (by decide)⟩
            · rcases bool_two (!(spec_l04OK.e1 a0 x3_2)) with b320 | b320
              · have d321 : s307 33 = (.bool (decide (0 < x3_2))) := ((hd311 18 rfl).1 (not_mk (not_f b320)))
                have g322 : (decide (0 < x3_2)) = false := (and_fr b313 b320)
                exact L_skip rfl rfl (ltb rfl) (d321.trans (congrArg Value.bool g322)) rfl rfl (ltb rfl) <| L_nil <| stepEnd rfl rfl (Ext.refl w308) ⟨fun h => absurd (b313.symm.trans h) (by decide), fun _ => rfl⟩
              · exact L_skipU rfl rfl (ltb rfl) ((hd311 18 rfl).2 b320) rfl (ltb rfl) <| L_nil <| stepEnd rfl rfl (Ext.refl w308) ⟨fun h => absurd (b313.symm.trans h) (by decide), fun _ => rfl⟩
          · intro s323 w324 e325 hf326 hd327 hu328
            rcases bool_two (spec_l04OK.e2 a0 x3_2) with b329 | b329
            · have g330 : (decide (0 < x3_2)) = true := (and_r b329)
              have d331 : s323 33 = (.bool (decide (0 < x3_2))) := ((hd327 18 rfl).1 (not_mk (not_f (and_l b329))))
              have d332 : s323 33 = (.bool (decide (0 < x3_2))) := ((hd327 18 rfl).1 (not_mk (not_f (and_l b329))))
              obtain ⟨p333, h334, h335⟩ := ((hd327 23 rfl).1 (and_mk (not_mk (not_f (and_l b329))) (and_r b329)))
              exact L_op (.guard 18 true 33 rfl rfl (ltb rfl) (d331.trans (congrArg Value.bool g330))) rfl (ltb rfl) (X_loadF Tryd.isAgg9 (j := 1) h335 h334 rfl) <| L_nil <| stepEnd rfl rfl (Ext.refl w324) ⟨fun _ => rfl, fun h => absurd (b329.symm.trans h) (by decide)⟩
            · rcases bool_two (!(spec_l04OK.e1 a0 x3_2)) with b336 | b336
              · have d337 : s323 33 = (.bool (decide (0 < x3_2))) := ((hd327 18 rfl).1 (not_mk (not_f b336)))
                have g338 : (decide (0 < x3_2)) = false := (and_fr b329 b336)
                exact L_skip rfl rfl (ltb rfl) (d337.trans (congrArg Value.bool g338)) rfl rfl (ltb rfl) <| L_nil <| stepEnd rfl rfl (Ext.refl w324) ⟨fun h => absurd (b329.symm.trans h) (by decide), fun _ => rfl⟩
              · exact L_skipU rfl rfl (ltb rfl) ((hd327 18 rfl).2 b336) rfl (ltb rfl) <| L_nil <| stepEnd rfl rfl (Ext.refl w324) ⟨fun h => absurd (b329.symm.trans h) (by decide), fun _ => rfl⟩
          · intro s339 w340 e341 hf342 hd343 hu344
            rcases bool_two (spec_l04OK.e2 a0 x3_2) with b345 | b345
            · have g346 : (decide (0 < x3_2)) = true := (and_r b345)
              have d347 : s339 33 = (.bool (decide (0 < x3_2))) := ((hd343 18 rfl).1 (not_mk (not_f (and_l b345))))
              have d348 : s339 33 = (.bool (decide (0 < x3_2))) := ((hd343 18 rfl).1 (not_mk (not_f (and_l b345))))
              exact L_op (.guard 18 true 33 rfl rfl (ltb rfl) (d347.trans (congrArg Value.bool g346))) rfl (ltb rfl) (X_move (v := v_a0) ((hf342 0 rfl).trans (K13 0 rfl))) <| L_nil <| stepEnd rfl rfl (Ext.refl w340) ⟨fun _ => rfl, fun h => absurd (b345.symm.trans h) (by decide)⟩
            · rcases bool_two (!(spec_l04OK.e1 a0 x3_2)) with b349 | b349
              · have d350 : s339 33 = (.bool (decide (0 < x3_2))) := ((hd343 18 rfl).1 (not_mk (not_f b349)))
                have g351 : (decide (0 < x3_2)) = false := (and_fr b345 b349)
                exact L_skip rfl rfl (ltb rfl) (d350.trans (congrArg Value.bool g351)) rfl rfl (ltb rfl) <| L_nil <| stepEnd rfl rfl (Ext.refl w340) ⟨fun h => absurd (b345.symm.trans h) (by decide), fun _ => rfl⟩
              · exact L_skipU rfl rfl (ltb rfl) ((hd343 18 rfl).2 b349) rfl (ltb rfl) <| L_nil <| stepEnd rfl rfl (Ext.refl w340) ⟨fun h => absurd (b345.symm.trans h) (by decide), fun _ => rfl⟩
          · intro s352 w353 e354 hf355 hd356 hu357
            rcases bool_two (spec_l04OK.e2 a0 x3_2) with b358 | b358
            · have g359 : (decide (0 < x3_2)) = true := (and_r b358)
              have d360 : s352 33 = (.bool (decide (0 < x3_2))) := ((hd356 18 rfl).1 (not_mk (not_f (and_l b358))))
              have d361 : s352 33 = (.bool (decide (0 < x3_2))) := ((hd356 18 rfl).1 (not_mk (not_f (and_l b358))))
              exact L_op (.guard 18 true 33 rfl rfl (ltb rfl) (d360.trans (congrArg Value.bool g359))) rfl (ltb rfl) (X_move (v := (.int .i64 x3_2)) ((hf355 3 rfl).trans h16)) <| L_nil <| stepEnd rfl rfl (Ext.refl w353) ⟨fun _ => rfl, fun h => absurd (b358.symm.trans h) (by decide)⟩
            · rcases bool_two (!(spec_l04OK.e1 a0 x3_2)) with b362 | b362
              · have d363 : s352 33 = (.bool (decide (0 < x3_2))) := ((hd356 18 rfl).1 (not_mk (not_f b362)))
                have g364 : (decide (0 < x3_2)) = false := (and_fr b358 b362)
                exact L_skip rfl rfl (ltb rfl) (d363.trans (congrArg Value.bool g364)) rfl rfl (ltb rfl) <| L_nil <| stepEnd rfl rfl (Ext.refl w353) ⟨fun h => absurd (b358.symm.trans h) (by decide), fun _ => rfl⟩
              · exact L_skipU rfl rfl (ltb rfl) ((hd356 18 rfl).2 b362) rfl (ltb rfl) <| L_nil <| stepEnd rfl rfl (Ext.refl w353) ⟨fun h => absurd (b358.symm.trans h) (by decide), fun _ => rfl⟩
          · intro s365 w366 e367 hf368 hd369 hu370
            rcases bool_two (spec_l04OK.e2 a0 x3_2) with b371 | b371
            · have g372 : (decide (0 < x3_2)) = true := (and_r b371)
              have d373 : s365 33 = (.bool (decide (0 < x3_2))) := ((hd369 18 rfl).1 (not_mk (not_f (and_l b371))))
              have d374 : s365 33 = (.bool (decide (0 < x3_2))) := ((hd369 18 rfl).1 (not_mk (not_f (and_l b371))))
              have d375 : s365 40 = v_a0 := ((hd369 25 rfl).1 (and_mk (not_mk (not_f (and_l b371))) (and_r b371)))
              have d376 : s365 41 = (.int .i64 x3_2) := ((hd369 26 rfl).1 (and_mk (not_mk (not_f (and_l b371))) (and_r b371)))
              have c377 := imp_take b371 c33
              exact L_idx (.guard 18 true 33 rfl rfl (ltb rfl) (d373.trans (congrArg Value.bool g372))) rfl (ltb rfl) rfl Tryd.underlying43 Tryd.sizeOf40 d375 (Rd.ext f_a0 (Ext.trans e14 e367)) d376 c377 <| fun p378 h379 => L_nil <| stepEnd rfl rfl (Ext.refl w366) ⟨fun _ => ⟨_, rfl, h379⟩, fun h => absurd (b371.symm.trans h) (by decide)⟩
            · rcases bool_two (!(spec_l04OK.e1 a0 x3_2)) with b380 | b380
              · have d381 : s365 33 = (.bool (decide (0 < x3_2))) := ((hd369 18 rfl).1 (not_mk (not_f b380)))
                have g382 : (decide (0 < x3_2)) = false := (and_fr b371 b380)
                exact L_skip rfl rfl (ltb rfl) (d381.trans (congrArg Value.bool g382)) rfl rfl (ltb rfl) <| L_nil <| stepEnd rfl rfl (Ext.refl w366) ⟨fun h => absurd (b371.symm.trans h) (by decide), fun _ => rfl⟩
              · exact L_skipU rfl rfl (ltb rfl) ((hd369 18 rfl).2 b380) rfl (ltb rfl) <| L_nil <| stepEnd rfl rfl (Ext.refl w366) ⟨fun h => absurd (b371.symm.trans h) (by decide), fun _ => rfl⟩
          · intro s383 w384 e385 hf386 hd387 hu388
            rcases bool_two (spec_l04OK.e2 a0 x3_2) with b389 | b389
            · have g390 : (decide (0 < x3_2)) = true := (and_r b389)
              have d391 : s383 33 = (.bool (decide (0 < x3_2))) := ((hd387 18 rfl).1 (not_mk (not_f (and_l b389))))
              have d392 : s383 33 = (.bool (decide (0 < x3_2))) := ((hd387 18 rfl).1 (not_mk (not_f (and_l b389))))
              obtain ⟨p393, h394, h395⟩ := ((hd387 27 rfl).1 (and_mk (not_mk (not_f (and_l b389))) (and_r b389)))
              exact L_op (.guard 18 true 33 rfl rfl (ltb rfl) (d391.trans (congrArg Value.bool g390))) rfl (ltb rfl) (X_fieldAddr Tryd.underlying40 rfl Tryd.sizeOf9 rfl h394) <| L_nil <| stepEnd rfl rfl (Ext.refl w384) ⟨fun _ => ⟨_, rfl, h395⟩, fun h => absurd (b389.symm.trans h) (by decide)⟩
            · rcases bool_two (!(spec_l04OK.e1 a0 x3_2)) with b396 | b396
              · have d397 : s383 33 = (.bool (decide (0 < x3_2))) := ((hd387 18 rfl).1 (not_mk (not_f b396)))
                have g398 : (decide (0 < x3_2)) = false := (and_fr b389 b396)
                exact L_skip rfl rfl (ltb rfl) (d397.trans (congrArg Value.bool g398)) rfl rfl (ltb rfl) <| L_nil <| stepEnd rfl rfl (Ext.refl w384) ⟨fun h => absurd (b389.symm.trans h) (by decide), fun _ => rfl⟩
              · exact L_skipU rfl rfl (ltb rfl) ((hd387 18 rfl).2 b396) rfl (ltb rfl) <| L_nil <| stepEnd rfl rfl (Ext.refl w384) ⟨fun h => absurd (b389.symm.trans h) (by decide), fun _ => rfl⟩
          · intro s399 w400 e401 hf402 hd403 hu404
            rcases bool_two (spec_l04OK.e2 a0 x3_2) with b405 | b405
            · have g406 : (decide (0 < x3_2)) = true := (and_r b405)
              have d407 : s399 33 = (.bool (decide (0 < x3_2))) := ((hd403 18 rfl).1 (not_mk (not_f (and_l b405))))
              have d408 : s399 33 = (.bool (decide (0 < x3_2))) := ((hd403 18 rfl).1 (not_mk (not_f (and_l b405))))
              obtain ⟨p409, h410, h411⟩ := ((hd403 28 rfl).1 (and_mk (not_mk (not_f (and_l b405))) (and_r b405)))
              exact L_op (.guard 18 true 33 rfl rfl (ltb rfl) (d407.trans (congrArg Value.bool g406))) rfl (ltb rfl) (X_loadF Tryd.isAgg9 (j := 1) h411 h410 rfl) <| L_nil <| stepEnd rfl rfl (Ext.refl w400) ⟨fun _ => rfl, fun h => absurd (b405.symm.trans h) (by decide)⟩
            · rcases bool_two (!(spec_l04OK.e1 a0 x3_2)) with b412 | b412
              · have d413 : s399 33 = (.bool (decide (0 < x3_2))) := ((hd403 18 rfl).1 (not_mk (not_f b412)))
                have g414 : (decide (0 < x3_2)) = false := (and_fr b405 b412)
                exact L_skip rfl rfl (ltb rfl) (d413.trans (congrArg Value.bool g414)) rfl rfl (ltb rfl) <| L_nil <| stepEnd rfl rfl (Ext.refl w400) ⟨fun h => absurd (b405.symm.trans h) (by decide), fun _ => rfl⟩
              · exact L_skipU rfl rfl (ltb rfl) ((hd403 18 rfl).2 b412) rfl (ltb rfl) <| L_nil <| stepEnd rfl rfl (Ext.refl w400) ⟨fun h => absurd (b405.symm.trans h) (by decide), fun _ => rfl⟩
          · intro s415 w416 e417 hf418 hd419 hu420
            rcases bool_two (spec_l04OK.e2 a0 x3_2) with b421 | b421
            · have g422 : (decide (0 < x3_2)) = true := (and_r b421)
              have d423 : s415 33 = (.bool (decide (0 < x3_2))) := ((hd419 18 rfl).1 (not_mk (not_f (and_l b421))))
              have d424 : s415 33 = (.bool (decide (0 < x3_2))) := ((hd419 18 rfl).1 (not_mk (not_f (and_l b421))))
              have d425 : s415 39 = (S ((gt a0 (IntKind.wrap .i64 (x3_2 - 1))).path)) := ((hd419 24 rfl).1 (and_mk (not_mk (not_f (and_l b421))) (and_r b421)))
              have d426 : s415 44 = (S ((gt a0 x3_2).path)) := ((hd419 29 rfl).1 (and_mk (not_mk (not_f (and_l b421))) (and_r b421)))
              have c427 := imp_take b421 c36
              have c428 := imp_take b421 c37
              exact L_callP (.guard 18 true 33 rfl rfl (ltb rfl) (d423.trans (congrArg Value.bool g422))) rfl (ltb rfl) rfl Tryd.call124 (spec_l01Less.calls (w := w416) (a0 := (gt a0 (IntKind.wrap .i64 (x3_2 - 1))).path) (a1 := (gt a0 x3_2).path) (of_decide_eq_true c427) (of_decide_eq_true c428)) (cons2 d425 (cons2 d426 rfl)) <| fun w429 e430 => L_nil <| stepEnd rfl rfl e430 ⟨fun _ => rfl, fun h => absurd (b421.symm.trans h) (by decide)⟩
            · rcases bool_two (!(spec_l04OK.e1 a0 x3_2)) with b431 | b431
              · have d432 : s415 33 = (.bool (decide (0 < x3_2))) := ((hd419 18 rfl).1 (not_mk (not_f b431)))
                have g433 : (decide (0 < x3_2)) = false := (and_fr b421 b431)
                exact L_skip rfl rfl (ltb rfl) (d432.trans (congrArg Value.bool g433)) rfl rfl (ltb rfl) <| L_nil <| stepEnd rfl rfl (Ext.refl w416) ⟨fun h => absurd (b421.symm.trans h) (by decide), fun _ => rfl⟩
              · exact L_skipU rfl rfl (ltb rfl) ((hd419 18 rfl).2 b431) rfl (ltb rfl) <| L_nil <| stepEnd rfl rfl (Ext.refl w416) ⟨fun h => absurd (b421.symm.trans h) (by decide), fun _ => rfl⟩
          · intro s434 w435 e436 hf437 hd438 hu439
            rcases bool_two (spec_l04OK.e2 a0 x3_2) with b440 | b440
            · have g441 : (decide (0 < x3_2)) = true := (and_r b440)
              have d442 : s434 33 = (.bool (decide (0 < x3_2))) := ((hd438 18 rfl).1 (not_mk (not_f (and_l b440))))
              have d443 : s434 33 = (.bool (decide (0 < x3_2))) := ((hd438 18 rfl).1 (not_mk (not_f (and_l b440))))
              have d444 : s434 45 = (.bool (spec_l04OK.e3 a0 x3_2)) := ((hd438 30 rfl).1 (and_mk (not_mk (not_f (and_l b440))) (and_r b440)))
              exact L_op (.guard 18 true 33 rfl rfl (ltb rfl) (d442.trans (congrArg Value.bool g441))) rfl (ltb rfl) (X_not d444) <| L_nil <| stepEnd rfl rfl (Ext.refl w435) ⟨fun _ => rfl, fun h => absurd (b440.symm.trans h) (by decide)⟩
            · rcases bool_two (!(spec_l04OK.e1 a0 x3_2)) with b445 | b445
              · have d446 : s434 33 = (.bool (decide (0 < x3_2))) := ((hd438 18 rfl).1 (not_mk (not_f b445)))
                have g447 : (decide (0 < x3_2)) = false := (and_fr b440 b445)
                exact L_skip rfl rfl (ltb rfl) (d446.trans (congrArg Value.bool g447)) rfl rfl (ltb rfl) <| L_nil <| stepEnd rfl rfl (Ext.refl w435) ⟨fun h => absurd (b440.symm.trans h) (by decide), fun _ => rfl⟩
              · exact L_skipU rfl rfl (ltb rfl) ((hd438 18 rfl).2 b445) rfl (ltb rfl) <| L_nil <| stepEnd rfl rfl (Ext.refl w435) ⟨fun h => absurd (b440.symm.trans h) (by decide), fun _ => rfl⟩
          · intro s448 w449 e450 hf451 hd452 hu453
            rcases bool_two (!(spec_l04OK.e1 a0 x3_2)) with b454 | b454
            · have g455 : (spec_l04OK.e1 a0 x3_2) = false := (not_f b454)
              have d456 : s448 30 = (.bool (spec_l04OK.e1 a0 x3_2)) := (hd452 15 rfl)
              rcases bool_two (decide (0 < x3_2)) with b457 | b457
              · have d458 : s448 33 = (.bool (decide (0 < x3_2))) := ((hd452 18 rfl).1 (not_mk (not_f b454)))
                have d459 : s448 46 = (.bool (!(spec_l04OK.e3 a0 x3_2))) := ((hd452 31 rfl).1 (and_mk (not_mk (not_f b454)) b457))
                exact L_op (.guard 15 false 30 rfl rfl (ltb rfl) (d456.trans (congrArg Value.bool g455))) rfl (ltb rfl) (X_pick (b := true) (v := (.bool (!(spec_l04OK.e3 a0 x3_2)))) (d458.trans (congrArg Value.bool b457)) d459) <| L_nil <| stepEnd rfl rfl (Ext.refl w449) ⟨fun _ => (and_t b457), fun h => absurd (b454.symm.trans h) (by decide)⟩
              · have d460 : s448 33 = (.bool (decide (0 < x3_2))) := ((hd452 18 rfl).1 (not_mk (not_f b454)))
                exact L_op (.guard 15 false 30 rfl rfl (ltb rfl) (d456.trans (congrArg Value.bool g455))) rfl (ltb rfl) (X_pick (b := false) (v := (.bool false)) (d460.trans (congrArg Value.bool b457)) rfl) <| L_nil <| stepEnd rfl rfl (Ext.refl w449) ⟨fun _ => (and_f b457), fun h => absurd (b454.symm.trans h) (by decide)⟩
            · have d461 : s448 30 = (.bool (spec_l04OK.e1 a0 x3_2)) := (hd452 15 rfl)
              have g462 : (spec_l04OK.e1 a0 x3_2) = true := (not_ff b454)
              exact L_skip rfl rfl (ltb rfl) (d461.trans (congrArg Value.bool g462)) rfl rfl (ltb rfl) <| L_nil <| stepEnd rfl rfl (Ext.refl w449) ⟨fun h => absurd (b454.symm.trans h) (by decide), fun _ => rfl⟩
          · intro s463 w464 e465 hf466 hd467 hu468
            rcases bool_two (spec_l04OK.e1 a0 x3_2) with b469 | b469
            · have d470 : s463 30 = (.bool (spec_l04OK.e1 a0 x3_2)) := (hd467 15 rfl)
              exact L_op (.plain rfl) rfl (ltb rfl) (X_pick (b := true) (v := (.bool true)) (d470.trans (congrArg Value.bool b469)) rfl) <| L_nil <| stepEnd rfl rfl (Ext.refl w464) (or_t b469)
            · have d471 : s463 30 = (.bool (spec_l04OK.e1 a0 x3_2)) := (hd467 15 rfl)
              have d472 : s463 47 = (.bool ((decide (0 < x3_2)) && (!(spec_l04OK.e3 a0 x3_2)))) := ((hd467 32 rfl).1 (not_mk b469))
              exact L_op (.plain rfl) rfl (ltb rfl) (X_pick (b := false) (v := (.bool ((decide (0 < x3_2)) && (!(spec_l04OK.e3 a0 x3_2))))) (d471.trans (congrArg Value.bool b469)) d472) <| L_nil <| stepEnd rfl rfl (Ext.refl w464) (or_f b469)
          intro s473 w474 e475 hf476 ha477
          have K478 := Kp.ofD (kp := [(15, 49)]) rfl hf476
          have d479 : s473 48 = (.bool ((spec_l04OK.e1 a0 x3_2) || ((decide (0 < x3_2)) && (!(spec_l04OK.e3 a0 x3_2))))) := ha477 33 rfl
          clear ha477 hf476
          refine thn_n ?_
          rcases bif_two H with ⟨q480, H⟩ | ⟨q480, H⟩
          · refine W_true (d479.trans (congrArg Value.bool q480)) <| W_seq <| W_reg <| L_op (.plain rfl) rfl (ltb rfl) (X_assign (v := (.bool false)) rfl) <| L_nil <| thn_n <| W_ret <| thn_r <| blk_r <| thn_r <| thn_r <| blk_r <| thn_r <| thn_r <| fin_r ?_
            obtain rfl := Option.some.inj H
            obtain rfl := Option.some.inj S18
            have H := C5
            obtain rfl := Option.some.inj H
            exact fin1 rfl (Ext.trans e14 e475)
          · refine W_false (d479.trans (congrArg Value.bool q480)) <| W_skip <| thn_n <| W_seq <| W_reg <| L_op (.plain rfl) rfl (ltb rfl) (X_move (v := v_a0) ((K478 0 rfl).trans (K13 0 rfl))) <| L_op (.plain rfl) rfl (ltb rfl) (X_move (v := (.int .i64 x3_2)) ((K478 3 rfl).trans h16)) ?_
            obtain ⟨c481, H⟩ := bif_some H
            refine L_idx (.plain rfl) rfl (ltb rfl) rfl Tryd.underlying43 Tryd.sizeOf40 rfl (Rd.ext f_a0 (Ext.trans e14 e475)) rfl c481 <| fun p482 h483 => L_op (.plain rfl) rfl (ltb rfl) (X_fieldAddr Tryd.underlying40 rfl Tryd.sizeOf9 rfl rfl) <| L_op (.plain rfl) rfl (ltb rfl) (X_loadF Tryd.isAgg9 (j := 1) h483 rfl rfl) ?_
            obtain ⟨c484, H⟩ := bif_some H
            refine L_callP (.plain rfl) rfl (ltb rfl) rfl Tryd.call101 (spec_l01Parent.calls (w := w474) (a0 := (gt a0 x3_2).path) (of_decide_eq_true c484)) rfl <| fun w485 e486 => L_op (.plain rfl) rfl (ltb rfl) (X_assign (v := (S (parentP ((gt a0 x3_2).path)))) rfl) <| L_nil <| thn_n <| W_seq <| W_reg <| L_op (.plain rfl) rfl (ltb rfl) (X_move (v := (S (parentP ((gt a0 x3_2).path)))) rfl) <| L_op (.plain rfl) rfl (ltb rfl) (X_sne rfl rfl) <| L_nil <| thn_n ?_
            rcases bif_two H with ⟨q487, H⟩ | ⟨q487, H⟩
            · refine W_true (congrArg Value.bool q487) <| W_seq <| W_reg <| L_op (.plain rfl) rfl (ltb rfl) (X_move (v := v_a0) ((K478 0 rfl).trans (K13 0 rfl))) <| L_op (.plain rfl) rfl (ltb rfl) (X_move (v := (.int .i64 x3_2)) ((K478 3 rfl).trans h16)) ?_
              obtain ⟨c488, H⟩ := bif_some H
              refine L_sub (.plain rfl) rfl (ltb rfl) rfl Tryd.underlying43 Tryd.sizeOf40 rfl (Rd.ext f_a0 (Ext.trans (Ext.trans e14 e475) e486)) (l := 0) (h := x3_2) rfl ⟨_, rfl⟩ c488 <| fun v489 h490 => L_op (.plain rfl) rfl (ltb rfl) (X_move (v := (S (parentP ((gt a0 x3_2).path)))) rfl) ?_
              obtain ⟨c491, H⟩ := bif_some H
              refine L_callP (.plain rfl) rfl (ltb rfl) rfl Tryd.call115 (spec_l04At.calls (w := w485) (a0 := sub a0 0 x3_2) (a1 := (parentP ((gt a0 x3_2).path))) h490 (of_decide_eq_true c491)) rfl <| fun w492 e493 => L_op (.plain rfl) rfl (ltb rfl) (X_assign (v := (.int .i64 (findN (sub a0 0 x3_2) (parentP ((gt a0 x3_2).path))))) rfl) <| L_nil <| thn_n <| W_seq <| W_reg <| L_op (.plain rfl) rfl (ltb rfl) (X_move (v := (.int .i64 (findN (sub a0 0 x3_2) (parentP ((gt a0 x3_2).path))))) rfl) <| L_op (.plain rfl) rfl (ltb rfl) (X_lss rfl rfl) <| L_op (.plain rfl) rfl (ltb rfl) (X_move rfl) ?_
              obtain ⟨z495, x496, H⟩ := bind_some H
              refine L_grpE 7 [(65, 72)] 71 (fun q => q = z495) ?_ ?_
              · rcases bif_two x496 with ⟨b493_, H⟩ | ⟨b493_, H⟩
                · refine L_skip rfl rfl (ltb rfl) (congrArg Value.bool b493_) rfl rfl (ltb rfl) <| L_skip rfl rfl (ltb rfl) (congrArg Value.bool b493_) rfl rfl (ltb rfl) <| L_skip rfl rfl (ltb rfl) (congrArg Value.bool b493_) rfl rfl (ltb rfl) <| L_skip rfl rfl (ltb rfl) (congrArg Value.bool b493_) rfl rfl (ltb rfl) <| L_skip rfl rfl (ltb rfl) (congrArg Value.bool b493_) rfl rfl (ltb rfl) <| L_skip rfl rfl (ltb rfl) (congrArg Value.bool b493_) rfl rfl (ltb rfl) <| L_op (.plain rfl) rfl (ltb rfl) (X_pick (b := true) (v := (.bool true)) (congrArg Value.bool b493_) rfl) ?_
                  obtain rfl := Option.some.inj H
                  exact L_nil <| thn_n ⟨(Kp.upd (Kp.upd (Kp.upd (Kp.upd (Kp.upd (Kp.upd (Kp.upd (Kp.refl _ _) rfl) rfl) rfl) rfl) rfl) rfl) rfl), ⟨_, rfl, rfl⟩, (Ext.refl w492)⟩
                · refine L_op (.guard 2 false 64 rfl rfl (ltb rfl) (congrArg Value.bool b493_)) rfl (ltb rfl) (X_move (v := v_a0) ((K478 0 rfl).trans (K13 0 rfl))) <| L_op (.guard 2 false 64 rfl rfl (ltb rfl) (congrArg Value.bool b493_)) rfl (ltb rfl) (X_move (v := (.int .i64 (findN (sub a0 0 x3_2) (parentP ((gt a0 x3_2).path))))) rfl) ?_
                  obtain ⟨c495, H⟩ := bif_some H
                  refine L_idx (.guard 2 false 64 rfl rfl (ltb rfl) (congrArg Value.bool b493_)) rfl (ltb rfl) rfl Tryd.underlying43 Tryd.sizeOf40 rfl (Rd.ext f_a0 (Ext.trans (Ext.trans (Ext.trans e14 e475) e486) e493)) rfl c495 <| fun p496 h497 => L_op (.guard 2 false 64 rfl rfl (ltb rfl) (congrArg Value.bool b493_)) rfl (ltb rfl) (X_fieldAddr Tryd.underlying40 rfl Tryd.sizeOf3 rfl rfl) <| L_op (.guard 2 false 64 rfl rfl (ltb rfl) (congrArg Value.bool b493_)) rfl (ltb rfl) (X_loadF Tryd.isAgg3 (j := 0) h497 rfl rfl) <| L_op (.guard 2 false 64 rfl rfl (ltb rfl) (congrArg Value.bool b493_)) rfl (ltb rfl) (X_neq rfl rfl) <| L_op (.plain rfl) rfl (ltb rfl) (X_pick (b := false) (v := (.bool (!decide (((gt a0 (findN (sub a0 0 x3_2) (parentP ((gt a0 x3_2).path)))).kind) = 3)))) (congrArg Value.bool b493_) rfl) ?_
                  obtain rfl := Option.some.inj H
                  exact L_nil <| thn_n ⟨(Kp.upd (Kp.upd (Kp.upd (Kp.upd (Kp.upd (Kp.upd (Kp.upd (Kp.refl _ _) rfl) rfl) rfl) rfl) rfl) rfl) rfl), ⟨_, rfl, rfl⟩, (Ext.refl w492)⟩
              intro s501 w497 z502 K498 hq h499 e500
              rw [hq] at h499; clear hq
              refine L_nil <| thn_n ?_
              rcases bif_two H with ⟨q503, H⟩ | ⟨q503, H⟩
              · refine W_true (h499.trans (congrArg Value.bool q503)) <| W_seq <| W_reg <| L_op (.plain rfl) rfl (ltb rfl) (X_assign (v := (.bool false)) rfl) <| L_nil <| thn_n <| W_ret <| blk_r <| thn_r <| thn_r <| blk_r <| thn_r <| thn_r <| fin_r ?_
                obtain rfl := Option.some.inj H
                obtain rfl := Option.some.inj S18
                have H := C5
                obtain rfl := Option.some.inj H
                exact fin1 rfl (Ext.trans (Ext.trans (Ext.trans (Ext.trans e14 e475) e486) e493) e500)
              · refine W_false (h499.trans (congrArg Value.bool q503)) <| W_skip <| blk_n <| thn_n <| W_reg <| L_op (.plain rfl) rfl (ltb rfl) (X_move (v := (.int .i64 x3_2)) ((K498 3 rfl).trans ((K478 3 rfl).trans h16))) <| L_op (.plain rfl) rfl (ltb rfl) (X_add rfl rfl) <| L_op (.plain rfl) rfl (ltb rfl) (X_assign (v := (.int .i64 (IntKind.wrap .i64 (x3_2 + 1)))) rfl) <| L_nil <| thn_n ?_
                obtain rfl := Option.some.inj H
                exact ⟨_, Nat.lt_succ_self _, IntKind.wrap .i64 (x3_2 + 1), (Kp.upd (Kp.upd (Kp.upd (Kp.cut (Kp.upd (Kp.upd (Kp.upd (Kp.upd (Kp.upd (Kp.upd (Kp.upd (Kp.upd (Kp.upd (Kp.upd (Kp.upd (Kp.upd (Kp.upd (Kp.upd (Kp.upd (Kp.upd (Kp.upd (Kp.upd (Kp.cut (Kp.upd (Kp.upd (Kp.upd (Kp.upd K13 rfl) rfl) rfl) rfl) K478 rfl) rfl) rfl) rfl) rfl) rfl) rfl) rfl) rfl) rfl) rfl) rfl) rfl) rfl) rfl) rfl) rfl) rfl) rfl) K498 rfl) rfl) rfl) rfl), rfl, (Ext.trans (Ext.trans (Ext.trans (Ext.trans e14 e475) e486) e493) e500), S18⟩
            · refine W_false (congrArg Value.bool q487) <| W_skip <| blk_n <| thn_n <| W_reg <| L_op (.plain rfl) rfl (ltb rfl) (X_move (v := (.int .i64 x3_2)) ((K478 3 rfl).trans h16)) <| L_op (.plain rfl) rfl (ltb rfl) (X_add rfl rfl) <| L_op (.plain rfl) rfl (ltb rfl) (X_assign (v := (.int .i64 (IntKind.wrap .i64 (x3_2 + 1)))) rfl) <| L_nil <| thn_n ?_
              obtain rfl := Option.some.inj H
              exact ⟨_, Nat.lt_succ_self _, IntKind.wrap .i64 (x3_2 + 1), (Kp.upd (Kp.upd (Kp.upd (Kp.upd (Kp.upd (Kp.upd (Kp.upd (Kp.upd (Kp.upd (Kp.upd (Kp.upd (Kp.upd (Kp.cut (Kp.upd (Kp.upd (Kp.upd (Kp.upd K13 rfl) rfl) rfl) rfl) K478 rfl) rfl) rfl) rfl) rfl) rfl) rfl) rfl) rfl) rfl) rfl) rfl) rfl), rfl, (Ext.trans (Ext.trans e14 e475) e486), S18⟩
        · refine W_false (congrArg Value.bool q19) <| W_exit <| thn_x <| thn_x <| blk_x <| thn_n ?_
          obtain rfl := Option.some.inj H
          obtain rfl := Option.some.inj S18
          exact ⟨(Kp.upd (Kp.upd (Kp.upd (Kp.upd K13 rfl) rfl) rfl) rfl), e14, rfl⟩
    · rintro s7 w6 ⟨K8, e9, y504⟩
      rw [y504] at C5
      have H := C5
      replace H : _ = some _ := H
      refine thn_n <| W_seq <| W_reg <| L_op (.plain rfl) rfl (ltb rfl) (X_assign (v := (.bool true)) rfl) <| L_nil <| thn_n <| W_ret <| fin_r ?_
      obtain rfl := Option.some.inj H
      exact fin1 rfl e9
theorem spec_l04OK.calls {w : World} {a0 : List Nd} {v_a0 : Value} (f_a0 : Rd 4 encNd w v_a0 a0) (h0 : ∀ x ∈ a0, x.path.length ≤ 1048576) :
    Calls Tryd.prog 84 #[v_a0] w (Rt (RP w (.bool (treeOK a0)))) := by
  obtain ⟨k, h⟩ := spec_l04OK.eq a0 h0
  exact spec_l04OK.walk f_a0 h
/-! (impl.Node).record -/
theorem impl_Node_record.walk {w : World} {a0 : Nd} {r : Rec} (H : impl_Node_record.sh a0 = some r) :
    Calls Tryd.prog 125 #[.agg (encNd a0).toArray] w (Rt (RP w (.agg (encRec r).toArray))) := by
  unfold impl_Node_record.sh at H
  refine calls_of_WG Tryd.func125 rfl (Nat.le_of_ble_eq_true rfl) Tryd.ntmps125 ?_
  refine W_seq <| W_reg <| L_box (.plain rfl) rfl (ltb rfl) rfl rfl <| fun b1 w2 z3 z4 e5 k6 => L_alloc (.plain rfl) rfl (ltb rfl) rfl Tryd.zeroValue74 <| fun b7 w8 z9 z10 e11 k12 => L_nil <| thn_n <| W_seq <| W_reg <| L_op (.plain rfl) rfl (ltb rfl) (X_fieldAddr Tryd.underlying40 rfl Tryd.sizeOf3 rfl rfl) <| L_op (.plain rfl) rfl (ltb rfl) (X_loadB Tryd.isAgg3 (Blk.ext k6 e11) rfl rfl) <| L_op (.plain rfl) rfl (ltb rfl) (X_fieldAddr Tryd.underlying40 rfl Tryd.sizeOf9 rfl rfl) <| L_op (.plain rfl) rfl (ltb rfl) (X_loadB Tryd.isAgg9 (Blk.ext k6 e11) rfl rfl) <| L_op (.plain rfl) rfl (ltb rfl) (X_fieldAddr Tryd.underlying40 rfl Tryd.sizeOf9 rfl rfl) <| L_op (.plain rfl) rfl (ltb rfl) (X_loadB Tryd.isAgg9 (Blk.ext k6 e11) rfl rfl) <| L_op (.plain rfl) rfl (ltb rfl) (X_fieldAddr Tryd.underlying40 rfl Tryd.sizeOf3 rfl rfl) <| L_op (.plain rfl) rfl (ltb rfl) (X_loadB Tryd.isAgg3 (Blk.ext k6 e11) rfl rfl) <| L_op (.plain rfl) rfl (ltb rfl) (X_build1 (vs := [(0, (.int .i64 a0.kind)), (1, (S a0.path)), (2, (S a0.body)), (3, (.int .i64 a0.mode)), (4, (.bool false))]) (pl := #[(0, 1), (1, 1), (2, 1), (3, 1), (4, 1)]) Tryd.underlying74 Tryd.zeroValue74 rfl (fun _ => by kernel_rfl) rfl rfl rfl) <| L_storeA (.plain rfl) rfl rfl Tryd.sizeOf74 rfl rfl rfl rfl rfl k12 <| fun w13 h14 k15 => L_nil <| thn_n <| W_ret <| finG_r ?_
  obtain rfl := Option.some.inj H
  exact finC1 rfl rfl k15 Tryd.isAgg74 Tryd.sizeOf74 rfl (Ext.trans e5 (Below.trans e11 (Wr.below h14 (Nat.le_of_eq z9))))
theorem impl_Node_record.calls {w : World} {a0 : Nd} :
    Calls Tryd.prog 125 #[.agg (encNd a0).toArray] w (Rt (RP w (.agg (encRec (recOf a0)).toArray))) := impl_Node_record.walk (impl_Node_record.eq a0)
/-! impl.nodeOK -/
theorem impl_nodeOK.walk {w : World} {a0 : Nd} (gv : GV 0 w) {r : Bool} (H : impl_nodeOK.sh a0 = some r) :
    Calls Tryd.prog 116 #[.agg (encNd a0).toArray] w (Rt (RP w (.bool r))) := by
  unfold impl_nodeOK.sh at H
  refine calls_of_W Tryd.func116 rfl (Nat.le_of_ble_eq_true rfl) Tryd.ntmps116 rfl ?_
  refine W_seq <| W_reg <| L_box (.plain rfl) rfl (ltb rfl) rfl rfl <| fun b1 w2 z3 z4 e5 k6 => L_op (.plain rfl) rfl (ltb rfl) (X_assign (v := (.bool false)) rfl) <| L_nil <| thn_n <| W_seq <| W_reg <| L_op (.plain rfl) rfl (ltb rfl) (X_loadS Tryd.isAgg40 Tryd.sizeOf40 rfl rfl (Blk.at0 k6)) <| L_callP (.plain rfl) rfl (ltb rfl) rfl Tryd.call125 (impl_Node_record.calls (w := w2) (a0 := a0)) rfl <| fun w7 e8 => L_callP (.plain rfl) rfl (ltb rfl) rfl Tryd.call143 (impl_RecordOK.calls (w := w7) (a0 := (recOf a0)) (GV.ext gv (Ext.trans e5 e8))) rfl <| fun w9 e10 => L_op (.plain rfl) rfl (ltb rfl) (X_move (v := (.bool (decide (recFault (recOf a0) = 0)))) rfl) <| L_grp 4 [(7, 11)] 10 (.bool ((decide (recFault (recOf a0) = 0)) && (!decide (a0.kind = 4)))) ?_ ?_
  · rcases bool_two (decide (recFault (recOf a0) = 0)) with b10_ | b10_
    · exact L_op (.guard 3 true 6 rfl rfl (ltb rfl) (congrArg Value.bool b10_)) rfl (ltb rfl) (X_fieldAddr Tryd.underlying40 rfl Tryd.sizeOf3 rfl rfl) <| L_op (.guard 3 true 6 rfl rfl (ltb rfl) (congrArg Value.bool b10_)) rfl (ltb rfl) (X_loadB Tryd.isAgg3 (Blk.ext k6 (Ext.trans e8 e10)) rfl rfl) <| L_op (.guard 3 true 6 rfl rfl (ltb rfl) (congrArg Value.bool b10_)) rfl (ltb rfl) (X_neq rfl rfl) <| L_op (.plain rfl) rfl (ltb rfl) (X_pick (b := true) (v := (.bool (!decide (a0.kind = 4)))) (congrArg Value.bool b10_) rfl) <| L_nil <| thn_n ⟨(Kp.upd (Kp.upd (Kp.upd (Kp.upd (Kp.refl _ _) rfl) rfl) rfl) rfl), (and_t b10_), (Ext.refl w9)⟩
    · exact L_skip rfl rfl (ltb rfl) (congrArg Value.bool b10_) rfl rfl (ltb rfl) <| L_skip rfl rfl (ltb rfl) (congrArg Value.bool b10_) rfl rfl (ltb rfl) <| L_skip rfl rfl (ltb rfl) (congrArg Value.bool b10_) rfl rfl (ltb rfl) <| L_op (.plain rfl) rfl (ltb rfl) (X_pick (b := false) (v := (.bool false)) (congrArg Value.bool b10_) rfl) <| L_nil <| thn_n ⟨(Kp.upd (Kp.upd (Kp.upd (Kp.upd (Kp.refl _ _) rfl) rfl) rfl) rfl), (and_f b10_), (Ext.refl w9)⟩
  intro s16 w12 K13 h14 e15
  refine L_op (.plain rfl) rfl (ltb rfl) (X_assign h14) <| L_nil <| thn_n <| W_ret <| fin_r ?_
  obtain rfl := Option.some.inj H
  exact fin1 rfl (Ext.trans (Ext.trans (Ext.trans e5 e8) e10) e15)
theorem impl_nodeOK.calls {w : World} {a0 : Nd} (gv : GV 0 w) :
    Calls Tryd.prog 116 #[.agg (encNd a0).toArray] w (Rt (RP w (.bool (nodeOK a0)))) := impl_nodeOK.walk gv (impl_nodeOK.eq a0)
/-! impl.at$1 -/
theorem impl_at_1.walk {w : World} {a0 : Nd} {a1 : List UInt8} {b_a1 : Nat} (k_a1 : Blk w b_a1 #[(S a1)] 9) {r : Bool} (H : impl_at_1.sh a0 a1 = some r) :
    Calls Tryd.prog 147 #[.agg (encNd a0).toArray, .pointer (some ⟨b_a1, 0, none⟩)] w (Rt (RP w (.bool r))) := by
  unfold impl_at_1.sh at H
  refine calls_of_W Tryd.func147 rfl (Nat.le_of_ble_eq_true rfl) Tryd.ntmps147 rfl ?_
  refine W_seq <| W_reg <| L_box (.plain rfl) rfl (ltb rfl) rfl rfl <| fun b1 w2 z3 z4 e5 k6 => L_op (.plain rfl) rfl (ltb rfl) (X_assign (v := (.bool false)) rfl) <| L_nil <| thn_n <| W_seq <| W_reg <| L_op (.plain rfl) rfl (ltb rfl) (X_fieldAddr Tryd.underlying40 rfl Tryd.sizeOf9 rfl rfl) <| L_op (.plain rfl) rfl (ltb rfl) (X_loadB Tryd.isAgg9 k6 rfl rfl) <| L_op (.plain rfl) rfl (ltb rfl) (X_loadB Tryd.isAgg9 (Blk.ext k_a1 e5) rfl rfl) <| L_op (.plain rfl) rfl (ltb rfl) (X_seq rfl rfl) <| L_op (.plain rfl) rfl (ltb rfl) (X_assign (v := (.bool (decide (a0.path = a1)))) rfl) <| L_nil <| thn_n <| W_ret <| fin_r ?_
  obtain rfl := Option.some.inj H
  exact fin1 rfl e5
theorem impl_at_1.calls {w : World} {a0 : Nd} {a1 : List UInt8} {b_a1 : Nat} (k_a1 : Blk w b_a1 #[(S a1)] 9) :
    Calls Tryd.prog 147 #[.agg (encNd a0).toArray, .pointer (some ⟨b_a1, 0, none⟩)] w (Rt (RP w (.bool (decide (a0.path = a1))))) := impl_at_1.walk k_a1 (impl_at_1.eq a0 a1)
/-! slices.IndexFunc(()impl.Node,impl.Node) -/
theorem slices_IndexFuncN.walk {k : Nat} {w : World} {a0 : List Nd} {a1 : Nd → Option Bool} {v_a0 : Value} (f_a0 : Rd 4 encNd w v_a0 a0) {v_a1 : Value} (f_a1 : ∀ (x0 : Nd) (r : Bool), a1 x0 = some r → FnAt Tryd.prog w v_a1 [(.agg (encNd x0).toArray)] (.bool r)) (g_a1 : v_a1.cells = #[v_a1]) {r : Int} (H : slices_IndexFuncN.sh k a0 a1 = some r) :
    Calls Tryd.prog 146 #[v_a0, v_a1] w (Rt (RP w (.int .i64 r))) := by
  unfold slices_IndexFuncN.sh at H
  refine calls_of_W Tryd.func146 rfl (Nat.le_of_ble_eq_true rfl) Tryd.ntmps146 rfl ?_
  refine W_seq <| W_reg <| L_op (.plain rfl) rfl (ltb rfl) (X_assign (v := (.int .i64 0)) rfl) <| L_nil <| thn_n <| W_seq <| W_seq <| W_reg <| L_op (.plain rfl) rfl (ltb rfl) (X_move (v := v_a0) rfl) <| L_op (.plain rfl) rfl (ltb rfl) (X_lenR Tryd.underlying43 rfl f_a0) <| L_op (.plain rfl) rfl (ltb rfl) (X_move (v := (.int .i64 0)) rfl) <| L_nil <| thn_n ?_
  obtain ⟨z2, L3, C4⟩ := bind_some H
  clear H
  refine  W_cutQ (fun s0 sQ wQ => Kp [(4, 6), (8, 19)] s0 sQ ∧ Ext w wQ ∧ z2 = .inr ()) ?_ ?_
  · refine W_block <| W_loopI (fun s0 kk sQ wQ => ∃ (x8_1 : Int), Kp [(4, 6), (8, 19)] s0 sQ ∧ sQ 8 = .int .i64 x8_1 ∧ Ext w wQ ∧ loopF (slices_IndexFuncN.b1 a0 a1) kk x8_1 = some z2) k ⟨0, (Kp.refl _ _), rfl, (Ext.refl w), L3⟩ ?_
    rintro k9 s10 w11 ⟨x8_1, K12, h15, e13, L14⟩
    cases k9 with
    | zero => exact absurd L14 (by simp [loopF])
    | succ k9 =>
      obtain ⟨t16, H, S17⟩ := loopF_succ L14
      clear L14
      unfold slices_IndexFuncN.b1 at H
      refine W_seq <| W_reg <| L_op (.plain rfl) rfl (ltb rfl) (X_lss h15 (K12 7 rfl)) <| L_nil <| thn_n <| W_seq ?_
      rcases bif_two H with ⟨q18, H⟩ | ⟨q18, H⟩
      · refine W_true (congrArg Value.bool q18) <| W_skip <| thn_n <| W_seq <| W_block <| W_seq <| W_reg <| L_op (.plain rfl) rfl (ltb rfl) (X_move (v := (.int .i64 x8_1)) h15) <| L_op (.plain rfl) rfl (ltb rfl) (X_assign (v := (.int .i64 x8_1)) rfl) <| L_nil <| thn_n <| W_seq <| W_reg <| L_op (.plain rfl) rfl (ltb rfl) (X_move (v := v_a1) (K12 1 rfl)) <| L_op (.plain rfl) rfl (ltb rfl) (X_move (v := v_a0) (K12 0 rfl)) <| L_op (.plain rfl) rfl (ltb rfl) (X_move (v := (.int .i64 x8_1)) rfl) ?_
        obtain ⟨c19, H⟩ := bif_some H
        refine L_idx (.plain rfl) rfl (ltb rfl) rfl Tryd.underlying43 Tryd.sizeOf40 rfl (Rd.ext f_a0 e13) rfl c19 <| fun p20 h21 => L_op (.plain rfl) rfl (ltb rfl) (X_loadS Tryd.isAgg40 Tryd.sizeOf40 rfl rfl h21) ?_
        obtain ⟨z22, x23, H⟩ := bind_some H
        refine L_callF (.plain rfl) rfl (ltb rfl) rfl rfl (FnAt.ext (f_a1 _ _ x23) e13) rfl <| fun w24 e25 => L_nil <| thn_n ?_
        rcases bif_two H with ⟨q26, H⟩ | ⟨q26, H⟩
        · refine W_true (congrArg Value.bool q26) <| W_seq <| W_reg <| L_op (.plain rfl) rfl (ltb rfl) (X_move (v := (.int .i64 x8_1)) rfl) <| L_op (.plain rfl) rfl (ltb rfl) (X_assign (v := (.int .i64 x8_1)) rfl) <| L_nil <| thn_n <| W_ret <| blk_r <| thn_r <| thn_r <| blk_r <| thn_r <| thn_r <| fin_r ?_
          obtain rfl := Option.some.inj H
          obtain rfl := Option.some.inj S17
          have H := C4
          obtain rfl := Option.some.inj H
          exact fin1 rfl (Ext.trans e13 e25)
        · refine W_false (congrArg Value.bool q26) <| W_skip <| blk_n <| thn_n <| W_reg <| L_op (.plain rfl) rfl (ltb rfl) (X_add h15 rfl) <| L_op (.plain rfl) rfl (ltb rfl) (X_move (v := (.int .i64 (IntKind.wrap .i64 (x8_1 + 1)))) rfl) <| L_nil <| thn_n ?_
          obtain rfl := Option.some.inj H
          exact ⟨_, Nat.lt_succ_self _, IntKind.wrap .i64 (x8_1 + 1), (Kp.upd (Kp.upd (Kp.upd (Kp.upd (Kp.upd (Kp.upd (Kp.upd (Kp.upd (Kp.upd (Kp.upd (Kp.upd K12 rfl) rfl) rfl) rfl) rfl) rfl) rfl) rfl) rfl) rfl) rfl), rfl, (Ext.trans e13 e25), S17⟩
      · refine W_false (congrArg Value.bool q18) <| W_exit <| thn_x <| thn_x <| blk_x <| thn_n ?_
        obtain rfl := Option.some.inj H
        obtain rfl := Option.some.inj S17
        exact ⟨(Kp.upd K12 rfl), e13, rfl⟩
  · rintro s6 w5 ⟨K7, e8, y27⟩
    rw [y27] at C4
    have H := C4
    replace H : _ = some _ := H
    refine thn_n <| W_seq <| W_reg <| L_op (.plain rfl) rfl (ltb rfl) (X_assign (v := (.int .i64 (-1))) rfl) <| L_nil <| thn_n <| W_ret <| fin_r ?_
    obtain rfl := Option.some.inj H
    exact fin1 rfl e8
theorem slices_IndexFuncN.calls {w : World} {a0 : List Nd} {a1 : Nd → Option Bool} {r : Int} {v_a0 : Value} (f_a0 : Rd 4 encNd w v_a0 a0) {v_a1 : Value} (f_a1 : ∀ (x0 : Nd) (r : Bool), a1 x0 = some r → FnAt Tryd.prog w v_a1 [(.agg (encNd x0).toArray)] (.bool r)) (g_a1 : v_a1.cells = #[v_a1]) (h0 : a0.length ≤ 4611686018427387904) (H : (idxO a1 a0) = some r) :
    Calls Tryd.prog 146 #[v_a0, v_a1] w (Rt (RP w (.int .i64 r))) := by
  obtain ⟨k, h⟩ := slices_IndexFuncN.eq a0 a1 h0 H
  exact slices_IndexFuncN.walk f_a0 f_a1 g_a1 h
/-! impl.at -/
theorem impl_at.walk {w : World} {a0 : List Nd} {a1 : List UInt8} {v_a0 : Value} (f_a0 : Rd 4 encNd w v_a0 a0) {r : Int} (H : impl_at.sh a0 a1 = some r) :
    Calls Tryd.prog 121 #[v_a0, S a1] w (Rt (RP w (.int .i64 r))) := by
  unfold impl_at.sh at H
  refine calls_of_W Tryd.func121 rfl (Nat.le_of_ble_eq_true rfl) Tryd.ntmps121 rfl ?_
  refine W_seq <| W_reg <| L_box (.plain rfl) rfl (ltb rfl) rfl rfl <| fun b1 w2 z3 z4 e5 k6 => L_op (.plain rfl) rfl (ltb rfl) (X_assign (v := (.int .i64 0)) rfl) <| L_nil <| thn_n <| W_seq <| W_reg <| L_op (.plain rfl) rfl (ltb rfl) (X_move (v := v_a0) rfl) <| L_op (.plain rfl) rfl (ltb rfl) (X_makeFunc (vs := #[]) (us := #[.pointer (some ⟨b1, 0, none⟩)]) rfl rfl) ?_
  obtain ⟨c11, H⟩ := bif_some H
  obtain ⟨z12, x13, H⟩ := bind_some H
  refine L_callP (.plain rfl) rfl (ltb rfl) rfl Tryd.call146 (slices_IndexFuncN.calls (w := w2) (a0 := a0) (a1 := (fun (x0_ : Nd) => some (decide (x0_.path = a1)))) (Rd.ext f_a0 e5) (fun x0_ r h => by have h := Option.some.inj h; subst h; exact FnAt.mk Tryd.call147 (by rfl) fun w9 k10 => impl_at_1.calls (w := w9) (a0 := x0_) (a1 := a1) (Blk.ext k6 k10)) rfl (of_decide_eq_true c11) x13) rfl <| fun w14 e15 => L_op (.plain rfl) rfl (ltb rfl) (X_assign (v := (.int .i64 z12)) rfl) <| L_nil <| thn_n <| W_ret <| fin_r ?_
  obtain rfl := Option.some.inj H
  exact fin1 rfl (Ext.trans e5 e15)
theorem impl_at.calls {w : World} {a0 : List Nd} {a1 : List UInt8} {v_a0 : Value} (f_a0 : Rd 4 encNd w v_a0 a0) (h0 : a0.length ≤ 1048576) :
    Calls Tryd.prog 121 #[v_a0, S a1] w (Rt (RP w (.int .i64 (findN a0 a1)))) := impl_at.walk f_a0 (impl_at.eq a0 a1 h0)
/-! impl.isDir -/
theorem impl_isDir.walk {w : World} {a0 : List Nd} {a1 : List UInt8} {v_a0 : Value} (f_a0 : Rd 4 encNd w v_a0 a0) {r : Bool} (H : impl_isDir.sh a0 a1 = some r) :
    Calls Tryd.prog 118 #[v_a0, S a1] w (Rt (RP w (.bool r))) := by
  unfold impl_isDir.sh at H
  refine calls_of_W Tryd.func118 rfl (Nat.le_of_ble_eq_true rfl) Tryd.ntmps118 rfl ?_
  refine W_seq <| W_reg <| L_op (.plain rfl) rfl (ltb rfl) (X_assign (v := (.bool false)) rfl) <| L_nil <| thn_n <| W_seq <| W_reg <| L_op (.plain rfl) rfl (ltb rfl) (X_move (v := v_a0) rfl) <| L_op (.plain rfl) rfl (ltb rfl) (X_move (v := (S a1)) rfl) ?_
  obtain ⟨c1, H⟩ := bif_some H
  refine L_callP (.plain rfl) rfl (ltb rfl) rfl Tryd.call121 (impl_at.calls (w := w) (a0 := a0) (a1 := a1) f_a0 (of_decide_eq_true c1)) rfl <| fun w2 e3 => L_op (.plain rfl) rfl (ltb rfl) (X_assign (v := (.int .i64 (findN a0 a1))) rfl) <| L_nil <| thn_n <| W_seq <| W_reg <| L_op (.plain rfl) rfl (ltb rfl) (X_move (v := (S a1)) rfl) <| L_op (.plain rfl) rfl (ltb rfl) (X_seq rfl rfl) <| L_op (.plain rfl) rfl (ltb rfl) (X_move (v := (.bool (decide (a1 = ([] : List UInt8))))) rfl) ?_
  obtain ⟨z5, x6, H⟩ := bind_some H
  refine L_grpE 11 [(12, 23)] 22 (fun q => q = z5) ?_ ?_
  · rcases bif_two x6 with ⟨b3_, H⟩ | ⟨b3_, H⟩
    · refine L_skip rfl rfl (ltb rfl) (congrArg Value.bool b3_) rfl rfl (ltb rfl) <| L_skip rfl rfl (ltb rfl) (congrArg Value.bool b3_) rfl rfl (ltb rfl) <| L_skip rfl rfl (ltb rfl) (congrArg Value.bool b3_) rfl rfl (ltb rfl) <| L_skipU rfl rfl (ltb rfl) rfl rfl (ltb rfl) <| L_skipU rfl rfl (ltb rfl) rfl rfl (ltb rfl) <| L_skipU rfl rfl (ltb rfl) rfl rfl (ltb rfl) <| L_skipU rfl rfl (ltb rfl) rfl rfl (ltb rfl) <| L_skipU rfl rfl (ltb rfl) rfl rfl (ltb rfl) <| L_skipU rfl rfl (ltb rfl) rfl rfl (ltb rfl) <| L_skip rfl rfl (ltb rfl) (congrArg Value.bool b3_) rfl rfl (ltb rfl) <| L_op (.plain rfl) rfl (ltb rfl) (X_pick (b := true) (v := (.bool true)) (congrArg Value.bool b3_) rfl) ?_
      obtain rfl := Option.some.inj H
      exact L_nil <| thn_n ⟨(Kp.upd (Kp.upd (Kp.upd (Kp.upd (Kp.upd (Kp.upd (Kp.upd (Kp.upd (Kp.upd (Kp.upd (Kp.upd (Kp.refl _ _) rfl) rfl) rfl) rfl) rfl) rfl) rfl) rfl) rfl) rfl) rfl), ⟨_, rfl, rfl⟩, (Ext.refl w2)⟩
    · refine L_op (.guard 2 false 11 rfl rfl (ltb rfl) (congrArg Value.bool b3_)) rfl (ltb rfl) (X_move (v := (.int .i64 (findN a0 a1))) rfl) <| L_op (.guard 2 false 11 rfl rfl (ltb rfl) (congrArg Value.bool b3_)) rfl (ltb rfl) (X_geq rfl rfl) <| L_op (.guard 2 false 11 rfl rfl (ltb rfl) (congrArg Value.bool b3_)) rfl (ltb rfl) (X_move (v := (.bool (decide (0 ≤ (findN a0 a1))))) rfl) ?_
      obtain ⟨z6, x7, H⟩ := bind_some H
      refine L_grpE 7 [(15, 22)] 21 (fun q => q = z6) ?_ ?_
      · rcases bif_two x7 with ⟨b4_, H⟩ | ⟨b4_, H⟩
        · refine L_op (.guard 5 true 14 rfl rfl (ltb rfl) (congrArg Value.bool b4_)) rfl (ltb rfl) (X_move (v := v_a0) rfl) <| L_op (.guard 5 true 14 rfl rfl (ltb rfl) (congrArg Value.bool b4_)) rfl (ltb rfl) (X_move (v := (.int .i64 (findN a0 a1))) rfl) ?_
          obtain ⟨c6, H⟩ := bif_some H
          refine L_idx (.guard 5 true 14 rfl rfl (ltb rfl) (congrArg Value.bool b4_)) rfl (ltb rfl) rfl Tryd.underlying43 Tryd.sizeOf40 rfl (Rd.ext f_a0 e3) rfl c6 <| fun p7 h8 => L_op (.guard 5 true 14 rfl rfl (ltb rfl) (congrArg Value.bool b4_)) rfl (ltb rfl) (X_fieldAddr Tryd.underlying40 rfl Tryd.sizeOf3 rfl rfl) <| L_op (.guard 5 true 14 rfl rfl (ltb rfl) (congrArg Value.bool b4_)) rfl (ltb rfl) (X_loadF Tryd.isAgg3 (j := 0) h8 rfl rfl) <| L_op (.guard 5 true 14 rfl rfl (ltb rfl) (congrArg Value.bool b4_)) rfl (ltb rfl) (X_eql rfl rfl) <| L_op (.guard 2 false 11 rfl rfl (ltb rfl) (congrArg Value.bool b3_)) rfl (ltb rfl) (X_pick (b := true) (v := (.bool (decide (((gt a0 (findN a0 a1)).kind) = 3)))) (congrArg Value.bool b4_) rfl) ?_
          obtain rfl := Option.some.inj H
          exact L_nil <| thn_n ⟨(Kp.upd (Kp.upd (Kp.upd (Kp.upd (Kp.upd (Kp.upd (Kp.upd (Kp.refl _ _) rfl) rfl) rfl) rfl) rfl) rfl) rfl), ⟨_, rfl, rfl⟩, (Ext.refl w2)⟩
        · refine L_skip rfl rfl (ltb rfl) (congrArg Value.bool b4_) rfl rfl (ltb rfl) <| L_skip rfl rfl (ltb rfl) (congrArg Value.bool b4_) rfl rfl (ltb rfl) <| L_skip rfl rfl (ltb rfl) (congrArg Value.bool b4_) rfl rfl (ltb rfl) <| L_skip rfl rfl (ltb rfl) (congrArg Value.bool b4_) rfl rfl (ltb rfl) <| L_skip rfl rfl (ltb rfl) (congrArg Value.bool b4_) rfl rfl (ltb rfl) <| L_skip rfl rfl (ltb rfl) (congrArg Value.bool b4_) rfl rfl (ltb rfl) <| L_op (.guard 2 false 11 rfl rfl (ltb rfl) (congrArg Value.bool b3_)) rfl (ltb rfl) (X_pick (b := false) (v := (.bool false)) (congrArg Value.bool b4_) rfl) ?_
          obtain rfl := Option.some.inj H
          exact L_nil <| thn_n ⟨(Kp.upd (Kp.upd (Kp.upd (Kp.upd (Kp.upd (Kp.upd (Kp.upd (Kp.refl _ _) rfl) rfl) rfl) rfl) rfl) rfl) rfl), ⟨_, rfl, rfl⟩, (Ext.refl w2)⟩
      intro s12 w8 z13 K9 hq h10 e11
      rw [hq] at h10; clear hq
      refine L_op (.plain rfl) rfl (ltb rfl) (X_pick (b := false) (v := (.bool z6)) ((K9 11 rfl).trans (congrArg Value.bool b3_)) h10) ?_
      obtain rfl := Option.some.inj H
      exact L_nil <| thn_n ⟨(Kp.upd (Kp.cut (Kp.upd (Kp.upd (Kp.upd (Kp.refl _ _) rfl) rfl) rfl) K9 rfl) rfl), ⟨_, rfl, rfl⟩, e11⟩
  intro s14 w7 z15 K8 hq h9 e10
  rw [hq] at h9; clear hq
  refine L_op (.plain rfl) rfl (ltb rfl) (X_assign (v := (.bool z5)) h9) <| L_nil <| thn_n <| W_ret <| fin_r ?_
  obtain rfl := Option.some.inj H
  exact fin1 rfl (Ext.trans e3 e10)
theorem impl_isDir.calls {w : World} {a0 : List Nd} {a1 : List UInt8} {v_a0 : Value} (f_a0 : Rd 4 encNd w v_a0 a0) (h0 : a0.length ≤ 1048576) :
    Calls Tryd.prog 118 #[v_a0, S a1] w (Rt (RP w (.bool (isDirN a0 a1)))) := impl_isDir.walk f_a0 (impl_isDir.eq a0 a1 h0)
/-! impl.TreeOK -/
abbrev impl_TreeOK.e1 (a0 : List Nd) (x7_1 : Int) := (((decide (24 ≤ x7_1)) || (!(nodeOK (gt a0 x7_1)))) || ((decide (0 < x7_1)) && (!(pathLess ((gt a0 (IntKind.wrap .i64 (x7_1 - 1))).path) ((gt a0 x7_1).path)))))
abbrev impl_TreeOK.e2 (a0 : List Nd) (x7_1 : Int) := ((decide (24 ≤ x7_1)) || (!(nodeOK (gt a0 x7_1))))
abbrev impl_TreeOK.e3 (a0 : List Nd) (x7_1 : Int) := ((!(impl_TreeOK.e2 a0 x7_1)) && (decide (0 < x7_1)))
abbrev impl_TreeOK.e4 (a0 : List Nd) (x7_1 : Int) := (pathLess ((gt a0 (IntKind.wrap .i64 (x7_1 - 1))).path) ((gt a0 x7_1).path))
theorem impl_TreeOK.walk {k : Nat} {w : World} {a0 : List Nd} (gv : GV 0 w) {v_a0 : Value} (f_a0 : Rd 4 encNd w v_a0 a0) {r : Bool} (H : impl_TreeOK.sh k a0 = some r) :
    Calls Tryd.prog 77 #[v_a0] w (Rt (RP w (.bool r))) := by
  unfold impl_TreeOK.sh at H
  refine calls_of_W Tryd.func77 rfl (Nat.le_of_ble_eq_true rfl) Tryd.ntmps77 rfl ?_
  refine W_seq <| W_reg <| L_op (.plain rfl) rfl (ltb rfl) (X_assign (v := (.bool false)) rfl) <| L_nil <| thn_n <| W_seq <| W_seq <| W_reg <| L_op (.plain rfl) rfl (ltb rfl) (X_move (v := v_a0) rfl) <| L_op (.plain rfl) rfl (ltb rfl) (X_lenR Tryd.underlying43 rfl f_a0) <| L_op (.plain rfl) rfl (ltb rfl) (X_move (v := (.int .i64 0)) rfl) <| L_nil <| thn_n ?_
  obtain ⟨z2, L3, C4⟩ := bind_some H
  clear H
  refine  W_cutQ (fun s0 sQ wQ => Kp [(2, 5), (7, 46)] s0 sQ ∧ Ext w wQ ∧ z2 = .inr ()) ?_ ?_
  · refine W_block <| W_loopI (fun s0 kk sQ wQ => ∃ (x7_1 : Int), Kp [(2, 5), (7, 46)] s0 sQ ∧ sQ 7 = .int .i64 x7_1 ∧ Ext w wQ ∧ loopF (impl_TreeOK.b1 a0) kk x7_1 = some z2) k ⟨0, (Kp.refl _ _), rfl, (Ext.refl w), L3⟩ ?_
    rintro k9 s10 w11 ⟨x7_1, K12, h15, e13, L14⟩
    cases k9 with
    | zero => exact absurd L14 (by simp [loopF])
    | succ k9 =>
      obtain ⟨t16, H, S17⟩ := loopF_succ L14
      clear L14
      unfold impl_TreeOK.b1 at H
      refine W_seq <| W_reg <| L_op (.plain rfl) rfl (ltb rfl) (X_lss h15 (K12 6 rfl)) <| L_nil <| thn_n <| W_seq ?_
      rcases bif_two H with ⟨q18, H⟩ | ⟨q18, H⟩
      · refine W_true (congrArg Value.bool q18) <| W_skip <| thn_n <| W_seq <| W_block <| W_seq <| W_reg <| L_op (.plain rfl) rfl (ltb rfl) (X_move (v := (.int .i64 x7_1)) h15) ?_
        obtain ⟨c19, H⟩ := bif_some H
        refine L_idx (.plain rfl) rfl (ltb rfl) rfl Tryd.underlying43 Tryd.sizeOf40 (K12 5 rfl) (Rd.ext f_a0 e13) h15 c19 <| fun p20 h21 => L_op (.plain rfl) rfl (ltb rfl) (X_loadS Tryd.isAgg40 Tryd.sizeOf40 rfl rfl h21) <| L_alloc (.plain rfl) rfl (ltb rfl) rfl Tryd.zeroValue40 <| fun b22 w23 z24 z25 e26 k27 => L_op (.plain rfl) rfl (ltb rfl) (X_assign (v := (.int .i64 x7_1)) rfl) <| L_storeA (.plain rfl) rfl rfl Tryd.sizeOf40 rfl rfl rfl rfl rfl k27 <| fun w28 h29 k30 => L_nil <| thn_n <| W_seq ?_
        obtain ⟨c33, H⟩ := bif_some H
        obtain ⟨c38, H⟩ := bif_some H
        obtain ⟨c41, H⟩ := bif_some H
        obtain ⟨c44, H⟩ := bif_some H
        refine W_drawM [LEq (.int .i64 x7_1), LEq (.bool (decide (24 ≤ x7_1))), LEq (.bool (decide (24 ≤ x7_1))), LIf (!(decide (24 ≤ x7_1))) (LEq (.agg #[(.int .i64 ((gt a0 x7_1).kind)), (S ((gt a0 x7_1).path)), (S ((gt a0 x7_1).body)), (.int .i64 ((gt a0 x7_1).mode))])), LIf (!(decide (24 ≤ x7_1))) (LEq (.bool (nodeOK (gt a0 x7_1)))), LIf (!(decide (24 ≤ x7_1))) (LEq (.bool (!(nodeOK (gt a0 x7_1))))), LEq (.bool (impl_TreeOK.e2 a0 x7_1)), LEq (.bool (impl_TreeOK.e2 a0 x7_1)), LIf (!(impl_TreeOK.e2 a0 x7_1)) (LEq (.int .i64 x7_1)), LIf (!(impl_TreeOK.e2 a0 x7_1)) (LEq (.bool (decide (0 < x7_1)))), LIf (!(impl_TreeOK.e2 a0 x7_1)) (LEq (.bool (decide (0 < x7_1)))), LIf (impl_TreeOK.e3 a0 x7_1) (LEq v_a0), LIf (impl_TreeOK.e3 a0 x7_1) (LEq (.int .i64 x7_1)), LIf (impl_TreeOK.e3 a0 x7_1) (LEq (.int .i64 (IntKind.wrap .i64 (x7_1 - 1)))), LIf (impl_TreeOK.e3 a0 x7_1) (LAt0 (encNd (gt a0 (IntKind.wrap .i64 (x7_1 - 1))))), LIf (impl_TreeOK.e3 a0 x7_1) (LAt 1 (encNd (gt a0 (IntKind.wrap .i64 (x7_1 - 1))))), LIf (impl_TreeOK.e3 a0 x7_1) (LEq (S ((gt a0 (IntKind.wrap .i64 (x7_1 - 1))).path))), LIf (impl_TreeOK.e3 a0 x7_1) (LEq (.pointer (some ⟨b22, 1, none⟩))), LIf (impl_TreeOK.e3 a0 x7_1) (LEq (S ((gt a0 x7_1).path))), LIf (impl_TreeOK.e3 a0 x7_1) (LEq (.bool (impl_TreeOK.e4 a0 x7_1))), LIf (impl_TreeOK.e3 a0 x7_1) (LEq (.bool (!(impl_TreeOK.e4 a0 x7_1)))), LIf (!(impl_TreeOK.e2 a0 x7_1)) (LEq (.bool ((decide (0 < x7_1)) && (!(impl_TreeOK.e4 a0 x7_1))))), LEq (.bool (impl_TreeOK.e1 a0 x7_1)), LEq (.bool (impl_TreeOK.e1 a0 x7_1)), LIf (!(impl_TreeOK.e1 a0 x7_1)) (LEq v_a0), LIf (!(impl_TreeOK.e1 a0 x7_1)) (LEq (.int .i64 x7_1)), LIf (!(impl_TreeOK.e1 a0 x7_1)) (LRd 4 encNd (sub a0 0 x7_1)), LIf (!(impl_TreeOK.e1 a0 x7_1)) (LEq (.pointer (some ⟨b22, 1, none⟩))), LIf (!(impl_TreeOK.e1 a0 x7_1)) (LEq (S ((gt a0 x7_1).path))), LIf (!(impl_TreeOK.e1 a0 x7_1)) (LEq (S (parentP ((gt a0 x7_1).path)))), LIf (!(impl_TreeOK.e1 a0 x7_1)) (LEq (.bool (isDirN (sub a0 0 x7_1) (parentP ((gt a0 x7_1).path))))), LIf (!(impl_TreeOK.e1 a0 x7_1)) (LEq (.bool (!(isDirN (sub a0 0 x7_1) (parentP ((gt a0 x7_1).path)))))), LEq (.bool ((impl_TreeOK.e1 a0 x7_1) || (!(isDirN (sub a0 0 x7_1) (parentP ((gt a0 x7_1).path))))))] (by kernel_rfl) (by kernel_rfl) ⟨LEq.mono, LEq.mono, LEq.mono, (LIf.mono LEq.mono), (LIf.mono LEq.mono), (LIf.mono LEq.mono), LEq.mono, LEq.mono, (LIf.mono LEq.mono), (LIf.mono LEq.mono), (LIf.mono LEq.mono), (LIf.mono LEq.mono), (LIf.mono LEq.mono), (LIf.mono LEq.mono), (LIf.mono LAt0.mono), (LIf.mono LAt.mono), (LIf.mono LEq.mono), (LIf.mono LEq.mono), (LIf.mono LEq.mono), (LIf.mono LEq.mono), (LIf.mono LEq.mono), (LIf.mono LEq.mono), LEq.mono, LEq.mono, (LIf.mono LEq.mono), (LIf.mono LEq.mono), (LIf.mono LRd.mono), (LIf.mono LEq.mono), (LIf.mono LEq.mono), (LIf.mono LEq.mono), (LIf.mono LEq.mono), (LIf.mono LEq.mono), LEq.mono, trivial⟩ ⟨?_, ?_, ?_, ?_, ?_, ?_, ?_, ?_, ?_, ?_, ?_, ?_, ?_, ?_, ?_, ?_, ?_, ?_, ?_, ?_, ?_, ?_, ?_, ?_, ?_, ?_, ?_, ?_, ?_, ?_, ?_, ?_, ?_, trivial⟩ ?_
        · intro s47 w48 e49 hf50 hd51 hu52
          exact L_op (.plain rfl) rfl (ltb rfl) (X_move (v := (.int .i64 x7_1)) (hf50 3 rfl)) <| L_nil <| stepEnd rfl rfl (Ext.refl w48) rfl
        · intro s53 w54 e55 hf56 hd57 hu58
          have d59 : s53 12 = (.int .i64 x7_1) := (hd57 0 rfl)
          exact L_op (.plain rfl) rfl (ltb rfl) (X_geq d59 rfl) <| L_nil <| stepEnd rfl rfl (Ext.refl w54) rfl
        · intro s60 w61 e62 hf63 hd64 hu65
          have d66 : s60 13 = (.bool (decide (24 ≤ x7_1))) := (hd64 1 rfl)
          exact L_op (.plain rfl) rfl (ltb rfl) (X_move (v := (.bool (decide (24 ≤ x7_1)))) d66) <| L_nil <| stepEnd rfl rfl (Ext.refl w61) rfl
        · intro s67 w68 e69 hf70 hd71 hu72
          rcases bool_two (!(decide (24 ≤ x7_1))) with b73 | b73
          · have g74 : (decide (24 ≤ x7_1)) = false := (not_f b73)
            have d75 : s67 14 = (.bool (decide (24 ≤ x7_1))) := (hd71 2 rfl)
            have d76 : s67 14 = (.bool (decide (24 ≤ x7_1))) := (hd71 2 rfl)
            exact L_op (.guard 2 false 14 rfl rfl (ltb rfl) (d75.trans (congrArg Value.bool g74))) rfl (ltb rfl) (X_loadS Tryd.isAgg40 Tryd.sizeOf40 rfl (hf70 4 rfl) (Blk.at0 (Blk.ext k30 e69))) <| L_nil <| stepEnd rfl rfl (Ext.refl w68) ⟨fun _ => rfl, fun h => absurd (b73.symm.trans h) (by decide)⟩
          · have d77 : s67 14 = (.bool (decide (24 ≤ x7_1))) := (hd71 2 rfl)
            have g78 : (decide (24 ≤ x7_1)) = true := (not_ff b73)
            exact L_skip rfl rfl (ltb rfl) (d77.trans (congrArg Value.bool g78)) rfl rfl (ltb rfl) <| L_nil <| stepEnd rfl rfl (Ext.refl w68) ⟨fun h => absurd (b73.symm.trans h) (by decide), fun _ => rfl⟩
        · intro s79 w80 e81 hf82 hd83 hu84
          rcases bool_two (!(decide (24 ≤ x7_1))) with b85 | b85
          · have g86 : (decide (24 ≤ x7_1)) = false := (not_f b85)
            have d87 : s79 14 = (.bool (decide (24 ≤ x7_1))) := (hd83 2 rfl)
            have d88 : s79 14 = (.bool (decide (24 ≤ x7_1))) := (hd83 2 rfl)
            have d89 : s79 15 = (.agg #[(.int .i64 ((gt a0 x7_1).kind)), (S ((gt a0 x7_1).path)), (S ((gt a0 x7_1).body)), (.int .i64 ((gt a0 x7_1).mode))]) := ((hd83 3 rfl).1 (not_mk (not_f b85)))
            exact L_callP (.guard 2 false 14 rfl rfl (ltb rfl) (d87.trans (congrArg Value.bool g86))) rfl (ltb rfl) rfl Tryd.call116 (impl_nodeOK.calls (w := w80) (a0 := (gt a0 x7_1)) (GV.ext gv (Ext.trans (Ext.trans e13 (Below.trans e26 (Wr.below h29 (Nat.le_of_eq z24)))) e81))) (cons2 d89 rfl) <| fun w90 e91 => L_nil <| stepEnd rfl rfl e91 ⟨fun _ => rfl, fun h => absurd (b85.symm.trans h) (by decide)⟩
          · have d92 : s79 14 = (.bool (decide (24 ≤ x7_1))) := (hd83 2 rfl)
            have g93 : (decide (24 ≤ x7_1)) = true := (not_ff b85)
            exact L_skip rfl rfl (ltb rfl) (d92.trans (congrArg Value.bool g93)) rfl rfl (ltb rfl) <| L_nil <| stepEnd rfl rfl (Ext.refl w80) ⟨fun h => absurd (b85.symm.trans h) (by decide), fun _ => rfl⟩
        · intro s94 w95 e96 hf97 hd98 hu99
          rcases bool_two (!(decide (24 ≤ x7_1))) with b100 | b100
          · have g101 : (decide (24 ≤ x7_1)) = false := (not_f b100)
            have d102 : s94 14 = (.bool (decide (24 ≤ x7_1))) := (hd98 2 rfl)
            have d103 : s94 14 = (.bool (decide (24 ≤ x7_1))) := (hd98 2 rfl)
            have d104 : s94 16 = (.bool (nodeOK (gt a0 x7_1))) := ((hd98 4 rfl).1 (not_mk (not_f b100)))
            exact L_op (.guard 2 false 14 rfl rfl (ltb rfl) (d102.trans (congrArg Value.bool g101))) rfl (ltb rfl) (X_not d104) <| L_nil <| stepEnd rfl rfl (Ext.refl w95) ⟨fun _ => rfl, fun h => absurd (b100.symm.trans h) (by decide)⟩
          · have d105 : s94 14 = (.bool (decide (24 ≤ x7_1))) := (hd98 2 rfl)
            have g106 : (decide (24 ≤ x7_1)) = true := (not_ff b100)
            exact L_skip rfl rfl (ltb rfl) (d105.trans (congrArg Value.bool g106)) rfl rfl (ltb rfl) <| L_nil <| stepEnd rfl rfl (Ext.refl w95) ⟨fun h => absurd (b100.symm.trans h) (by decide), fun _ => rfl⟩
        · intro s107 w108 e109 hf110 hd111 hu112
          rcases bool_two (decide (24 ≤ x7_1)) with b113 | b113
          · have d114 : s107 14 = (.bool (decide (24 ≤ x7_1))) := (hd111 2 rfl)
            exact L_op (.plain rfl) rfl (ltb rfl) (X_pick (b := true) (v := (.bool true)) (d114.trans (congrArg Value.bool b113)) rfl) <| L_nil <| stepEnd rfl rfl (Ext.refl w108) (or_t b113)
          · have d115 : s107 14 = (.bool (decide (24 ≤ x7_1))) := (hd111 2 rfl)
            have d116 : s107 17 = (.bool (!(nodeOK (gt a0 x7_1)))) := ((hd111 5 rfl).1 (not_mk b113))
            exact L_op (.plain rfl) rfl (ltb rfl) (X_pick (b := false) (v := (.bool (!(nodeOK (gt a0 x7_1))))) (d115.trans (congrArg Value.bool b113)) d116) <| L_nil <| stepEnd rfl rfl (Ext.refl w108) (or_f b113)
        · intro s117 w118 e119 hf120 hd121 hu122
          have d123 : s117 18 = (.bool (impl_TreeOK.e2 a0 x7_1)) := (hd121 6 rfl)
          exact L_op (.plain rfl) rfl (ltb rfl) (X_move (v := (.bool (impl_TreeOK.e2 a0 x7_1))) d123) <| L_nil <| stepEnd rfl rfl (Ext.refl w118) rfl
        · intro s124 w125 e126 hf127 hd128 hu129
          rcases bool_two (!(impl_TreeOK.e2 a0 x7_1)) with b130 | b130
          · have g131 : (impl_TreeOK.e2 a0 x7_1) = false := (not_f b130)
            have d132 : s124 19 = (.bool (impl_TreeOK.e2 a0 x7_1)) := (hd128 7 rfl)
            have d133 : s124 19 = (.bool (impl_TreeOK.e2 a0 x7_1)) := (hd128 7 rfl)
            exact L_op (.guard 7 false 19 rfl rfl (ltb rfl) (d132.trans (congrArg Value.bool g131))) rfl (ltb rfl) (X_move (v := (.int .i64 x7_1)) (hf127 3 rfl)) <| L_nil <| stepEnd rfl rfl (Ext.refl w125) ⟨fun _ => rfl, fun h => absurd (b130.symm.trans h) (by decide)⟩
          · have d134 : s124 19 = (.bool (impl_TreeOK.e2 a0 x7_1)) := (hd128 7 rfl)
            have g135 : (impl_TreeOK.e2 a0 x7_1) = true := (not_ff b130)
            exact L_skip rfl rfl (ltb rfl) (d134.trans (congrArg Value.bool g135)) rfl rfl (ltb rfl) <| L_nil <| stepEnd rfl rfl (Ext.refl w125) ⟨fun h => absurd (b130.symm.trans h) (by decide), fun _ => rfl⟩
        · intro s136 w137 e138 hf139 hd140 hu141
          rcases bool_two (!(impl_TreeOK.e2 a0 x7_1)) with b142 | b142
          · have g143 : (impl_TreeOK.e2 a0 x7_1) = false := (not_f b142)
            have d144 : s136 19 = (.bool (impl_TreeOK.e2 a0 x7_1)) := (hd140 7 rfl)
            have d145 : s136 19 = (.bool (impl_TreeOK.e2 a0 x7_1)) := (hd140 7 rfl)
            have d146 : s136 20 = (.int .i64 x7_1) := ((hd140 8 rfl).1 (not_mk (not_f b142)))
            exact L_op (.guard 7 false 19 rfl rfl (ltb rfl) (d144.trans (congrArg Value.bool g143))) rfl (ltb rfl) (X_gtr d146 rfl) <| L_nil <| stepEnd rfl rfl (Ext.refl w137) ⟨fun _ => rfl, fun h => absurd (b142.symm.trans h) (by decide)⟩
          · have d147 : s136 19 = (.bool (impl_TreeOK.e2 a0 x7_1)) := (hd140 7 rfl)
            have g148 : (impl_TreeOK.e2 a0 x7_1) = true := (not_ff b142)
            exact L_skip rfl rfl (ltb rfl) (d147.trans (congrArg Value.bool g148)) rfl rfl (ltb rfl) <| L_nil <| stepEnd rfl rfl (Ext.refl w137) ⟨fun h => absurd (b142.symm.trans h) (by decide), fun _ => rfl⟩
        · intro s149 w150 e151 hf152 hd153 hu154
          rcases bool_two (!(impl_TreeOK.e2 a0 x7_1)) with b155 | b155
          · have g156 : (impl_TreeOK.e2 a0 x7_1) = false := (not_f b155)
            have d157 : s149 19 = (.bool (impl_TreeOK.e2 a0 x7_1)) := (hd153 7 rfl)
            have d158 : s149 19 = (.bool (impl_TreeOK.e2 a0 x7_1)) := (hd153 7 rfl)
            have d159 : s149 21 = (.bool (decide (0 < x7_1))) := ((hd153 9 rfl).1 (not_mk (not_f b155)))
            exact L_op (.guard 7 false 19 rfl rfl (ltb rfl) (d157.trans (congrArg Value.bool g156))) rfl (ltb rfl) (X_move (v := (.bool (decide (0 < x7_1)))) d159) <| L_nil <| stepEnd rfl rfl (Ext.refl w150) ⟨fun _ => rfl, fun h => absurd (b155.symm.trans h) (by decide)⟩
          · have d160 : s149 19 = (.bool (impl_TreeOK.e2 a0 x7_1)) := (hd153 7 rfl)
            have g161 : (impl_TreeOK.e2 a0 x7_1) = true := (not_ff b155)
            exact L_skip rfl rfl (ltb rfl) (d160.trans (congrArg Value.bool g161)) rfl rfl (ltb rfl) <| L_nil <| stepEnd rfl rfl (Ext.refl w150) ⟨fun h => absurd (b155.symm.trans h) (by decide), fun _ => rfl⟩
        · intro s162 w163 e164 hf165 hd166 hu167
          rcases bool_two (impl_TreeOK.e3 a0 x7_1) with b168 | b168
          · have g169 : (decide (0 < x7_1)) = true := (and_r b168)
            have d170 : s162 22 = (.bool (decide (0 < x7_1))) := ((hd166 10 rfl).1 (not_mk (not_f (and_l b168))))
            have d171 : s162 22 = (.bool (decide (0 < x7_1))) := ((hd166 10 rfl).1 (not_mk (not_f (and_l b168))))
            exact L_op (.guard 10 true 22 rfl rfl (ltb rfl) (d170.trans (congrArg Value.bool g169))) rfl (ltb rfl) (X_move (v := v_a0) ((hf165 0 rfl).trans (K12 0 rfl))) <| L_nil <| stepEnd rfl rfl (Ext.refl w163) ⟨fun _ => rfl, fun h => absurd (b168.symm.trans h) (by decide)⟩
          · rcases bool_two (!(impl_TreeOK.e2 a0 x7_1)) with b172 | b172
            · have d173 : s162 22 = (.bool (decide (0 < x7_1))) := ((hd166 10 rfl).1 (not_mk (not_f b172)))
              have g174 : (decide (0 < x7_1)) = false := (and_fr b168 b172)
              exact L_skip rfl rfl (ltb rfl) (d173.trans (congrArg Value.bool g174)) rfl rfl (ltb rfl) <| L_nil <| stepEnd rfl rfl (Ext.refl w163) ⟨fun h => absurd (b168.symm.trans h) (by decide), fun _ => rfl⟩
            · exact L_skipU rfl rfl (ltb rfl) ((hd166 10 rfl).2 b172) rfl (ltb rfl) <| L_nil <| stepEnd rfl rfl (Ext.refl w163) ⟨fun h => absurd (b168.symm.trans h) (by decide), fun _ => rfl⟩
        · intro s175 w176 e177 hf178 hd179 hu180
          rcases bool_two (impl_TreeOK.e3 a0 x7_1) with b181 | b181
          · have g182 : (decide (0 < x7_1)) = true := (and_r b181)
            have d183 : s175 22 = (.bool (decide (0 < x7_1))) := ((hd179 10 rfl).1 (not_mk (not_f (and_l b181))))
            have d184 : s175 22 = (.bool (decide (0 < x7_1))) := ((hd179 10 rfl).1 (not_mk (not_f (and_l b181))))
            exact L_op (.guard 10 true 22 rfl rfl (ltb rfl) (d183.trans (congrArg Value.bool g182))) rfl (ltb rfl) (X_move (v := (.int .i64 x7_1)) (hf178 3 rfl)) <| L_nil <| stepEnd rfl rfl (Ext.refl w176) ⟨fun _ => rfl, fun h => absurd (b181.symm.trans h) (by decide)⟩
          · rcases bool_two (!(impl_TreeOK.e2 a0 x7_1)) with b185 | b185
            · have d186 : s175 22 = (.bool (decide (0 < x7_1))) := ((hd179 10 rfl).1 (not_mk (not_f b185)))
              have g187 : (decide (0 < x7_1)) = false := (and_fr b181 b185)
              exact L_skip rfl rfl (ltb rfl) (d186.trans (congrArg Value.bool g187)) rfl rfl (ltb rfl) <| L_nil <| stepEnd rfl rfl (Ext.refl w176) ⟨fun h => absurd (b181.symm.trans h) (by decide), fun _ => rfl⟩
            · exact L_skipU rfl rfl (ltb rfl) ((hd179 10 rfl).2 b185) rfl (ltb rfl) <| L_nil <| stepEnd rfl rfl (Ext.refl w176) ⟨fun h => absurd (b181.symm.trans h) (by decide), fun _ => rfl⟩
        · intro s188 w189 e190 hf191 hd192 hu193
          rcases bool_two (impl_TreeOK.e3 a0 x7_1) with b194 | b194
          · have g195 : (decide (0 < x7_1)) = true := (and_r b194)
            have d196 : s188 22 = (.bool (decide (0 < x7_1))) := ((hd192 10 rfl).1 (not_mk (not_f (and_l b194))))
            have d197 : s188 22 = (.bool (decide (0 < x7_1))) := ((hd192 10 rfl).1 (not_mk (not_f (and_l b194))))
            have d198 : s188 24 = (.int .i64 x7_1) := ((hd192 12 rfl).1 (and_mk (not_mk (not_f (and_l b194))) (and_r b194)))
            exact L_op (.guard 10 true 22 rfl rfl (ltb rfl) (d196.trans (congrArg Value.bool g195))) rfl (ltb rfl) (X_sub d198 rfl) <| L_nil <| stepEnd rfl rfl (Ext.refl w189) ⟨fun _ => rfl, fun h => absurd (b194.symm.trans h) (by decide)⟩
          · rcases bool_two (!(impl_TreeOK.e2 a0 x7_1)) with b199 | b199
            · have d200 : s188 22 = (.bool (decide (0 < x7_1))) := ((hd192 10 rfl).1 (not_mk (not_f b199)))
              have g201 : (decide (0 < x7_1)) = false := (and_fr b194 b199)
              exact L_skip rfl rfl (ltb rfl) (d200.trans (congrArg Value.bool g201)) rfl rfl (ltb rfl) <| L_nil <| stepEnd rfl rfl (Ext.refl w189) ⟨fun h => absurd (b194.symm.trans h) (by decide), fun _ => rfl⟩
            · exact L_skipU rfl rfl (ltb rfl) ((hd192 10 rfl).2 b199) rfl (ltb rfl) <| L_nil <| stepEnd rfl rfl (Ext.refl w189) ⟨fun h => absurd (b194.symm.trans h) (by decide), fun _ => rfl⟩
        · intro s202 w203 e204 hf205 hd206 hu207
          rcases bool_two (impl_TreeOK.e3 a0 x7_1) with b208 | b208
          · have g209 : (decide (0 < x7_1)) = true := (and_r b208)
            have d210 : s202 22 = (.bool (decide (0 < x7_1))) := ((hd206 10 rfl).1 (not_mk (not_f (and_l b208))))
            have d211 : s202 22 = (.bool (decide (0 < x7_1))) := ((hd206 10 rfl).1 (not_mk (not_f (and_l b208))))
            have d212 : s202 23 = v_a0 := ((hd206 11 rfl).1 (and_mk (not_mk (not_f (and_l b208))) (and_r b208)))
            have d213 : s202 25 = (.int .i64 (IntKind.wrap .i64 (x7_1 - 1))) := ((hd206 13 rfl).1 (and_mk (not_mk (not_f (and_l b208))) (and_r b208)))
            have c214 := imp_take b208 c33
            exact L_idx (.guard 10 true 22 rfl rfl (ltb rfl) (d210.trans (congrArg Value.bool g209))) rfl (ltb rfl) rfl Tryd.underlying43 Tryd.sizeOf40 d212 (Rd.ext f_a0 (Ext.trans (Ext.trans e13 (Below.trans e26 (Wr.below h29 (Nat.le_of_eq z24)))) e204)) d213 c214 <| fun p215 h216 => L_nil <| stepEnd rfl rfl (Ext.refl w203) ⟨fun _ => ⟨_, rfl, h216⟩, fun h => absurd (b208.symm.trans h) (by decide)⟩
          · rcases bool_two (!(impl_TreeOK.e2 a0 x7_1)) with b217 | b217
            · have d218 : s202 22 = (.bool (decide (0 < x7_1))) := ((hd206 10 rfl).1 (not_mk (not_f b217)))
              have g219 : (decide (0 < x7_1)) = false := (and_fr b208 b217)
              exact L_skip rfl rfl (ltb rfl) (d218.trans (congrArg Value.bool g219)) rfl rfl (ltb rfl) <| L_nil <| stepEnd rfl rfl (Ext.refl w203) ⟨fun h => absurd (b208.symm.trans h) (by decide), fun _ => rfl⟩
            · exact L_skipU rfl rfl (ltb rfl) ((hd206 10 rfl).2 b217) rfl (ltb rfl) <| L_nil <| stepEnd rfl rfl (Ext.refl w203) ⟨fun h => absurd (b208.symm.trans h) (by decide), fun _ => rfl⟩
        · intro s220 w221 e222 hf223 hd224 hu225
          rcases bool_two (impl_TreeOK.e3 a0 x7_1) with b226 | b226
          · have g227 : (decide (0 < x7_1)) = true := (and_r b226)
            have d228 : s220 22 = (.bool (decide (0 < x7_1))) := ((hd224 10 rfl).1 (not_mk (not_f (and_l b226))))
            have d229 : s220 22 = (.bool (decide (0 < x7_1))) := ((hd224 10 rfl).1 (not_mk (not_f (and_l b226))))
            obtain ⟨p230, h231, h232⟩ := ((hd224 14 rfl).1 (and_mk (not_mk (not_f (and_l b226))) (and_r b226)))
            exact L_op (.guard 10 true 22 rfl rfl (ltb rfl) (d228.trans (congrArg Value.bool g227))) rfl (ltb rfl) (X_fieldAddr Tryd.underlying40 rfl Tryd.sizeOf9 rfl h231) <| L_nil <| stepEnd rfl rfl (Ext.refl w221) ⟨fun _ => ⟨_, rfl, h232⟩, fun h => absurd (b226.symm.trans h) (by decide)⟩
          · rcases bool_two (!(impl_TreeOK.e2 a0 x7_1)) with b233 | b233
            · have d234 : s220 22 = (.bool (decide (0 < x7_1))) := ((hd224 10 rfl).1 (not_mk (not_f b233)))
              have g235 : (decide (0 < x7_1)) = false := (and_fr b226 b233)
              exact L_skip rfl rfl (ltb rfl) (d234.trans (congrArg Value.bool g235)) rfl rfl (ltb rfl) <| L_nil <| stepEnd rfl rfl (Ext.refl w221) ⟨fun h => absurd (b226.symm.trans h) (by decide), fun _ => rfl⟩
            · exact L_skipU rfl rfl (ltb rfl) ((hd224 10 rfl).2 b233) rfl (ltb rfl) <| L_nil <| stepEnd rfl rfl (Ext.refl w221) ⟨fun h => absurd (b226.symm.trans h) (by decide), fun _ => rfl⟩
        · intro s236 w237 e238 hf239 hd240 hu241
          rcases bool_two (impl_TreeOK.e3 a0 x7_1) with b242 | b242
          · have g243 : (decide (0 < x7_1)) = true := (and_r b242)
            have d244 : s236 22 = (.bool (decide (0 < x7_1))) := ((hd240 10 rfl).1 (not_mk (not_f (and_l b242))))
            have d245 : s236 22 = (.bool (decide (0 < x7_1))) := ((hd240 10 rfl).1 (not_mk (not_f (and_l b242))))
            obtain ⟨p246, h247, h248⟩ := ((hd240 15 rfl).1 (and_mk (not_mk (not_f (and_l b242))) (and_r b242)))
            exact L_op (.guard 10 true 22 rfl rfl (ltb rfl) (d244.trans (congrArg Value.bool g243))) rfl (ltb rfl) (X_loadF Tryd.isAgg9 (j := 1) h248 h247 rfl) <| L_nil <| stepEnd rfl rfl (Ext.refl w237) ⟨fun _ => rfl, fun h => absurd (b242.symm.trans h) (by decide)⟩
          · rcases bool_two (!(impl_TreeOK.e2 a0 x7_1)) with b249 | b249
            · have d250 : s236 22 = (.bool (decide (0 < x7_1))) := ((hd240 10 rfl).1 (not_mk (not_f b249)))
              have g251 : (decide (0 < x7_1)) = false := (and_fr b242 b249)
              exact L_skip rfl rfl (ltb rfl) (d250.trans (congrArg Value.bool g251)) rfl rfl (ltb rfl) <| L_nil <| stepEnd rfl rfl (Ext.refl w237) ⟨fun h => absurd (b242.symm.trans h) (by decide), fun _ => rfl⟩
            · exact L_skipU rfl rfl (ltb rfl) ((hd240 10 rfl).2 b249) rfl (ltb rfl) <| L_nil <| stepEnd rfl rfl (Ext.refl w237) ⟨fun h => absurd (b242.symm.trans h) (by decide), fun _ => rfl⟩
        · intro s252 w253 e254 hf255 hd256 hu257
          rcases bool_two (impl_TreeOK.e3 a0 x7_1) with b258 | b258
          · have g259 : (decide (0 < x7_1)) = true := (and_r b258)
            have d260 : s252 22 = (.bool (decide (0 < x7_1))) := ((hd256 10 rfl).1 (not_mk (not_f (and_l b258))))
            have d261 : s252 22 = (.bool (decide (0 < x7_1))) := ((hd256 10 rfl).1 (not_mk (not_f (and_l b258))))
            exact L_op (.guard 10 true 22 rfl rfl (ltb rfl) (d260.trans (congrArg Value.bool g259))) rfl (ltb rfl) (X_fieldAddr Tryd.underlying40 rfl Tryd.sizeOf9 rfl (hf255 4 rfl)) <| L_nil <| stepEnd rfl rfl (Ext.refl w253) ⟨fun _ => rfl, fun h => absurd (b258.symm.trans h) (by decide)⟩
          · rcases bool_two (!(impl_TreeOK.e2 a0 x7_1)) with b262 | b262
            · have d263 : s252 22 = (.bool (decide (0 < x7_1))) := ((hd256 10 rfl).1 (not_mk (not_f b262)))
              have g264 : (decide (0 < x7_1)) = false := (and_fr b258 b262)
              exact L_skip rfl rfl (ltb rfl) (d263.trans (congrArg Value.bool g264)) rfl rfl (ltb rfl) <| L_nil <| stepEnd rfl rfl (Ext.refl w253) ⟨fun h => absurd (b258.symm.trans h) (by decide), fun _ => rfl⟩
            · exact L_skipU rfl rfl (ltb rfl) ((hd256 10 rfl).2 b262) rfl (ltb rfl) <| L_nil <| stepEnd rfl rfl (Ext.refl w253) ⟨fun h => absurd (b258.symm.trans h) (by decide), fun _ => rfl⟩
        · intro s265 w266 e267 hf268 hd269 hu270
          rcases bool_two (impl_TreeOK.e3 a0 x7_1) with b271 | b271
          · have g272 : (decide (0 < x7_1)) = true := (and_r b271)
            have d273 : s265 22 = (.bool (decide (0 < x7_1))) := ((hd269 10 rfl).1 (not_mk (not_f (and_l b271))))
            have d274 : s265 22 = (.bool (decide (0 < x7_1))) := ((hd269 10 rfl).1 (not_mk (not_f (and_l b271))))
            have d275 : s265 29 = (.pointer (some ⟨b22, 1, none⟩)) := ((hd269 17 rfl).1 (and_mk (not_mk (not_f (and_l b271))) (and_r b271)))
            exact L_op (.guard 10 true 22 rfl rfl (ltb rfl) (d273.trans (congrArg Value.bool g272))) rfl (ltb rfl) (X_loadB Tryd.isAgg9 (Blk.ext k30 e267) d275 rfl) <| L_nil <| stepEnd rfl rfl (Ext.refl w266) ⟨fun _ => rfl, fun h => absurd (b271.symm.trans h) (by decide)⟩
          · rcases bool_two (!(impl_TreeOK.e2 a0 x7_1)) with b276 | b276
            · have d277 : s265 22 = (.bool (decide (0 < x7_1))) := ((hd269 10 rfl).1 (not_mk (not_f b276)))
              have g278 : (decide (0 < x7_1)) = false := (and_fr b271 b276)
              exact L_skip rfl rfl (ltb rfl) (d277.trans (congrArg Value.bool g278)) rfl rfl (ltb rfl) <| L_nil <| stepEnd rfl rfl (Ext.refl w266) ⟨fun h => absurd (b271.symm.trans h) (by decide), fun _ => rfl⟩
            · exact L_skipU rfl rfl (ltb rfl) ((hd269 10 rfl).2 b276) rfl (ltb rfl) <| L_nil <| stepEnd rfl rfl (Ext.refl w266) ⟨fun h => absurd (b271.symm.trans h) (by decide), fun _ => rfl⟩
        · intro s279 w280 e281 hf282 hd283 hu284
          rcases bool_two (impl_TreeOK.e3 a0 x7_1) with b285 | b285
          · have g286 : (decide (0 < x7_1)) = true := (and_r b285)
            have d287 : s279 22 = (.bool (decide (0 < x7_1))) := ((hd283 10 rfl).1 (not_mk (not_f (and_l b285))))
            have d288 : s279 22 = (.bool (decide (0 < x7_1))) := ((hd283 10 rfl).1 (not_mk (not_f (and_l b285))))
            have d289 : s279 28 = (S ((gt a0 (IntKind.wrap .i64 (x7_1 - 1))).path)) := ((hd283 16 rfl).1 (and_mk (not_mk (not_f (and_l b285))) (and_r b285)))
            have d290 : s279 30 = (S ((gt a0 x7_1).path)) := ((hd283 18 rfl).1 (and_mk (not_mk (not_f (and_l b285))) (and_r b285)))
            exact L_callP (.guard 10 true 22 rfl rfl (ltb rfl) (d287.trans (congrArg Value.bool g286))) rfl (ltb rfl) rfl Tryd.call117 (impl_PathLess.calls (w := w280) (a0 := (gt a0 (IntKind.wrap .i64 (x7_1 - 1))).path) (a1 := (gt a0 x7_1).path) (GV.ext gv (Ext.trans (Ext.trans e13 (Below.trans e26 (Wr.below h29 (Nat.le_of_eq z24)))) e281))) (cons2 d289 (cons2 d290 rfl)) <| fun w291 e292 => L_nil <| stepEnd rfl rfl e292 ⟨fun _ => rfl, fun h => absurd (b285.symm.trans h) (by decide)⟩
          · rcases bool_two (!(impl_TreeOK.e2 a0 x7_1)) with b293 | b293
            · have d294 : s279 22 = (.bool (decide (0 < x7_1))) := ((hd283 10 rfl).1 (not_mk (not_f b293)))
              have g295 : (decide (0 < x7_1)) = false := (and_fr b285 b293)
              exact L_skip rfl rfl (ltb rfl) (d294.trans (congrArg Value.bool g295)) rfl rfl (ltb rfl) <| L_nil <| stepEnd rfl rfl (Ext.refl w280) ⟨fun h => absurd (b285.symm.trans h) (by decide), fun _ => rfl⟩
            · exact L_skipU rfl rfl (ltb rfl) ((hd283 10 rfl).2 b293) rfl (ltb rfl) <| L_nil <| stepEnd rfl rfl (Ext.refl w280) ⟨fun h => absurd (b285.symm.trans h) (by decide), fun _ => rfl⟩
        · intro s296 w297 e298 hf299 hd300 hu301
          rcases bool_two (impl_TreeOK.e3 a0 x7_1) with b302 | b302
          · have g303 : (decide (0 < x7_1)) = true := (and_r b302)
            have d304 : s296 22 = (.bool (decide (0 < x7_1))) := ((hd300 10 rfl).1 (not_mk (not_f (and_l b302))))
            have d305 : s296 22 = (.bool (decide (0 < x7_1))) := ((hd300 10 rfl).1 (not_mk (not_f (and_l b302))))
            have d306 : s296 31 = (.bool (impl_TreeOK.e4 a0 x7_1)) := ((hd300 19 rfl).1 (and_mk (not_mk (not_f (and_l b302))) (and_r b302)))
            exact L_op (.guard 10 true 22 rfl rfl (ltb rfl) (d304.trans (congrArg Value.bool g303))) rfl (ltb rfl) (X_not d306) <| L_nil <| stepEnd rfl rfl (Ext.refl w297) ⟨fun _ => rfl, fun h => absurd (b302.symm.trans h) (by decide)⟩
          · rcases bool_two (!(impl_TreeOK.e2 a0 x7_1)) with b307 | b307
            · have d308 : s296 22 = (.bool (decide (0 < x7_1))) := ((hd300 10 rfl).1 (not_mk (not_f b307)))
              have g309 : (decide (0 < x7_1)) = false := (and_fr b302 b307)
              exact L_skip rfl rfl (ltb rfl) (d308.trans (congrArg Value.bool g309)) rfl rfl (ltb rfl) <| L_nil <| stepEnd rfl rfl (Ext.refl w297) ⟨fun h => absurd (b302.symm.trans h) (by decide), fun _ => rfl⟩
            · exact L_skipU rfl rfl (ltb rfl) ((hd300 10 rfl).2 b307) rfl (ltb rfl) <| L_nil <| stepEnd rfl rfl (Ext.refl w297) ⟨fun h => absurd (b302.symm.trans h) (by decide), fun _ => rfl⟩
        · intro s310 w311 e312 hf313 hd314 hu315
          rcases bool_two (!(impl_TreeOK.e2 a0 x7_1)) with b316 | b316
          · have g317 : (impl_TreeOK.e2 a0 x7_1) = false := (not_f b316)
            have d318 : s310 19 = (.bool (impl_TreeOK.e2 a0 x7_1)) := (hd314 7 rfl)
            rcases bool_two (decide (0 < x7_1)) with b319 | b319
            · have d320 : s310 22 = (.bool (decide (0 < x7_1))) := ((hd314 10 rfl).1 (not_mk (not_f b316)))
              have d321 : s310 32 = (.bool (!(impl_TreeOK.e4 a0 x7_1))) := ((hd314 20 rfl).1 (and_mk (not_mk (not_f b316)) b319))
              exact L_op (.guard 7 false 19 rfl rfl (ltb rfl) (d318.trans (congrArg Value.bool g317))) rfl (ltb rfl) (X_pick (b := true) (v := (.bool (!(impl_TreeOK.e4 a0 x7_1)))) (d320.trans (congrArg Value.bool b319)) d321) <| L_nil <| stepEnd rfl rfl (Ext.refl w311) ⟨fun _ => (and_t b319), fun h => absurd (b316.symm.trans h) (by decide)⟩
            · have d322 : s310 22 = (.bool (decide (0 < x7_1))) := ((hd314 10 rfl).1 (not_mk (not_f b316)))
              exact L_op (.guard 7 false 19 rfl rfl (ltb rfl) (d318.trans (congrArg Value.bool g317))) rfl (ltb rfl) (X_pick (b := false) (v := (.bool false)) (d322.trans (congrArg Value.bool b319)) rfl) <| L_nil <| stepEnd rfl rfl (Ext.refl w311) ⟨fun _ => (and_f b319), fun h => absurd (b316.symm.trans h) (by decide)⟩
          · have d323 : s310 19 = (.bool (impl_TreeOK.e2 a0 x7_1)) := (hd314 7 rfl)
            have g324 : (impl_TreeOK.e2 a0 x7_1) = true := (not_ff b316)
            exact L_skip rfl rfl (ltb rfl) (d323.trans (congrArg Value.bool g324)) rfl rfl (ltb rfl) <| L_nil <| stepEnd rfl rfl (Ext.refl w311) ⟨fun h => absurd (b316.symm.trans h) (by decide), fun _ => rfl⟩
        · intro s325 w326 e327 hf328 hd329 hu330
          rcases bool_two (impl_TreeOK.e2 a0 x7_1) with b331 | b331
          · have d332 : s325 19 = (.bool (impl_TreeOK.e2 a0 x7_1)) := (hd329 7 rfl)
            exact L_op (.plain rfl) rfl (ltb rfl) (X_pick (b := true) (v := (.bool true)) (d332.trans (congrArg Value.bool b331)) rfl) <| L_nil <| stepEnd rfl rfl (Ext.refl w326) (or_t b331)
          · have d333 : s325 19 = (.bool (impl_TreeOK.e2 a0 x7_1)) := (hd329 7 rfl)
            have d334 : s325 33 = (.bool ((decide (0 < x7_1)) && (!(impl_TreeOK.e4 a0 x7_1)))) := ((hd329 21 rfl).1 (not_mk b331))
            exact L_op (.plain rfl) rfl (ltb rfl) (X_pick (b := false) (v := (.bool ((decide (0 < x7_1)) && (!(impl_TreeOK.e4 a0 x7_1))))) (d333.trans (congrArg Value.bool b331)) d334) <| L_nil <| stepEnd rfl rfl (Ext.refl w326) (or_f b331)
        · intro s335 w336 e337 hf338 hd339 hu340
          have d341 : s335 34 = (.bool (impl_TreeOK.e1 a0 x7_1)) := (hd339 22 rfl)
          exact L_op (.plain rfl) rfl (ltb rfl) (X_move d341) <| L_nil <| stepEnd rfl rfl (Ext.refl w336) rfl
        · intro s342 w343 e344 hf345 hd346 hu347
          rcases bool_two (!(impl_TreeOK.e1 a0 x7_1)) with b348 | b348
          · have g349 : (impl_TreeOK.e1 a0 x7_1) = false := (not_f b348)
            have d350 : s342 35 = (.bool (impl_TreeOK.e1 a0 x7_1)) := (hd346 23 rfl)
            have d351 : s342 35 = (.bool (impl_TreeOK.e1 a0 x7_1)) := (hd346 23 rfl)
            exact L_op (.guard 23 false 35 rfl rfl (ltb rfl) (d350.trans (congrArg Value.bool g349))) rfl (ltb rfl) (X_move (v := v_a0) ((hf345 0 rfl).trans (K12 0 rfl))) <| L_nil <| stepEnd rfl rfl (Ext.refl w343) ⟨fun _ => rfl, fun h => absurd (b348.symm.trans h) (by decide)⟩
          · have d352 : s342 35 = (.bool (impl_TreeOK.e1 a0 x7_1)) := (hd346 23 rfl)
            have g353 : (impl_TreeOK.e1 a0 x7_1) = true := (not_ff b348)
            exact L_skip rfl rfl (ltb rfl) (d352.trans (congrArg Value.bool g353)) rfl rfl (ltb rfl) <| L_nil <| stepEnd rfl rfl (Ext.refl w343) ⟨fun h => absurd (b348.symm.trans h) (by decide), fun _ => rfl⟩
        · intro s354 w355 e356 hf357 hd358 hu359
          rcases bool_two (!(impl_TreeOK.e1 a0 x7_1)) with b360 | b360
          · have g361 : (impl_TreeOK.e1 a0 x7_1) = false := (not_f b360)
            have d362 : s354 35 = (.bool (impl_TreeOK.e1 a0 x7_1)) := (hd358 23 rfl)
            have d363 : s354 35 = (.bool (impl_TreeOK.e1 a0 x7_1)) := (hd358 23 rfl)
            exact L_op (.guard 23 false 35 rfl rfl (ltb rfl) (d362.trans (congrArg Value.bool g361))) rfl (ltb rfl) (X_move (v := (.int .i64 x7_1)) (hf357 3 rfl)) <| L_nil <| stepEnd rfl rfl (Ext.refl w355) ⟨fun _ => rfl, fun h => absurd (b360.symm.trans h) (by decide)⟩
          · have d364 : s354 35 = (.bool (impl_TreeOK.e1 a0 x7_1)) := (hd358 23 rfl)
            have g365 : (impl_TreeOK.e1 a0 x7_1) = true := (not_ff b360)
            exact L_skip rfl rfl (ltb rfl) (d364.trans (congrArg Value.bool g365)) rfl rfl (ltb rfl) <| L_nil <| stepEnd rfl rfl (Ext.refl w355) ⟨fun h => absurd (b360.symm.trans h) (by decide), fun _ => rfl⟩
        · intro s366 w367 e368 hf369 hd370 hu371
          rcases bool_two (!(impl_TreeOK.e1 a0 x7_1)) with b372 | b372
          · have g373 : (impl_TreeOK.e1 a0 x7_1) = false := (not_f b372)
            have d374 : s366 35 = (.bool (impl_TreeOK.e1 a0 x7_1)) := (hd370 23 rfl)
            have d375 : s366 35 = (.bool (impl_TreeOK.e1 a0 x7_1)) := (hd370 23 rfl)
            have d376 : s366 36 = v_a0 := ((hd370 24 rfl).1 (not_mk (not_f b372)))
            have d377 : s366 37 = (.int .i64 x7_1) := ((hd370 25 rfl).1 (not_mk (not_f b372)))
            have c378 := imp_take b372 c38
            exact L_sub (.guard 23 false 35 rfl rfl (ltb rfl) (d374.trans (congrArg Value.bool g373))) rfl (ltb rfl) rfl Tryd.underlying43 Tryd.sizeOf40 d376 (Rd.ext f_a0 (Ext.trans (Ext.trans e13 (Below.trans e26 (Wr.below h29 (Nat.le_of_eq z24)))) e368)) (l := 0) (h := x7_1) rfl ⟨_, d377⟩ c378 <| fun v379 h380 => L_nil <| stepEnd rfl rfl (Ext.refl w367) ⟨fun _ => h380, fun h => absurd (b372.symm.trans h) (by decide)⟩
          · have d381 : s366 35 = (.bool (impl_TreeOK.e1 a0 x7_1)) := (hd370 23 rfl)
            have g382 : (impl_TreeOK.e1 a0 x7_1) = true := (not_ff b372)
            exact L_skip rfl rfl (ltb rfl) (d381.trans (congrArg Value.bool g382)) rfl rfl (ltb rfl) <| L_nil <| stepEnd rfl rfl (Ext.refl w367) ⟨fun h => absurd (b372.symm.trans h) (by decide), fun _ => rfl⟩
        · intro s383 w384 e385 hf386 hd387 hu388
          rcases bool_two (!(impl_TreeOK.e1 a0 x7_1)) with b389 | b389
          · have g390 : (impl_TreeOK.e1 a0 x7_1) = false := (not_f b389)
            have d391 : s383 35 = (.bool (impl_TreeOK.e1 a0 x7_1)) := (hd387 23 rfl)
            have d392 : s383 35 = (.bool (impl_TreeOK.e1 a0 x7_1)) := (hd387 23 rfl)
            exact L_op (.guard 23 false 35 rfl rfl (ltb rfl) (d391.trans (congrArg Value.bool g390))) rfl (ltb rfl) (X_fieldAddr Tryd.underlying40 rfl Tryd.sizeOf9 rfl (hf386 4 rfl)) <| L_nil <| stepEnd rfl rfl (Ext.refl w384) ⟨fun _ => rfl, fun h => absurd (b389.symm.trans h) (by decide)⟩
          · have d393 : s383 35 = (.bool (impl_TreeOK.e1 a0 x7_1)) := (hd387 23 rfl)
            have g394 : (impl_TreeOK.e1 a0 x7_1) = true := (not_ff b389)
            exact L_skip rfl rfl (ltb rfl) (d393.trans (congrArg Value.bool g394)) rfl rfl (ltb rfl) <| L_nil <| stepEnd rfl rfl (Ext.refl w384) ⟨fun h => absurd (b389.symm.trans h) (by decide), fun _ => rfl⟩
        · intro s395 w396 e397 hf398 hd399 hu400
          rcases bool_two (!(impl_TreeOK.e1 a0 x7_1)) with b401 | b401
          · have g402 : (impl_TreeOK.e1 a0 x7_1) = false := (not_f b401)
            have d403 : s395 35 = (.bool (impl_TreeOK.e1 a0 x7_1)) := (hd399 23 rfl)
            have d404 : s395 35 = (.bool (impl_TreeOK.e1 a0 x7_1)) := (hd399 23 rfl)
            have d405 : s395 39 = (.pointer (some ⟨b22, 1, none⟩)) := ((hd399 27 rfl).1 (not_mk (not_f b401)))
            exact L_op (.guard 23 false 35 rfl rfl (ltb rfl) (d403.trans (congrArg Value.bool g402))) rfl (ltb rfl) (X_loadB Tryd.isAgg9 (Blk.ext k30 e397) d405 rfl) <| L_nil <| stepEnd rfl rfl (Ext.refl w396) ⟨fun _ => rfl, fun h => absurd (b401.symm.trans h) (by decide)⟩
          · have d406 : s395 35 = (.bool (impl_TreeOK.e1 a0 x7_1)) := (hd399 23 rfl)
            have g407 : (impl_TreeOK.e1 a0 x7_1) = true := (not_ff b401)
            exact L_skip rfl rfl (ltb rfl) (d406.trans (congrArg Value.bool g407)) rfl rfl (ltb rfl) <| L_nil <| stepEnd rfl rfl (Ext.refl w396) ⟨fun h => absurd (b401.symm.trans h) (by decide), fun _ => rfl⟩
        · intro s408 w409 e410 hf411 hd412 hu413
          rcases bool_two (!(impl_TreeOK.e1 a0 x7_1)) with b414 | b414
          · have g415 : (impl_TreeOK.e1 a0 x7_1) = false := (not_f b414)
            have d416 : s408 35 = (.bool (impl_TreeOK.e1 a0 x7_1)) := (hd412 23 rfl)
            have d417 : s408 35 = (.bool (impl_TreeOK.e1 a0 x7_1)) := (hd412 23 rfl)
            have d418 : s408 40 = (S ((gt a0 x7_1).path)) := ((hd412 28 rfl).1 (not_mk (not_f b414)))
            have c419 := imp_take b414 c41
            exact L_callP (.guard 23 false 35 rfl rfl (ltb rfl) (d416.trans (congrArg Value.bool g415))) rfl (ltb rfl) rfl Tryd.call93 (impl_parent.calls (w := w409) (a0 := (gt a0 x7_1).path) (of_decide_eq_true c419)) (cons2 d418 rfl) <| fun w420 e421 => L_nil <| stepEnd rfl rfl e421 ⟨fun _ => rfl, fun h => absurd (b414.symm.trans h) (by decide)⟩
          · have d422 : s408 35 = (.bool (impl_TreeOK.e1 a0 x7_1)) := (hd412 23 rfl)
            have g423 : (impl_TreeOK.e1 a0 x7_1) = true := (not_ff b414)
            exact L_skip rfl rfl (ltb rfl) (d422.trans (congrArg Value.bool g423)) rfl rfl (ltb rfl) <| L_nil <| stepEnd rfl rfl (Ext.refl w409) ⟨fun h => absurd (b414.symm.trans h) (by decide), fun _ => rfl⟩
        · intro s424 w425 e426 hf427 hd428 hu429
          rcases bool_two (!(impl_TreeOK.e1 a0 x7_1)) with b430 | b430
          · have g431 : (impl_TreeOK.e1 a0 x7_1) = false := (not_f b430)
            have d432 : s424 35 = (.bool (impl_TreeOK.e1 a0 x7_1)) := (hd428 23 rfl)
            have d433 : s424 35 = (.bool (impl_TreeOK.e1 a0 x7_1)) := (hd428 23 rfl)
            have d434 : Rd 4 encNd w425 (s424 38) (sub a0 0 x7_1) := ((hd428 26 rfl).1 (not_mk (not_f b430)))
            have d435 : s424 41 = (S (parentP ((gt a0 x7_1).path))) := ((hd428 29 rfl).1 (not_mk (not_f b430)))
            have c436 := imp_take b430 c44
            exact L_callP (.guard 23 false 35 rfl rfl (ltb rfl) (d432.trans (congrArg Value.bool g431))) rfl (ltb rfl) rfl Tryd.call118 (impl_isDir.calls (w := w425) (a0 := sub a0 0 x7_1) (a1 := (parentP ((gt a0 x7_1).path))) d434 (of_decide_eq_true c436)) (cons2 rfl (cons2 d435 rfl)) <| fun w437 e438 => L_nil <| stepEnd rfl rfl e438 ⟨fun _ => rfl, fun h => absurd (b430.symm.trans h) (by decide)⟩
          · have d439 : s424 35 = (.bool (impl_TreeOK.e1 a0 x7_1)) := (hd428 23 rfl)
            have g440 : (impl_TreeOK.e1 a0 x7_1) = true := (not_ff b430)
            exact L_skip rfl rfl (ltb rfl) (d439.trans (congrArg Value.bool g440)) rfl rfl (ltb rfl) <| L_nil <| stepEnd rfl rfl (Ext.refl w425) ⟨fun h => absurd (b430.symm.trans h) (by decide), fun _ => rfl⟩
        · intro s441 w442 e443 hf444 hd445 hu446
          rcases bool_two (!(impl_TreeOK.e1 a0 x7_1)) with b447 | b447
          · have g448 : (impl_TreeOK.e1 a0 x7_1) = false := (not_f b447)
            have d449 : s441 35 = (.bool (impl_TreeOK.e1 a0 x7_1)) := (hd445 23 rfl)
            have d450 : s441 35 = (.bool (impl_TreeOK.e1 a0 x7_1)) := (hd445 23 rfl)
            have d451 : s441 42 = (.bool (isDirN (sub a0 0 x7_1) (parentP ((gt a0 x7_1).path)))) := ((hd445 30 rfl).1 (not_mk (not_f b447)))
            exact L_op (.guard 23 false 35 rfl rfl (ltb rfl) (d449.trans (congrArg Value.bool g448))) rfl (ltb rfl) (X_not d451) <| L_nil <| stepEnd rfl rfl (Ext.refl w442) ⟨fun _ => rfl, fun h => absurd (b447.symm.trans h) (by decide)⟩
          · have d452 : s441 35 = (.bool (impl_TreeOK.e1 a0 x7_1)) := (hd445 23 rfl)
            have g453 : (impl_TreeOK.e1 a0 x7_1) = true := (not_ff b447)
            exact L_skip rfl rfl (ltb rfl) (d452.trans (congrArg Value.bool g453)) rfl rfl (ltb rfl) <| L_nil <| stepEnd rfl rfl (Ext.refl w442) ⟨fun h => absurd (b447.symm.trans h) (by decide), fun _ => rfl⟩
        · intro s454 w455 e456 hf457 hd458 hu459
          rcases bool_two (impl_TreeOK.e1 a0 x7_1) with b460 | b460
          · have d461 : s454 35 = (.bool (impl_TreeOK.e1 a0 x7_1)) := (hd458 23 rfl)
            exact L_op (.plain rfl) rfl (ltb rfl) (X_pick (b := true) (v := (.bool true)) (d461.trans (congrArg Value.bool b460)) rfl) <| L_nil <| stepEnd rfl rfl (Ext.refl w455) (or_t b460)
          · have d462 : s454 35 = (.bool (impl_TreeOK.e1 a0 x7_1)) := (hd458 23 rfl)
            have d463 : s454 43 = (.bool (!(isDirN (sub a0 0 x7_1) (parentP ((gt a0 x7_1).path))))) := ((hd458 31 rfl).1 (not_mk b460))
            exact L_op (.plain rfl) rfl (ltb rfl) (X_pick (b := false) (v := (.bool (!(isDirN (sub a0 0 x7_1) (parentP ((gt a0 x7_1).path)))))) (d462.trans (congrArg Value.bool b460)) d463) <| L_nil <| stepEnd rfl rfl (Ext.refl w455) (or_f b460)
        intro s464 w465 e466 hf467 ha468
        have K469 := Kp.ofD (kp := [(12, 45)]) rfl hf467
        have d470 : s464 44 = (.bool ((impl_TreeOK.e1 a0 x7_1) || (!(isDirN (sub a0 0 x7_1) (parentP ((gt a0 x7_1).path)))))) := ha468 32 rfl
        clear ha468 hf467
        refine thn_n ?_
        rcases bif_two H with ⟨q471, H⟩ | ⟨q471, H⟩
        · refine W_true (d470.trans (congrArg Value.bool q471)) <| W_seq <| W_reg <| L_op (.plain rfl) rfl (ltb rfl) (X_assign (v := (.bool false)) rfl) <| L_nil <| thn_n <| W_ret <| blk_r <| thn_r <| thn_r <| blk_r <| thn_r <| thn_r <| fin_r ?_
          obtain rfl := Option.some.inj H
          obtain rfl := Option.some.inj S17
          have H := C4
          obtain rfl := Option.some.inj H
          exact fin1 rfl (Ext.trans (Ext.trans e13 (Below.trans e26 (Wr.below h29 (Nat.le_of_eq z24)))) e466)
        · refine W_false (d470.trans (congrArg Value.bool q471)) <| W_skip <| blk_n <| thn_n <| W_reg <| L_op (.plain rfl) rfl (ltb rfl) (X_add ((K469 7 rfl).trans h15) rfl) <| L_op (.plain rfl) rfl (ltb rfl) (X_move (v := (.int .i64 (IntKind.wrap .i64 (x7_1 + 1)))) rfl) <| L_nil <| thn_n ?_
          obtain rfl := Option.some.inj H
          exact ⟨_, Nat.lt_succ_self _, IntKind.wrap .i64 (x7_1 + 1), (Kp.upd (Kp.upd (Kp.cut (Kp.upd (Kp.upd (Kp.upd (Kp.upd (Kp.upd (Kp.upd K12 rfl) rfl) rfl) rfl) rfl) rfl) K469 rfl) rfl) rfl), rfl, (Ext.trans (Ext.trans e13 (Below.trans e26 (Wr.below h29 (Nat.le_of_eq z24)))) e466), S17⟩
      · refine W_false (congrArg Value.bool q18) <| W_exit <| thn_x <| thn_x <| blk_x <| thn_n ?_
        obtain rfl := Option.some.inj H
        obtain rfl := Option.some.inj S17
        exact ⟨(Kp.upd K12 rfl), e13, rfl⟩
  · rintro s6 w5 ⟨K7, e8, y472⟩
    rw [y472] at C4
    have H := C4
    replace H : _ = some _ := H
    refine thn_n <| W_seq <| W_reg <| L_op (.plain rfl) rfl (ltb rfl) (X_assign (v := (.bool true)) rfl) <| L_nil <| thn_n <| W_ret <| fin_r ?_
    obtain rfl := Option.some.inj H
    exact fin1 rfl e8
theorem impl_TreeOK.calls {w : World} {a0 : List Nd} (gv : GV 0 w) {v_a0 : Value} (f_a0 : Rd 4 encNd w v_a0 a0) (h0 : a0.length ≤ 1048576) (h1 : ∀ x ∈ a0, x.path.length ≤ 1048576) :
    Calls Tryd.prog 77 #[v_a0] w (Rt (RP w (.bool (treeOK a0)))) := by
  obtain ⟨k, h⟩ := impl_TreeOK.eq a0 h0 h1
  exact impl_TreeOK.walk gv f_a0 h
/-! impl.ancestors -/
theorem impl_ancestors.walk {k : Nat} {w : World} {a0 : List UInt8} {r : List (List UInt8)} (H : impl_ancestors.sh k a0 = some r) :
    Calls Tryd.prog 119 #[S a0] w (Rt (RO 9 1 encS w r)) := by
  unfold impl_ancestors.sh at H
  refine calls_of_W Tryd.func119 rfl (Nat.le_of_ble_eq_true rfl) Tryd.ntmps119 rfl ?_
  refine W_seq <| W_reg <| L_op (.plain rfl) rfl (ltb rfl) (X_assign (v := (.slice none 0 0)) rfl) <| L_nil <| thn_n <| W_seq <| W_reg <| L_lit (.plain rfl) rfl (ltb rfl) rfl Tryd.underlying57 Tryd.sizeOf9 Tryd.zeroValue9 rfl rfl rfl (vs := []) rfl (lit_all rfl) <| fun b1 w2 z3 z4 e5 k6 => L_op (.plain rfl) rfl (ltb rfl) (X_assign (v := (.slice (some ⟨b1, 0, none⟩) 0 0)) rfl) <| L_nil <| thn_n <| W_seq <| W_seq <| W_reg <| L_op (.plain rfl) rfl (ltb rfl) (X_move (v := (S a0)) rfl) ?_
  obtain ⟨c7, H⟩ := bif_some H
  refine L_callP (.plain rfl) rfl (ltb rfl) rfl Tryd.call93 (impl_parent.calls (w := w2) (a0 := a0) (of_decide_eq_true c7)) rfl <| fun w8 e9 => L_op (.plain rfl) rfl (ltb rfl) (X_assign (v := (S (parentP a0))) rfl) <| L_nil <| thn_n ?_
  obtain ⟨z13, L14, C15⟩ := bind_some H
  clear H
  refine  W_cutQ (fun s0 sQ wQ => ∃ (x3_16 : List (List UInt8)) (v17 : Value), Kp [(0, 1), (3, 4), (7, 15)] s0 sQ ∧ sQ 3 = v17 ∧ Ow 9 1 encS w8.heap.size wQ v17 x3_16 ∧ Ext w8 wQ ∧ z13 = .inr x3_16) ?_ ?_
  · refine W_block <| W_loopI (fun s0 kk sQ wQ => ∃ (x0_10 : List UInt8) (x3_11 : List (List UInt8)) (v12 : Value), Kp [(0, 1), (3, 4), (7, 15)] s0 sQ ∧ sQ 0 = S x0_10 ∧ sQ 3 = v12 ∧ Ow 9 1 encS w8.heap.size wQ v12 x3_11 ∧ Ext w8 wQ ∧ loopF (impl_ancestors.b1) kk (x0_10, x3_11) = some z13) k ⟨(parentP a0), ([] : List (List UInt8)), (.slice (some ⟨b1, 0, none⟩) 0 0), (Kp.refl _ _), rfl, rfl, (Ow.zero), (Ext.refl w8), L14⟩ ?_
    rintro k22 s23 w24 ⟨x0_10, x3_11, v12, K25, h28, h29, h30, e26, L27⟩
    cases k22 with
    | zero => exact absurd L27 (by simp [loopF])
    | succ k22 =>
      obtain ⟨t31, H, S32⟩ := loopF_succ L27
      clear L27
      unfold impl_ancestors.b1 at H
      refine W_seq <| W_seq <| W_reg <| L_op (.plain rfl) rfl (ltb rfl) (X_move (v := (S x0_10)) h28) <| L_op (.plain rfl) rfl (ltb rfl) (X_sne rfl rfl) <| L_nil <| thn_n ?_
      rcases bif_two H with ⟨q33, H⟩ | ⟨q33, H⟩
      · refine W_true (congrArg Value.bool q33) <| W_skip <| thn_n <| W_seq <| W_block <| W_reg <| L_op (.plain rfl) rfl (ltb rfl) (X_move (v := v12) h29) <| L_op (.plain rfl) rfl (ltb rfl) (X_move (v := (S x0_10)) h28) <| L_lit (.plain rfl) rfl (ltb rfl) rfl Tryd.underlying57 Tryd.sizeOf9 Tryd.zeroValue9 rfl rfl rfl (vs := [(S x0_10)]) rfl (lit_all rfl) <| fun b34 w35 z36 z37 e38 k39 => ?_
        obtain ⟨c40, H⟩ := bif_some H
        refine L_append (enc := encS) (.plain rfl) rfl (ltb rfl) rfl El.t57 rfl rfl (Ow.ext h30 e38) (Ow.rd (Ow.new (xs := [x0_10]) (sz := 1) (enc := encS) (base := w24.heap.size) k39 (Nat.le_of_eq z36) rfl (fun _ _ => by rfl) (Nat.le_of_ble_eq_true rfl))) (ones_S _) (of_decide_eq_true c40) ((Ext.trans e26 e38)).size <| fun v41 w42 o43 z44 g45 => L_op (.plain rfl) rfl (ltb rfl) (X_assign (v := v41) rfl) <| L_nil <| blk_n <| thn_n <| W_reg <| L_op (.plain rfl) rfl (ltb rfl) (X_move (v := (S x0_10)) h28) ?_
        obtain ⟨c46, H⟩ := bif_some H
        refine L_callP (.plain rfl) rfl (ltb rfl) rfl Tryd.call93 (impl_parent.calls (w := w42) (a0 := x0_10) (of_decide_eq_true c46)) rfl <| fun w47 e48 => L_op (.plain rfl) rfl (ltb rfl) (X_assign (v := (S (parentP x0_10))) rfl) <| L_nil <| thn_n ?_
        obtain rfl := Option.some.inj H
        exact ⟨_, Nat.lt_succ_self _, (parentP x0_10), x3_11 ++ ([x0_10] : List (List UInt8)), v41, (Kp.upd (Kp.upd (Kp.upd (Kp.upd (Kp.upd (Kp.upd (Kp.upd (Kp.upd (Kp.upd (Kp.upd K25 rfl) rfl) rfl) rfl) rfl) rfl) rfl) rfl) rfl) rfl), rfl, rfl, (Ow.ext o43 e48), (Ext.trans (g45 _ (Ext.trans e26 e38)) e48), S32⟩
      · refine W_false (congrArg Value.bool q33) <| W_exit <| thn_x <| thn_x <| blk_x <| thn_n ?_
        obtain rfl := Option.some.inj H
        obtain rfl := Option.some.inj S32
        exact ⟨x3_11, v12, (Kp.upd (Kp.upd K25 rfl) rfl), h29, h30, e26, rfl⟩
  · rintro s19 w18 ⟨x3_16, v17, K20, h49, h50, e21, y51⟩
    rw [y51] at C15
    have H := C15
    replace H : _ = some _ := H
    refine thn_n <| W_seq <| W_reg <| L_op (.plain rfl) rfl (ltb rfl) (X_move (v := v17) h49) <| L_op (.plain rfl) rfl (ltb rfl) (X_assign (v := v17) rfl) <| L_nil <| thn_n <| W_ret <| fin_r ?_
    obtain rfl := Option.some.inj H
    exact fin1o rfl (Ext.trans (Ext.trans e5 e9) e21) h50 ((Ext.trans e5 e9)).size
theorem impl_ancestors.calls {w : World} {a0 : List UInt8} (h0 : a0.length ≤ 1048576) :
    Calls Tryd.prog 119 #[S a0] w (Rt (RO 9 1 encS w (ancs a0))) := by
  obtain ⟨k, h⟩ := impl_ancestors.eq a0 h0
  exact impl_ancestors.walk h
/-! spec.l04Ask -/
theorem spec_l04Ask.walk {w : World} {a0 : List Nd} {a1 : List UInt8} {v_a0 : Value} (f_a0 : Rd 4 encNd w v_a0 a0) {r : Int} (H : spec_l04Ask.sh a0 a1 = some r) :
    Calls Tryd.prog 73 #[v_a0, S a1] w (Rt (RP w (.int .i64 r))) := by
  unfold spec_l04Ask.sh at H
  refine calls_of_W Tryd.func73 rfl (Nat.le_of_ble_eq_true rfl) Tryd.ntmps73 rfl ?_
  refine W_seq <| W_reg <| L_op (.plain rfl) rfl (ltb rfl) (X_assign (v := (.int .i64 0)) rfl) <| L_nil <| thn_n <| W_seq <| W_seq <| W_reg <| L_op (.plain rfl) rfl (ltb rfl) (X_move (v := v_a0) rfl) <| L_op (.plain rfl) rfl (ltb rfl) (X_lenR Tryd.underlying43 rfl f_a0) <| L_op (.plain rfl) rfl (ltb rfl) (X_gtr rfl rfl) <| L_op (.plain rfl) rfl (ltb rfl) (X_move (v := (.bool (decide (4096 < (a0.length : Int))))) rfl) <| L_grp 4 [(9, 13)] 12 (.bool ((decide (4096 < (a0.length : Int))) || (decide (65536 < (a1.length : Int))))) ?_ ?_
  · rcases bool_two (decide (4096 < (a0.length : Int))) with b0_ | b0_
    · exact L_skip rfl rfl (ltb rfl) (congrArg Value.bool b0_) rfl rfl (ltb rfl) <| L_skip rfl rfl (ltb rfl) (congrArg Value.bool b0_) rfl rfl (ltb rfl) <| L_skip rfl rfl (ltb rfl) (congrArg Value.bool b0_) rfl rfl (ltb rfl) <| L_op (.plain rfl) rfl (ltb rfl) (X_pick (b := true) (v := (.bool true)) (congrArg Value.bool b0_) rfl) <| L_nil <| thn_n ⟨(Kp.upd (Kp.upd (Kp.upd (Kp.upd (Kp.refl _ _) rfl) rfl) rfl) rfl), (or_t b0_), (Ext.refl w)⟩
    · exact L_op (.guard 3 false 8 rfl rfl (ltb rfl) (congrArg Value.bool b0_)) rfl (ltb rfl) (X_move (v := (S a1)) rfl) <| L_op (.guard 3 false 8 rfl rfl (ltb rfl) (congrArg Value.bool b0_)) rfl (ltb rfl) (X_lenS Tryd.underlying9 rfl) <| L_op (.guard 3 false 8 rfl rfl (ltb rfl) (congrArg Value.bool b0_)) rfl (ltb rfl) (X_gtr rfl rfl) <| L_op (.plain rfl) rfl (ltb rfl) (X_pick (b := false) (v := (.bool (decide (65536 < (a1.length : Int))))) (congrArg Value.bool b0_) rfl) <| L_nil <| thn_n ⟨(Kp.upd (Kp.upd (Kp.upd (Kp.upd (Kp.refl _ _) rfl) rfl) rfl) rfl), (or_f b0_), (Ext.refl w)⟩
  intro s6 w2 K3 h4 e5
  refine L_nil <| thn_n ?_
  rcases bif_two H with ⟨q7, H⟩ | ⟨q7, H⟩
  · refine W_true (h4.trans (congrArg Value.bool q7)) <| W_seq <| W_reg <| L_op (.plain rfl) rfl (ltb rfl) (X_assign (v := (.int .i64 2)) rfl) <| L_nil <| thn_n <| W_ret <| thn_r <| fin_r ?_
    obtain rfl := Option.some.inj H
    exact fin1 rfl e5
  · refine W_false (h4.trans (congrArg Value.bool q7)) <| W_skip <| thn_n <| W_seq <| W_seq <| W_reg <| L_op (.plain rfl) rfl (ltb rfl) (X_move (v := v_a0) (K3 0 rfl)) ?_
    obtain ⟨c8, H⟩ := bif_some H
    refine L_callP (.plain rfl) rfl (ltb rfl) rfl Tryd.call84 (spec_l04OK.calls (w := w2) (a0 := a0) (Rd.ext f_a0 e5) (of_decide_eq_true c8)) rfl <| fun w9 e10 => L_op (.plain rfl) rfl (ltb rfl) (X_not rfl) <| L_nil <| thn_n ?_
    rcases bif_two H with ⟨q11, H⟩ | ⟨q11, H⟩
    · refine W_true (congrArg Value.bool q11) <| W_seq <| W_reg <| L_op (.plain rfl) rfl (ltb rfl) (X_assign (v := (.int .i64 1)) rfl) <| L_nil <| thn_n <| W_ret <| thn_r <| fin_r ?_
      obtain rfl := Option.some.inj H
      exact fin1 rfl (Ext.trans e5 e10)
    · refine W_false (congrArg Value.bool q11) <| W_skip <| thn_n <| W_seq <| W_reg <| L_op (.plain rfl) rfl (ltb rfl) (X_assign (v := (.int .i64 0)) rfl) <| L_nil <| thn_n <| W_ret <| fin_r ?_
      obtain rfl := Option.some.inj H
      exact fin1 rfl (Ext.trans e5 e10)
theorem spec_l04Ask.calls {w : World} {a0 : List Nd} {a1 : List UInt8} {v_a0 : Value} (f_a0 : Rd 4 encNd w v_a0 a0) (h0 : ∀ x ∈ a0, x.path.length ≤ 1048576) :
    Calls Tryd.prog 73 #[v_a0, S a1] w (Rt (RP w (.int .i64 (askT a0 a1)))) := spec_l04Ask.walk f_a0 (spec_l04Ask.eq a0 a1 h0)
/-! spec.l04Find -/
theorem spec_l04Find.walk {k : Nat} {w : World} {a0 : List Nd} {a1 : List UInt8} {v_a0 : Value} (f_a0 : Rd 4 encNd w v_a0 a0) {r : Nd × Int} (H : spec_l04Find.sh k a0 a1 = some r) :
    Calls Tryd.prog 74 #[v_a0, S a1] w (Rt (RP w (.tuple #[.agg (encNd r.1).toArray, .int .i64 r.2]))) := by
  unfold spec_l04Find.sh at H
  refine calls_of_WG Tryd.func74 rfl (Nat.le_of_ble_eq_true rfl) Tryd.ntmps74 ?_
  refine W_seq <| W_reg <| L_alloc (.plain rfl) rfl (ltb rfl) rfl Tryd.zeroValue40 <| fun b1 w2 z3 z4 e5 k6 => L_op (.plain rfl) rfl (ltb rfl) (X_assign (v := (.int .i64 0)) rfl) <| L_nil <| thn_n <| W_seq <| W_reg <| L_op (.plain rfl) rfl (ltb rfl) (X_move (v := (S a1)) rfl) ?_
  obtain ⟨c7, H⟩ := bif_some H
  refine L_callO (.plain rfl) rfl (ltb rfl) rfl Tryd.call99 (spec_l00Cut.calls (w := w2) (a0 := a1) (a1 := 47) (of_decide_eq_true c7)) rfl <| fun v10 w8 e9 o11 => L_op (.plain rfl) rfl (ltb rfl) (X_assign (v := v10) rfl) <| L_nil <| thn_n <| W_seq <| W_reg <| L_op (.plain rfl) rfl (ltb rfl) (X_assign (v := (S ([] : List UInt8))) rfl) <| L_nil <| thn_n <| W_seq <| W_seq <| W_reg <| L_op (.plain rfl) rfl (ltb rfl) (X_assign (v := (.int .i64 0)) rfl) <| L_nil <| thn_n ?_
  obtain ⟨z15, L16, C17⟩ := bind_some H
  clear H
  refine  W_cutQ (fun s0 sQ wQ => ∃ (y18 : Nd), Kp [(5, 6), (7, 10), (12, 49)] s0 sQ ∧ Blk wQ b1 (encNd y18).toArray 40 ∧ Ext w wQ ∧ z15 = .inr y18) ?_ ?_
  · refine W_block <| W_loopI (fun s0 kk sQ wQ => ∃ (x7_12 : List UInt8) (x8_13 : Int) (y14 : Nd), Kp [(5, 6), (7, 10), (12, 49)] s0 sQ ∧ sQ 7 = S x7_12 ∧ sQ 8 = .int .i64 x8_13 ∧ Blk wQ b1 (encNd y14).toArray 40 ∧ Ow 9 1 encS w2.heap.size wQ v10 (cut 47 a1) ∧ Ext w wQ ∧ loopF (spec_l04Find.b1 a0 a1) kk (x7_12, x8_13, y14) = some z15) k ⟨([] : List UInt8), 0, (⟨0, ([] : List UInt8), ([] : List UInt8), 0⟩ : Nd), (Kp.refl _ _), rfl, rfl, (Blk.ext k6 e9), o11, (Ext.trans e5 e9), L16⟩ ?_
    rintro k23 s24 w25 ⟨x7_12, x8_13, y14, K26, h29, h30, h31, h32, e27, L28⟩
    cases k23 with
    | zero => exact absurd L28 (by simp [loopF])
    | succ k23 =>
      obtain ⟨t33, H, S34⟩ := loopF_succ L28
      clear L28
      unfold spec_l04Find.b1 at H
      refine W_seq <| W_seq <| W_reg <| L_op (.plain rfl) rfl (ltb rfl) (X_move (v := (.int .i64 x8_13)) h30) <| L_op (.plain rfl) rfl (ltb rfl) (X_move (v := v10) (K26 6 rfl)) <| L_op (.plain rfl) rfl (ltb rfl) (X_lenR Tryd.underlying57 rfl (Ow.rd h32)) <| L_op (.plain rfl) rfl (ltb rfl) (X_lss rfl rfl) <| L_nil <| thn_n ?_
      rcases bif_two H with ⟨q35, H⟩ | ⟨q35, H⟩
      · refine W_true (congrArg Value.bool q35) <| W_skip <| thn_n <| W_seq <| W_block <| W_seq <| W_reg <| L_op (.plain rfl) rfl (ltb rfl) (X_move (v := (S x7_12)) h29) <| L_op (.plain rfl) rfl (ltb rfl) (X_move (v := v10) (K26 6 rfl)) <| L_op (.plain rfl) rfl (ltb rfl) (X_move (v := (.int .i64 x8_13)) h30) ?_
        obtain ⟨c36, H⟩ := bif_some H
        refine L_idx (.plain rfl) rfl (ltb rfl) rfl Tryd.underlying57 Tryd.sizeOf9 rfl (Ow.rd h32) rfl c36 <| fun p37 h38 => L_op (.plain rfl) rfl (ltb rfl) (X_loadAt Tryd.isAgg9 rfl h38 rfl) ?_
        obtain ⟨c39, H⟩ := bif_some H
        obtain ⟨c40, H⟩ := bif_some H
        refine L_callP (.plain rfl) rfl (ltb rfl) rfl Tryd.call114 (spec_l01Join.calls (w := w25) (a0 := x7_12) (a1 := gt (cut 47 a1) x8_13) (of_decide_eq_true c39) (of_decide_eq_true c40)) rfl <| fun w41 e42 => L_op (.plain rfl) rfl (ltb rfl) (X_assign (v := (S (joinP x7_12 (gt (cut 47 a1) x8_13)))) rfl) <| L_nil <| thn_n <| W_seq <| W_reg <| L_op (.plain rfl) rfl (ltb rfl) (X_move (v := v_a0) (K26 0 rfl)) <| L_op (.plain rfl) rfl (ltb rfl) (X_move (v := (S (joinP x7_12 (gt (cut 47 a1) x8_13)))) rfl) ?_
        obtain ⟨c43, H⟩ := bif_some H
        refine L_callP (.plain rfl) rfl (ltb rfl) rfl Tryd.call115 (spec_l04At.calls (w := w41) (a0 := a0) (a1 := (joinP x7_12 (gt (cut 47 a1) x8_13))) (Rd.ext f_a0 (Ext.trans e27 e42)) (of_decide_eq_true c43)) rfl <| fun w44 e45 => L_op (.plain rfl) rfl (ltb rfl) (X_assign (v := (.int .i64 (findN a0 (joinP x7_12 (gt (cut 47 a1) x8_13))))) rfl) <| L_nil <| thn_n <| W_block <| W_seq <| W_reg <| L_op (.plain rfl) rfl (ltb rfl) (X_move (v := (.int .i64 (findN a0 (joinP x7_12 (gt (cut 47 a1) x8_13))))) rfl) <| L_op (.plain rfl) rfl (ltb rfl) (X_lss rfl rfl) <| L_op (.plain rfl) rfl (ltb rfl) (X_assign rfl) <| L_nil <| thn_n ?_
        rcases bif_two H with ⟨q46, H⟩ | ⟨q46, H⟩
        · refine W_true (congrArg Value.bool q46) <| W_seq <| W_reg <| L_op (.plain rfl) rfl (ltb rfl) (X_build1 (vs := []) (pl := #[(0, 1), (1, 1), (2, 1), (3, 1)]) Tryd.underlying40 Tryd.zeroValue40 rfl (fun _ => by kernel_rfl) rfl rfl rfl) <| L_storeA (.plain rfl) rfl rfl Tryd.sizeOf40 (K26 4 rfl) rfl rfl rfl rfl (Blk.ext h31 (Ext.trans e42 e45)) <| fun w47 h48 k49 => L_op (.plain rfl) rfl (ltb rfl) (X_assign (v := (.int .i64 5)) rfl) <| L_nil <| thn_n <| W_ret <| blk_r <| blk_r <| thn_r <| thn_r <| blk_r <| thn_r <| thn_r <| finG_r ?_
          obtain rfl := Option.some.inj H
          obtain rfl := Option.some.inj S34
          have H := C17
          obtain rfl := Option.some.inj H
          exact finC2 rfl (K26 4 rfl) k49 Tryd.isAgg40 Tryd.sizeOf40 rfl rfl (Below.trans (Ext.trans (Ext.trans e27 e42) e45) (Wr.below h48 (Nat.le_of_eq z3)))
        · refine W_false (congrArg Value.bool q46) <| W_seq <| W_reg <| L_op (.plain rfl) rfl (ltb rfl) (X_move (v := (.int .i64 x8_13)) h30) <| L_op (.plain rfl) rfl (ltb rfl) (X_move (v := v10) (K26 6 rfl)) <| L_op (.plain rfl) rfl (ltb rfl) (X_lenR Tryd.underlying57 rfl (Ow.rd (Ow.ext h32 (Ext.trans e42 e45)))) <| L_op (.plain rfl) rfl (ltb rfl) (X_sub rfl rfl) <| L_op (.plain rfl) rfl (ltb rfl) (X_eql rfl rfl) <| L_op (.plain rfl) rfl (ltb rfl) (X_assign rfl) <| L_nil <| thn_n ?_
          rcases bif_two H with ⟨q50, H⟩ | ⟨q50, H⟩
          · refine W_true (congrArg Value.bool q50) <| W_seq <| W_reg <| L_op (.plain rfl) rfl (ltb rfl) (X_move (v := v_a0) (K26 0 rfl)) <| L_op (.plain rfl) rfl (ltb rfl) (X_move (v := (.int .i64 (findN a0 (joinP x7_12 (gt (cut 47 a1) x8_13))))) rfl) ?_
            obtain ⟨c51, H⟩ := bif_some H
            refine L_idx (.plain rfl) rfl (ltb rfl) rfl Tryd.underlying43 Tryd.sizeOf40 rfl (Rd.ext f_a0 (Ext.trans (Ext.trans e27 e42) e45)) rfl c51 <| fun p52 h53 => L_op (.plain rfl) rfl (ltb rfl) (X_loadS Tryd.isAgg40 Tryd.sizeOf40 rfl rfl h53) <| L_storeA (.plain rfl) rfl rfl Tryd.sizeOf40 (K26 4 rfl) rfl rfl rfl rfl (Blk.ext h31 (Ext.trans e42 e45)) <| fun w54 h55 k56 => L_op (.plain rfl) rfl (ltb rfl) (X_assign (v := (.int .i64 0)) rfl) <| L_nil <| thn_n <| W_ret <| blk_r <| blk_r <| thn_r <| thn_r <| blk_r <| thn_r <| thn_r <| finG_r ?_
            obtain rfl := Option.some.inj H
            obtain rfl := Option.some.inj S34
            have H := C17
            obtain rfl := Option.some.inj H
            exact finC2 rfl (K26 4 rfl) k56 Tryd.isAgg40 Tryd.sizeOf40 rfl rfl (Below.trans (Ext.trans (Ext.trans e27 e42) e45) (Wr.below h55 (Nat.le_of_eq z3)))
          · refine W_false (congrArg Value.bool q50) <| W_seq <| W_reg <| L_op (.plain rfl) rfl (ltb rfl) (X_move (v := v_a0) (K26 0 rfl)) <| L_op (.plain rfl) rfl (ltb rfl) (X_move (v := (.int .i64 (findN a0 (joinP x7_12 (gt (cut 47 a1) x8_13))))) rfl) ?_
            obtain ⟨c57, H⟩ := bif_some H
            refine L_idx (.plain rfl) rfl (ltb rfl) rfl Tryd.underlying43 Tryd.sizeOf40 rfl (Rd.ext f_a0 (Ext.trans (Ext.trans e27 e42) e45)) rfl c57 <| fun p58 h59 => L_op (.plain rfl) rfl (ltb rfl) (X_fieldAddr Tryd.underlying40 rfl Tryd.sizeOf3 rfl rfl) <| L_op (.plain rfl) rfl (ltb rfl) (X_loadF Tryd.isAgg3 (j := 0) h59 rfl rfl) <| L_op (.plain rfl) rfl (ltb rfl) (X_neq rfl rfl) <| L_op (.plain rfl) rfl (ltb rfl) (X_assign rfl) <| L_nil <| thn_n ?_
            rcases bif_two H with ⟨q60, H⟩ | ⟨q60, H⟩
            · refine W_true (congrArg Value.bool q60) <| W_seq <| W_reg <| L_op (.plain rfl) rfl (ltb rfl) (X_build1 (vs := []) (pl := #[(0, 1), (1, 1), (2, 1), (3, 1)]) Tryd.underlying40 Tryd.zeroValue40 rfl (fun _ => by kernel_rfl) rfl rfl rfl) <| L_storeA (.plain rfl) rfl rfl Tryd.sizeOf40 (K26 4 rfl) rfl rfl rfl rfl (Blk.ext h31 (Ext.trans e42 e45)) <| fun w61 h62 k63 => L_op (.plain rfl) rfl (ltb rfl) (X_assign (v := (.int .i64 13)) rfl) <| L_nil <| thn_n <| W_ret <| blk_r <| blk_r <| thn_r <| thn_r <| blk_r <| thn_r <| thn_r <| finG_r ?_
              obtain rfl := Option.some.inj H
              obtain rfl := Option.some.inj S34
              have H := C17
              obtain rfl := Option.some.inj H
              exact finC2 rfl (K26 4 rfl) k63 Tryd.isAgg40 Tryd.sizeOf40 rfl rfl (Below.trans (Ext.trans (Ext.trans e27 e42) e45) (Wr.below h62 (Nat.le_of_eq z3)))
            · refine W_false (congrArg Value.bool q60) <| W_skip <| blk_n <| blk_n <| thn_n <| W_reg <| L_op (.plain rfl) rfl (ltb rfl) (X_move (v := (.int .i64 x8_13)) h30) <| L_op (.plain rfl) rfl (ltb rfl) (X_add rfl rfl) <| L_op (.plain rfl) rfl (ltb rfl) (X_assign (v := (.int .i64 (IntKind.wrap .i64 (x8_13 + 1)))) rfl) <| L_nil <| thn_n ?_
              obtain rfl := Option.some.inj H
              exact ⟨_, Nat.lt_succ_self _, (joinP x7_12 (gt (cut 47 a1) x8_13)), IntKind.wrap .i64 (x8_13 + 1), y14, (Kp.upd (Kp.upd (Kp.upd (Kp.upd (Kp.upd (Kp.upd (Kp.upd (Kp.upd (Kp.upd (Kp.upd (Kp.upd (Kp.upd (Kp.upd (Kp.upd (Kp.upd (Kp.upd (Kp.upd (Kp.upd (Kp.upd (Kp.upd (Kp.upd (Kp.upd (Kp.upd (Kp.upd (Kp.upd (Kp.upd (Kp.upd (Kp.upd (Kp.upd (Kp.upd (Kp.upd (Kp.upd (Kp.upd (Kp.upd K26 rfl) rfl) rfl) rfl) rfl) rfl) rfl) rfl) rfl) rfl) rfl) rfl) rfl) rfl) rfl) rfl) rfl) rfl) rfl) rfl) rfl) rfl) rfl) rfl) rfl) rfl) rfl) rfl) rfl) rfl) rfl) rfl) rfl) rfl), rfl, rfl, (Blk.ext h31 (Ext.trans e42 e45)), (Ow.ext h32 (Ext.trans e42 e45)), (Ext.trans (Ext.trans e27 e42) e45), S34⟩
      · refine W_false (congrArg Value.bool q35) <| W_exit <| thn_x <| thn_x <| blk_x <| thn_n ?_
        obtain rfl := Option.some.inj H
        obtain rfl := Option.some.inj S34
        exact ⟨y14, (Kp.upd (Kp.upd (Kp.upd (Kp.upd K26 rfl) rfl) rfl) rfl), h31, e27, rfl⟩
  · rintro s20 w19 ⟨y18, K21, h64, e22, y65⟩
    rw [y65] at C17
    have H := C17
    replace H : _ = some _ := H
    refine thn_n <| W_seq <| W_reg <| L_op (.plain rfl) rfl (ltb rfl) (X_build1 (vs := []) (pl := #[(0, 1), (1, 1), (2, 1), (3, 1)]) Tryd.underlying40 Tryd.zeroValue40 rfl (fun _ => by kernel_rfl) rfl rfl rfl) <| L_storeA (.plain rfl) rfl rfl Tryd.sizeOf40 (K21 4 rfl) rfl rfl rfl rfl h64 <| fun w66 h67 k68 => L_op (.plain rfl) rfl (ltb rfl) (X_assign (v := (.int .i64 5)) rfl) <| L_nil <| thn_n <| W_ret <| finG_r ?_
    obtain rfl := Option.some.inj H
    exact finC2 rfl (K21 4 rfl) k68 Tryd.isAgg40 Tryd.sizeOf40 rfl rfl (Below.trans e22 (Wr.below h67 (Nat.le_of_eq z3)))
theorem spec_l04Find.calls {w : World} {a0 : List Nd} {a1 : List UInt8} {v_a0 : Value} (f_a0 : Rd 4 encNd w v_a0 a0) (h0 : a0.length ≤ 1048576) (h1 : pathOK a1 = true) :
    Calls Tryd.prog 74 #[v_a0, S a1] w (Rt (RP w (.tuple #[.agg (encNd ((findNd a0 a1).1)).toArray, .int .i64 ((findNd a0 a1).2)]))) := by
  obtain ⟨k, h⟩ := spec_l04Find.eq a0 a1 h0 h1
  exact spec_l04Find.walk f_a0 h
/-! spec.FindNode -/
theorem spec_FindNode.walk {w : World} {a0 : List Nd} {a1 : List UInt8} {v_a0 : Value} (f_a0 : Rd 4 encNd w v_a0 a0) {r : Nd × Int} (H : spec_FindNode.sh a0 a1 = some r) :
    Calls Tryd.prog 28 #[v_a0, S a1] w (Rt (RP w (.tuple #[.agg (encNd r.1).toArray, .int .i64 r.2]))) := by
  unfold spec_FindNode.sh at H
  refine calls_of_WG Tryd.func28 rfl (Nat.le_of_ble_eq_true rfl) Tryd.ntmps28 ?_
  refine W_seq <| W_reg <| L_alloc (.plain rfl) rfl (ltb rfl) rfl Tryd.zeroValue40 <| fun b1 w2 z3 z4 e5 k6 => L_op (.plain rfl) rfl (ltb rfl) (X_assign (v := (.int .i64 0)) rfl) <| L_nil <| thn_n <| W_seq <| W_seq <| W_reg <| L_op (.plain rfl) rfl (ltb rfl) (X_move (v := v_a0) rfl) <| L_op (.plain rfl) rfl (ltb rfl) (X_lenR Tryd.underlying43 rfl (Rd.ext f_a0 e5)) <| L_op (.plain rfl) rfl (ltb rfl) (X_gtr rfl rfl) <| L_op (.plain rfl) rfl (ltb rfl) (X_move (v := (.bool (decide (4096 < (a0.length : Int))))) rfl) <| L_grp 4 [(11, 15)] 14 (.bool ((decide (4096 < (a0.length : Int))) || (decide (65536 < (a1.length : Int))))) ?_ ?_
  · rcases bool_two (decide (4096 < (a0.length : Int))) with b6_ | b6_
    · exact L_skip rfl rfl (ltb rfl) (congrArg Value.bool b6_) rfl rfl (ltb rfl) <| L_skip rfl rfl (ltb rfl) (congrArg Value.bool b6_) rfl rfl (ltb rfl) <| L_skip rfl rfl (ltb rfl) (congrArg Value.bool b6_) rfl rfl (ltb rfl) <| L_op (.plain rfl) rfl (ltb rfl) (X_pick (b := true) (v := (.bool true)) (congrArg Value.bool b6_) rfl) <| L_nil <| thn_n ⟨(Kp.upd (Kp.upd (Kp.upd (Kp.upd (Kp.refl _ _) rfl) rfl) rfl) rfl), (or_t b6_), (Ext.refl w2)⟩
    · exact L_op (.guard 3 false 10 rfl rfl (ltb rfl) (congrArg Value.bool b6_)) rfl (ltb rfl) (X_move (v := (S a1)) rfl) <| L_op (.guard 3 false 10 rfl rfl (ltb rfl) (congrArg Value.bool b6_)) rfl (ltb rfl) (X_lenS Tryd.underlying9 rfl) <| L_op (.guard 3 false 10 rfl rfl (ltb rfl) (congrArg Value.bool b6_)) rfl (ltb rfl) (X_gtr rfl rfl) <| L_op (.plain rfl) rfl (ltb rfl) (X_pick (b := false) (v := (.bool (decide (65536 < (a1.length : Int))))) (congrArg Value.bool b6_) rfl) <| L_nil <| thn_n ⟨(Kp.upd (Kp.upd (Kp.upd (Kp.upd (Kp.refl _ _) rfl) rfl) rfl) rfl), (or_f b6_), (Ext.refl w2)⟩
  intro s12 w8 K9 h10 e11
  refine L_nil <| thn_n ?_
  rcases bif_two H with ⟨q13, H⟩ | ⟨q13, H⟩
  · refine W_true (h10.trans (congrArg Value.bool q13)) <| W_seq <| W_reg <| L_op (.plain rfl) rfl (ltb rfl) (X_build1 (vs := []) (pl := #[(0, 1), (1, 1), (2, 1), (3, 1)]) Tryd.underlying40 Tryd.zeroValue40 rfl (fun _ => by kernel_rfl) rfl rfl rfl) <| L_storeA (.plain rfl) rfl rfl Tryd.sizeOf40 (K9 4 rfl) rfl rfl rfl rfl (Blk.ext k6 e11) <| fun w14 h15 k16 => L_op (.plain rfl) rfl (ltb rfl) (X_assign (v := (.int .i64 2)) rfl) <| L_nil <| thn_n <| W_ret <| thn_r <| finG_r ?_
    obtain rfl := Option.some.inj H
    exact finC2 rfl (K9 4 rfl) k16 Tryd.isAgg40 Tryd.sizeOf40 rfl rfl (Below.trans (Ext.trans e5 e11) (Wr.below h15 (Nat.le_of_eq z3)))
  · refine W_false (h10.trans (congrArg Value.bool q13)) <| W_skip <| thn_n <| W_seq <| W_seq <| W_reg <| L_op (.plain rfl) rfl (ltb rfl) (X_move (v := v_a0) (K9 0 rfl)) <| L_op (.plain rfl) rfl (ltb rfl) (X_move (v := (S a1)) (K9 1 rfl)) ?_
    obtain ⟨c17, H⟩ := bif_some H
    refine L_callP (.plain rfl) rfl (ltb rfl) rfl Tryd.call73 (spec_l04Ask.calls (w := w8) (a0 := a0) (a1 := a1) (Rd.ext f_a0 (Ext.trans e5 e11)) (of_decide_eq_true c17)) rfl <| fun w18 e19 => L_op (.plain rfl) rfl (ltb rfl) (X_assign (v := (.int .i64 (askT a0 a1))) rfl) <| L_nil <| thn_n <| W_seq <| W_reg <| L_op (.plain rfl) rfl (ltb rfl) (X_move (v := (.int .i64 (askT a0 a1))) rfl) <| L_op (.plain rfl) rfl (ltb rfl) (X_neq rfl rfl) <| L_nil <| thn_n ?_
    rcases bif_two H with ⟨q20, H⟩ | ⟨q20, H⟩
    · refine W_true (congrArg Value.bool q20) <| W_seq <| W_reg <| L_op (.plain rfl) rfl (ltb rfl) (X_build1 (vs := []) (pl := #[(0, 1), (1, 1), (2, 1), (3, 1)]) Tryd.underlying40 Tryd.zeroValue40 rfl (fun _ => by kernel_rfl) rfl rfl rfl) <| L_op (.plain rfl) rfl (ltb rfl) (X_move (v := (.int .i64 (askT a0 a1))) rfl) <| L_storeA (.plain rfl) rfl rfl Tryd.sizeOf40 (K9 4 rfl) rfl rfl rfl rfl (Blk.ext k6 (Ext.trans e11 e19)) <| fun w21 h22 k23 => L_op (.plain rfl) rfl (ltb rfl) (X_assign (v := (.int .i64 (askT a0 a1))) rfl) <| L_nil <| thn_n <| W_ret <| thn_r <| finG_r ?_
      obtain rfl := Option.some.inj H
      exact finC2 rfl (K9 4 rfl) k23 Tryd.isAgg40 Tryd.sizeOf40 rfl rfl (Below.trans (Ext.trans (Ext.trans e5 e11) e19) (Wr.below h22 (Nat.le_of_eq z3)))
    · refine W_false (congrArg Value.bool q20) <| W_skip <| thn_n <| W_seq <| W_seq <| W_reg <| L_op (.plain rfl) rfl (ltb rfl) (X_move (v := (S a1)) (K9 1 rfl)) <| L_callP (.plain rfl) rfl (ltb rfl) rfl Tryd.call58 (spec_l01OK.calls (w := w18) (a0 := a1)) rfl <| fun w24 e25 => L_op (.plain rfl) rfl (ltb rfl) (X_not rfl) <| L_nil <| thn_n ?_
      rcases bif_two H with ⟨q26, H⟩ | ⟨q26, H⟩
      · refine W_true (congrArg Value.bool q26) <| W_seq <| W_reg <| L_op (.plain rfl) rfl (ltb rfl) (X_build1 (vs := []) (pl := #[(0, 1), (1, 1), (2, 1), (3, 1)]) Tryd.underlying40 Tryd.zeroValue40 rfl (fun _ => by kernel_rfl) rfl rfl rfl) <| L_storeA (.plain rfl) rfl rfl Tryd.sizeOf40 (K9 4 rfl) rfl rfl rfl rfl (Blk.ext k6 (Ext.trans (Ext.trans e11 e19) e25)) <| fun w27 h28 k29 => L_op (.plain rfl) rfl (ltb rfl) (X_assign (v := (.int .i64 10)) rfl) <| L_nil <| thn_n <| W_ret <| thn_r <| finG_r ?_
        obtain rfl := Option.some.inj H
        exact finC2 rfl (K9 4 rfl) k29 Tryd.isAgg40 Tryd.sizeOf40 rfl rfl (Below.trans (Ext.trans (Ext.trans (Ext.trans e5 e11) e19) e25) (Wr.below h28 (Nat.le_of_eq z3)))
      · refine W_false (congrArg Value.bool q26) <| W_skip <| thn_n <| W_seq <| W_reg <| L_op (.plain rfl) rfl (ltb rfl) (X_move (v := v_a0) (K9 0 rfl)) <| L_op (.plain rfl) rfl (ltb rfl) (X_move (v := (S a1)) (K9 1 rfl)) ?_
        obtain ⟨c30, H⟩ := bif_some H
        obtain ⟨c31, H⟩ := bif_some H
        refine L_callP (.plain rfl) rfl (ltb rfl) rfl Tryd.call74 (spec_l04Find.calls (w := w24) (a0 := a0) (a1 := a1) (Rd.ext f_a0 (Ext.trans (Ext.trans (Ext.trans e5 e11) e19) e25)) (of_decide_eq_true c30) (of_decide_eq_true c31)) rfl <| fun w32 e33 => L_op (.plain rfl) rfl (ltb rfl) (X_extract (v := (.agg (encNd ((findNd a0 a1).1)).toArray)) rfl rfl) <| L_op (.plain rfl) rfl (ltb rfl) (X_extract (v := (.int .i64 ((findNd a0 a1).2))) rfl rfl) <| L_storeA (.plain rfl) rfl rfl Tryd.sizeOf40 (K9 4 rfl) rfl rfl rfl rfl (Blk.ext k6 (Ext.trans (Ext.trans (Ext.trans e11 e19) e25) e33)) <| fun w34 h35 k36 => L_op (.plain rfl) rfl (ltb rfl) (X_assign (v := (.int .i64 ((findNd a0 a1).2))) rfl) <| L_nil <| thn_n <| W_ret <| finG_r ?_
        obtain rfl := Option.some.inj H
        exact finC2 rfl (K9 4 rfl) k36 Tryd.isAgg40 Tryd.sizeOf40 rfl rfl (Below.trans (Ext.trans (Ext.trans (Ext.trans (Ext.trans e5 e11) e19) e25) e33) (Wr.below h35 (Nat.le_of_eq z3)))
theorem spec_FindNode.calls {w : World} {a0 : List Nd} {a1 : List UInt8} {v_a0 : Value} (f_a0 : Rd 4 encNd w v_a0 a0) (h0 : a0.length ≤ 1048576) (h1 : ∀ x ∈ a0, x.path.length ≤ 1048576) :
    Calls Tryd.prog 28 #[v_a0, S a1] w (Rt (RP w (.tuple #[.agg (encNd ((findNode a0 a1).1)).toArray, .int .i64 ((findNode a0 a1).2)]))) := spec_FindNode.walk f_a0 (spec_FindNode.eq a0 a1 h0 h1)
/-! impl.isLongList(impl.Node) -/
theorem impl_isLongListN.walk {w : World} {a0 : List Nd} {v_a0 : Value} (f_a0 : Rd 4 encNd w v_a0 a0) {r : Bool} (H : impl_isLongListN.sh a0 = some r) :
    Calls Tryd.prog 76 #[v_a0] w (Rt (RP w (.bool r))) := by
  unfold impl_isLongListN.sh at H
  refine calls_of_W Tryd.func76 rfl (Nat.le_of_ble_eq_true rfl) Tryd.ntmps76 rfl ?_
  refine W_seq <| W_reg <| L_op (.plain rfl) rfl (ltb rfl) (X_assign (v := (.bool false)) rfl) <| L_nil <| thn_n <| W_seq <| W_reg <| L_op (.plain rfl) rfl (ltb rfl) (X_move (v := v_a0) rfl) <| L_op (.plain rfl) rfl (ltb rfl) (X_lenR Tryd.underlying43 rfl f_a0) <| L_op (.plain rfl) rfl (ltb rfl) (X_gtr rfl rfl) <| L_op (.plain rfl) rfl (ltb rfl) (X_assign (v := (.bool (decide (4096 < (a0.length : Int))))) rfl) <| L_nil <| thn_n <| W_ret <| fin_r ?_
  obtain rfl := Option.some.inj H
  exact fin1 rfl (Ext.refl w)
theorem impl_isLongListN.calls {w : World} {a0 : List Nd} {v_a0 : Value} (f_a0 : Rd 4 encNd w v_a0 a0) :
    Calls Tryd.prog 76 #[v_a0] w (Rt (RP w (.bool (decide (4096 < a0.length))))) := impl_isLongListN.walk f_a0 (impl_isLongListN.eq a0)
/-! slices.Backward(()string,string), by text -/
theorem slices_BackwardS_it.stops {w0 : World} {v : Value} {b0 : Nat} {vs : List Value} (hlen : vs.length ≤ 4611686018427387904) {Kp : World → World → Prop} {H : World → Prop}
    (hH : ∀ W, Below w0.heap.size w0 W → H W) (hK : ∀ W W', H W → Kp W W' → H W') (hHB : ∀ W, H W → Blk W b0 #[v] 57) (hHR : ∀ W, H W → Rd 1 encV W v vs) {n : Nat} :
    SeqStopsK Fence.wide n Tryd.prog 145 #[.pointer (some ⟨b0, 0, none⟩)] (fun i : Fin vs.length => #[.int .i64 (i.val : Int), vs.getD i.val undef]) Kp (fun l => l = downTo vs.length) (fun l => l <+: downTo vs.length) vs.length w0 := by
  letI : Inhabited Value := ⟨undef⟩
  intro l J Jx W hW hJ hJx hY h0
  have hH1 := hH W hW
  have hB1 := hHB W hH1
  have hR1 := hHR W hH1
  refine callsIn_of_WI Tryd.func145 rfl (Nat.le_of_ble_eq_true rfl) Tryd.ntmps145 ?_
  refine WI_seq <| WI_reg <| LI_op openWide rfl rfl rfl (ltb rfl) (X_loadB (v := v) Tryd.isAgg57 hB1 rfl rfl) <| LI_op openWide rfl rfl rfl (ltb rfl) (X_lenR Tryd.underlying57 rfl hR1) <| LI_op openWide rfl rfl rfl (ltb rfl) (X_sub rfl rfl) <|
    LI_op openWide rfl rfl rfl (ltb rfl) (X_assign (v := .int .i64 ((vs.length : Int) - 1)) (congrArg (Value.int .i64) (Go.UL.wrap_small (by omega) (by omega)))) <| LI_nil ?_
  refine WI_block <| WI_loop (fun m σ W' => σ 3 = .int .i64 ((m : Int) - 1) ∧ σ 0 = .func (.yield l) #[] #[] ∧ σ 1 = .pointer (some ⟨b0, 0, none⟩) ∧ m ≤ vs.length ∧ J ((downTo vs.length).take (vs.length - m)) W' ∧ H W') vs.length ⟨rfl, rfl, rfl, Nat.le_refl _, by simpa using h0, hH1⟩ ?_
  rintro m σ W' ⟨h3, h00, h1, hm, hj, hH2⟩
  have hB2 := hHB _ hH2
  have hR2 := hHR _ hH2
  refine WI_seq <| WI_seq <| WI_reg <| LI_op openWide rfl rfl rfl (ltb rfl) (X_move h3) <| LI_op openWide rfl rfl rfl (ltb rfl) (X_geq rfl rfl) <| LI_nil ?_
  refine WI_cond (decide ((0 : Int) ≤ (m : Int) - 1)) rfl (fun hm1 => WI_skip ?_) (fun hm1 => WI_exit ?_)
  · have hm2 : (0 : Int) ≤ (m : Int) - 1 := of_decide_eq_true hm1
    obtain ⟨m, rfl⟩ : ∃ j, m = j + 1 := ⟨m - 1, by omega⟩
    have e1 : ((m + 1 : Nat) : Int) - 1 = (m : Int) := by omega
    have hlt : m < vs.length := by omega
    have hin : inR (((m + 1 : Nat) : Int) - 1) vs.length = true := by rw [e1]; exact inR_nat hlt
    have hg : gt vs (((m + 1 : Nat) : Int) - 1) = vs.getD m undef := by rw [e1]; rfl
    refine WI_seq <| WI_block <| WI_seq <| WI_reg <| LI_op openWide rfl rfl rfl (ltb rfl) (X_move h00) <| LI_op openWide rfl rfl rfl (ltb rfl) (X_move h3) <| LI_op openWide rfl rfl rfl (ltb rfl) (X_loadB (v := v) Tryd.isAgg57 hB2 h1 rfl) <| LI_op openWide rfl rfl rfl (ltb rfl) (X_move h3) <|
      LI_idx openWide rfl rfl rfl (ltb rfl) rfl Tryd.underlying57 Tryd.sizeOf9 rfl hR2 rfl hin <| fun p hA => LI_op openWide rfl rfl rfl (ltb rfl) (X_loadAt (v := vs.getD m undef) Tryd.isAgg9 rfl hA (by rw [hg]; rfl)) <| ?_
    have hpre : ((downTo vs.length).take (vs.length - (m + 1))).length < vs.length := by simp [downTo]; omega
    refine LI_yield openWide (vs := #[.int .i64 (((m + 1 : Nat) : Int) - 1), vs.getD m undef]) (A := fun b w1 => (b = true ∧ J ((downTo vs.length).take (vs.length - m)) w1 ∧ Kp W' w1) ∨ (b = false ∧ Jx ((downTo vs.length).take (vs.length - m)) w1)) rfl rfl (ltb rfl) rfl rfl rfl rfl ?_ ?_
    · obtain ⟨fn, tmps, assign, body, hy, hRd⟩ := hY _ ⟨m, hlt⟩ W' hj hpre
      rw [e1]
      refine ⟨fn, tmps, assign, body, hy, RoundIn.mono hRd fun e w1 hr => ?_⟩
      rw [downTo_take vs.length m hlt] at hr
      rcases hr with ⟨rfl, hj', hk⟩ | ⟨rfl, hj'⟩
      · exact ⟨true, rfl, .inl ⟨rfl, hj', hk⟩⟩
      · exact ⟨false, rfl, .inr ⟨rfl, hj'⟩⟩
    · intro b w1 hb
      refine LI_op openWide rfl rfl rfl (ltb rfl) (X_not rfl) <| LI_nil ?_
      rcases hb with ⟨rfl, hj', hk⟩ | ⟨rfl, hj'⟩
      · have hH3 := hK _ _ hH2 hk
        refine WI_cond false rfl (fun h => by cases h) (fun _ => WI_skip ?_)
        refine WI_reg <| LI_op openWide rfl rfl rfl (ltb rfl) (X_move h3) <| LI_op openWide rfl rfl rfl (ltb rfl) (X_sub rfl rfl) <| LI_op openWide rfl rfl rfl (ltb rfl) (X_assign (v := .int .i64 ((m : Int) - 1)) (congrArg (Value.int .i64) (by rw [e1]; exact Go.UL.wrap_small (by omega) (by omega)))) <| LI_nil ?_
        exact ⟨rfl, m, by omega, rfl, h00, h1, by omega, hj', hH3⟩
      · refine WI_cond true rfl (fun _ => WI_ret ?_) (fun h => by cases h)
        exact ⟨.inr rfl, .inl ⟨rfl, .tuple #[], fun tmps _ => results_none (fn := Tryd.f145) rfl tmps _ _, ⟨_, rfl⟩, .inr ⟨_, downTo_pre _ _, hj'⟩⟩⟩
  · have hm2 : ¬ (0 : Int) ≤ (m : Int) - 1 := of_decide_eq_false hm1
    have hm0 : m = 0 := by omega
    subst hm0
    have hf : (downTo vs.length).take (vs.length - 0) = downTo vs.length := by rw [Nat.sub_zero]; exact List.take_of_length_le (by simp [downTo])
    rw [hf] at hj
    exact ⟨.inl rfl, .inl ⟨rfl, .tuple #[], fun tmps _ => results_none (fn := Tryd.f145) rfl tmps _ _, ⟨_, rfl⟩, .inl ⟨_, rfl, hj⟩⟩⟩
theorem slices_BackwardS.calls {w : World} {v : Value} {A : Option Addr} {len cap : Nat} (hv : v = .slice A len cap) :
    Calls Tryd.prog 120 #[v] w (Rt (fun u w' => Ext w w' ∧ ∃ b, w.heap.size ≤ b ∧ Blk w' b #[v] 57 ∧ u = .func (.func 145) #[] #[.pointer (some ⟨b, 0, none⟩)])) := by
  refine calls_of_W Tryd.func120 rfl (Nat.le_of_ble_eq_true rfl) Tryd.ntmps120 rfl ?_
  refine W_seq <| W_reg <| L_box (.plain rfl) rfl (ltb rfl) rfl rfl <| fun b w1 hb hb1 he hB => L_op (.plain rfl) rfl (ltb rfl) (X_assign rfl) <| L_nil <| thn_n <| W_seq <| W_reg <| L_op (.plain rfl) rfl (ltb rfl) (X_makeFunc (vs := #[]) (us := #[.pointer (some ⟨b, 0, none⟩)]) rfl rfl) <|
    L_op (.plain rfl) rfl (ltb rfl) (X_assign rfl) <| L_nil <| thn_n <| W_ret <| fin_r ?_
  refine ⟨_, rfl, he, b, by omega, ?_, rfl⟩
  subst hv
  exact hB

/-! impl.resolve, by text -/
theorem impl_resolve.calls {w : World} {a0 : List Nd} {a1 : List UInt8} {v_a0 : Value} (f_a0 : Rd 4 encNd w v_a0 a0) (h0 : a0.length ≤ 1048576) (h1 : a1.length ≤ 1048576) :
    Calls Tryd.prog 78 #[v_a0, S a1] w (Rt (RP w (.tuple #[.int .i64 (resolveT a0 a1).1, .int .i64 (resolveT a0 a1).2]))) := by
  letI : Inhabited Value := ⟨undef⟩
  refine callsIn_wide.1 (callsIn_of_WI (n := 3) Tryd.func78 rfl (Nat.le_of_ble_eq_true rfl) Tryd.ntmps78 ?_)
  refine WI_seq <| WI_reg <| LI_box openWide rfl rfl rfl (ltb rfl) rfl rfl <| fun b2 w1 hz1 hz1' e1 k2 => LI_alloc openWide rfl rfl rfl (ltb rfl) rfl Tryd.zeroValue3 <| fun b4 w2 hz2 hz2' e2 k4 => LI_alloc openWide rfl rfl rfl (ltb rfl) rfl Tryd.zeroValue3 <| fun b5 w3 hz3 hz3' e3 k5 => LI_nil ?_
  have hla := ancs_len a1
  refine WI_seq <| WI_of_W <| W_reg <| L_op (.plain rfl) rfl (ltb rfl) (X_move (v := S a1) rfl) <| L_lit (.plain rfl) rfl (ltb rfl) rfl Tryd.underlying57 Tryd.sizeOf9 Tryd.zeroValue9 rfl rfl rfl (vs := [S a1]) rfl (lit_all rfl) <| fun b6 w4 hz4 hz4' e4 k6 => L_op (.plain rfl) rfl (ltb rfl) (X_move (v := S a1) rfl) <|
    L_callO (.plain rfl) rfl (ltb rfl) rfl Tryd.call119 (impl_ancestors.calls (w := w4) (a0 := a1) h1) rfl <| fun v7 w5 e5 o7 => ?_
  refine L_append (enc := encS) (.plain rfl) rfl (ltb rfl) rfl El.t57 rfl rfl (Ow.ext (Ow.new (xs := [a1]) (sz := 1) (enc := encS) (base := w3.heap.size) k6 (Nat.le_of_eq hz4) rfl (fun _ _ => rfl) (Nat.le_of_ble_eq_true rfl)) e5) (Ow.rd o7) (ones_S _) (by have := hla; simp; omega) (Ext.trans e4 e5).size <| fun v8 w6 o8 hz6 g6 => L_op (.plain rfl) rfl (ltb rfl) (X_assign (v := v8) rfl) <| L_nil ?_
  have e6 : Ext w3 w6 := g6 _ (Ext.trans e4 e5)
  have eA : Ext w w6 := Ext.trans (Ext.trans (Ext.trans e1 e2) e3) e6
  have hR8 : Rd 1 encV w6 v8 (([a1] ++ ancs a1).map S) := Rd.toV (Ow.rd o8)
  obtain ⟨A8, c8, hv8⟩ := hR8.shape
  have hall : ∀ i, i < (([a1] ++ ancs a1).map S).length → (([a1] ++ ancs a1).map S).getD i undef = S (([a1] ++ ancs a1).getD i []) := by
    intro i hi
    have hi2 : i < ([a1] ++ ancs a1).length := by simpa using hi
    simp only [List.getD_eq_getElem?_getD, List.getElem?_map, List.getElem?_eq_getElem hi2, Option.map_some, Option.getD_some]
  have hlv : (([a1] ++ ancs a1).map S).length = (ancs a1).length + 1 := by simp
  generalize ([a1] ++ ancs a1).map S = vs at hR8 hv8 hall hlv
  refine WI_seq <| WI_seq <| WI_reg <| LI_op openWide rfl rfl rfl (ltb rfl) (X_move (v := v8) rfl) <| LI_callA openWide (vs := #[v8]) rfl rfl (ltb rfl) rfl Tryd.call120 (slices_BackwardS.calls hv8) rfl <| fun u w7 hA => ?_
  obtain ⟨e7, b8, hb8, k8, rfl⟩ := hA
  refine LI_nil ?_
  have eB : Ext w w7 := Ext.trans eA e7
  have k2' : Blk w7 b2 #[v_a0] 43 := (Blk.cs k2 (Rd.cs f_a0)).ext (Ext.trans (Ext.trans (Ext.trans e2 e3) e6) e7)
  have k4' : Blk w7 b4 #[.int .i64 0] 3 := k4.ext (Ext.trans (Ext.trans e3 e6) e7)
  have k5' : Blk w7 b5 #[.int .i64 0] 3 := k5.ext (Ext.trans e6 e7)
  have hn4 : w.heap.size ≤ b4 := by have := e1.size; omega
  have hn5 : w.heap.size ≤ b5 := by have := (Ext.trans e1 e2).size; omega
  have h45 : b4 ≠ b5 := by omega
  have fR := f_a0.ext eB
  -- what is stored ends the call
  have wr2 : ∀ (W W1 W2 : World) (x y : Value), Ext w W → Blk W b4 #[.int .i64 0] 3 → Blk W b5 #[.int .i64 0] 3 → Wr b4 W W1 → Blk W1 b4 #[x] 3 → Wr b5 W1 W2 → Blk W2 b5 #[y] 3 → Ext w W2 ∧ Blk W2 b4 #[x] 3 ∧ Blk W2 b5 #[y] 3 := by
    intro W W1 W2 x y hE h4 h5 hw1 hk1 hw2 hk2
    refine ⟨Ext.wr (Ext.wr hE hw1 hn4 (Nat.le_refl _)) hw2 hn5 (Nat.le_refl _), ?_, hk2⟩
    unfold Blk at hk1 ⊢
    rw [hw2.grown.block b4 (Array.getElem?_eq_some_iff.1 hk1).1 (fun e => h45 (by injection e)), hk1]
  have b5of : ∀ (W W1 : World) (y : Value), Wr b4 W W1 → Blk W b5 #[y] 3 → Blk W1 b5 #[y] 3 := by
    intro W W1 y hw hk
    unfold Blk at hk ⊢
    rw [hw.grown.block b5 (Array.getElem?_eq_some_iff.1 hk).1 (fun e => h45 (by injection e with e; exact e.symm)), hk]
  refine WI_block <| WI_range (n := 3) (α := Fin vs.length) (by omega) (gf := 145) rfl Tryd.call145
    (slices_BackwardS_it.stops (w0 := w7) (v := v8) (b0 := b8) (vs := vs) (by omega) (Kp := Below w7.heap.size) (H := Below w7.heap.size w7) (fun _ h => h) (fun _ _ h k => h.trans k) (fun W h => k8.ext h) (fun W h => (hR8.ext e7).ext h) (n := 3 - 1))
    (fun h k => h.trans k) (belowK_b (Nat.le_refl _)) (Below.refl _ _) (fun _ => rfl)
    (fun pre W => Ext w7 W ∧ ∀ i ∈ pre, i.val ≠ 0 ∧ resStep a0 (([a1] ++ ancs a1).getD i.val []) i.val = none)
    (fun c pre W => c = .ret ∧ ∃ i p x, pre = p ++ [i] ∧ (∀ j ∈ p, j.val ≠ 0 ∧ resStep a0 (([a1] ++ ancs a1).getD j.val []) j.val = none) ∧ resStep a0 (([a1] ++ ancs a1).getD i.val []) i.val = some x ∧ Ext w W ∧ Blk W b4 #[.int .i64 x.1] 3 ∧ Blk W b5 #[.int .i64 x.2] 3)
    ?_ ?_ ⟨Ext.refl _, by simp⟩
    (fun i => upd (upd (upd (upd (upd (upd (upd (upd (upd (upd (upd (upd (upd (upd (upd (fun t => (#[v_a0, S a1] : Array Value).getD t undef) 2 (.pointer (some ⟨b2, 0, none⟩))) 4 (.pointer (some ⟨b4, 0, none⟩))) 5 (.pointer (some ⟨b5, 0, none⟩))) 10 (S a1)) 11 (.slice (some ⟨b6, 0, none⟩) 1 1)) 12 (S a1)) 13 v7) 14 v8) 6 v8) 15 v8) 16 (.func (.func 145) #[] #[.pointer (some ⟨b8, 0, none⟩)])) 17 (.int .i64 (i.val : Int))) 18 (vs.getD i.val undef)) 7 (.int .i64 (i.val : Int))) 8 (vs.getD i.val undef))
    ?_ ?_ ?_ ?_ ?_
  · intro s W W' row hs hg hr
    exact ⟨hs.1.grow hg (Nat.le_refl _) hr, hs.2⟩
  · intro c s W W' row hs hg hr
    obtain ⟨hc, i, p, x, h1, h2, h3, h4, h5, h6⟩ := hs
    exact ⟨hc, i, p, x, h1, h2, h3, h4.grow hg eB.size hr, h5.grow hg hr, h6.grow hg hr⟩
  · intro hf x
    exact upd_far (by decide) (upd_far (by decide) (upd_far (by decide) (upd_far (by decide) hf)))
  · intro l x W a K ha hK
    refine ⟨_, ha.two 17 18 (by decide) (by decide) (.int .i64 (x.val : Int)) (vs.getD x.val undef), ?_⟩
    refine WI_seq <| WI_reg <| LI_op (openRound l) rfl rfl rfl (ltb rfl) (X_assign rfl) <| LI_nil <| ?_
    exact WI_reg <| LI_op (openRound l) rfl rfl rfl (ltb rfl) (X_assign rfl) <| LI_nil hK
  · rintro l pre x W ⟨eW, hpre⟩ hlen
    obtain ⟨q, hq⟩ : ∃ q, ([a1] ++ ancs a1).getD x.val [] = q := ⟨_, rfl⟩
    have hu : vs.getD x.val undef = S q := by rw [hall x.val x.isLt, hq]
    obtain ⟨k, hk⟩ : ∃ k, findN a0 q = k := ⟨_, rfl⟩
    refine WI_block <| WI_seq <| WI_reg <| LI_op (openRound l) rfl rfl rfl (ltb rfl) (X_loadB (v := v_a0) Tryd.isAgg43 (k2'.ext eW) rfl rfl) <| LI_op (openRound l) rfl rfl rfl (ltb rfl) (X_move (v := S q) hu) <|
      LI_callA (openRound l) (vs := #[v_a0, S q]) rfl rfl (ltb rfl) rfl Tryd.call121 (impl_at.calls (w := W) (a0 := a0) (a1 := q) (fR.ext eW) h0) rfl <| fun u w8 hA => ?_
    obtain ⟨e8, rfl⟩ := hA
    rw [hk]
    have eC : Ext w w8 := Ext.trans (Ext.trans eB eW) e8
    have j4 := (k4'.ext eW).ext e8
    have j5 := (k5'.ext eW).ext e8
    refine LI_op (openRound l) rfl rfl rfl (ltb rfl) (X_assign (v := .int .i64 k) rfl) <| LI_nil ?_
    refine WI_block <| WI_seq <| WI_reg <| LI_op (openRound l) rfl rfl rfl (ltb rfl) (X_move (v := .int .i64 k) rfl) <| LI_op (openRound l) rfl rfl rfl (ltb rfl) (X_lss rfl rfl) <| LI_op (openRound l) rfl rfl rfl (ltb rfl) (X_assign (v := .bool (decide (k < 0))) rfl) <| LI_nil ?_
    have out : ∀ (W1 W2 : World) (y z : Int), resStep a0 q x.val = some (y, z) → Wr b4 w8 W1 → Blk W1 b4 #[.int .i64 y] 3 → Wr b5 W1 W2 → Blk W2 b5 #[.int .i64 z] 3 →
        KeepsOthers W W2 ∧ (Code.ret = .ret ∧ ∃ i p x', pre ++ [x] = p ++ [i] ∧ (∀ j ∈ p, j.val ≠ 0 ∧ resStep a0 (([a1] ++ ancs a1).getD j.val []) j.val = none) ∧ resStep a0 (([a1] ++ ancs a1).getD i.val []) i.val = some x' ∧ Ext w W2 ∧ Blk W2 b4 #[.int .i64 x'.1] 3 ∧ Blk W2 b5 #[.int .i64 x'.2] 3) := by
      intro W1 W2 y z hs hw1 hk1 hw2 hk2
      have h9 := wr2 w8 W1 W2 _ _ eC j4 j5 hw1 hk1 hw2 hk2
      exact ⟨((keeps_ext e8).trans (keeps_wr hw1 j4)).trans (keeps_wr hw2 (b5of _ _ _ hw1 j5)), rfl, x, pre, (y, z), rfl, hpre, by rw [hq]; exact hs, h9.1, h9.2.1, h9.2.2⟩
    refine WI_cond (decide (k < 0)) rfl (fun hc => ?_) (fun hc => ?_)
    · have hc' : k < 0 := of_decide_eq_true hc
      refine WI_seq <| WI_reg <| LI_store1 (openRound l) rfl rfl rfl Tryd.sizeOf3 rfl rfl rfl j4 (ltb rfl) <| fun w9 hw9 k9 => LI_store1 (openRound l) rfl rfl rfl Tryd.sizeOf3 rfl rfl rfl (b5of _ _ _ hw9 j5) (ltb rfl) <| fun w10 hw10 k10 => LI_nil <| WI_ret ?_
      exact out w9 w10 0 5 (by simp [resStep, hk, hc']) hw9 k9 hw10 k10
    · have hc' : ¬ k < 0 := of_decide_eq_false hc
      refine WI_seq <| WI_reg <| LI_op (openRound l) rfl rfl rfl (ltb rfl) (X_move (v := .int .i64 (x.val : Int)) rfl) <| LI_op (openRound l) rfl rfl rfl (ltb rfl) (X_eql rfl rfl) <| LI_op (openRound l) rfl rfl rfl (ltb rfl) (X_assign (v := .bool (decide ((x.val : Int) = 0))) rfl) <| LI_nil ?_
      refine WI_cond (decide ((x.val : Int) = 0)) rfl (fun hd => ?_) (fun hd => ?_)
      · have hd' : x.val = 0 := by have := of_decide_eq_true hd; omega
        refine WI_seq <| WI_reg <| LI_op (openRound l) rfl rfl rfl (ltb rfl) (X_move (v := .int .i64 k) rfl) <| LI_store1 (openRound l) rfl rfl rfl Tryd.sizeOf3 rfl rfl rfl j4 (ltb rfl) <| fun w9 hw9 k9 => LI_store1 (openRound l) rfl rfl rfl Tryd.sizeOf3 rfl rfl rfl (b5of _ _ _ hw9 j5) (ltb rfl) <| fun w10 hw10 k10 => LI_nil <| WI_ret ?_
        exact out w9 w10 k 0 (by simp [resStep, hk, hc', hd']) hw9 k9 hw10 k10
      · have hd' : x.val ≠ 0 := by have := of_decide_eq_false hd; omega
        have hin : inR k a0.length = true := inR_mk (by omega) (by rw [← hk]; exact findN_lt _ _)
        refine WI_seq <| WI_reg <| LI_op (openRound l) rfl rfl rfl (ltb rfl) (X_loadB (v := v_a0) Tryd.isAgg43 ((k2'.ext eW).ext e8) rfl rfl) <| LI_op (openRound l) rfl rfl rfl (ltb rfl) (X_move (v := .int .i64 k) rfl) <|
          LI_idx (openRound l) rfl rfl rfl (ltb rfl) rfl Tryd.underlying43 Tryd.sizeOf40 rfl ((fR.ext eW).ext e8) rfl hin <| fun p hA => LI_op (openRound l) rfl rfl rfl (ltb rfl) (X_fieldAddr Tryd.underlying40 rfl Tryd.sizeOf3 rfl rfl) <|
          LI_op (openRound l) rfl rfl rfl (ltb rfl) (X_loadF (v := .int .i64 (gt a0 k).kind) Tryd.isAgg3 (j := 0) hA rfl rfl) <| LI_op (openRound l) rfl rfl rfl (ltb rfl) (X_neq rfl rfl) <| LI_op (openRound l) rfl rfl rfl (ltb rfl) (X_assign (v := .bool (!decide ((gt a0 k).kind = 3))) rfl) <| LI_nil ?_
        refine WI_cond (!decide ((gt a0 k).kind = 3)) rfl (fun hf => ?_) (fun hf => WI_skip ?_)
        · have hf' : ¬ (gt a0 k).kind = 3 := by simpa using hf
          refine WI_seq <| WI_reg <| LI_store1 (openRound l) rfl rfl rfl Tryd.sizeOf3 rfl rfl rfl j4 (ltb rfl) <| fun w9 hw9 k9 => LI_store1 (openRound l) rfl rfl rfl Tryd.sizeOf3 rfl rfl rfl (b5of _ _ _ hw9 j5) (ltb rfl) <| fun w10 hw10 k10 => LI_nil <| WI_ret ?_
          exact out w9 w10 0 13 (by simp [resStep, hk, hc', hd', hf']) hw9 k9 hw10 k10
        · have hf' : (gt a0 k).kind = 3 := by simpa using hf
          refine ⟨keeps_ext e8, e8.mono eW.size, Ext.trans eW e8, ?_⟩
          intro i hi
          rcases List.mem_append.1 hi with h | h
          · exact hpre i h
          · obtain rfl := List.mem_singleton.1 h
            exact ⟨hd', by rw [hq]; simp [resStep, hk, hc', hd', hf']⟩
  · rintro D xs W hD hS ⟨eW, hpre⟩ hk
    exact absurd rfl (hpre ⟨0, by omega⟩ (by rw [hS]; exact downTo_all _)).1
  · rintro D c pre W hD hS ⟨rfl, i, p, x, rfl, h3, h4, h5, h6, h7⟩ hk
    refine WI_ret ?_
    have hz : resolveT a0 a1 = x := resGo_some _ (by have := i.isLt; simp; omega) h4 fun j hj1 hj2 => (h3 ⟨j, by simp at hj2; omega⟩ (downTo_split hS ⟨j, by simp at hj2; omega⟩ hj1)).2
    exact ⟨.inr rfl, .inr ⟨D, rfl, hk, _, fun tmps hg => res_cell2 rfl Tryd.isAgg3 Tryd.isAgg3 (putD_blk h6 _ hk) (putD_blk h7 _ hk) tmps (hg 4) (hg 5), ⟨_, rfl, putD_ext h5 (by have := eB.size; omega) _ hk, by rw [hz]⟩⟩⟩

/-! impl.FindNode -/
theorem impl_FindNode.walk {w : World} {a0 : List Nd} {a1 : List UInt8} (gv : GV 0 w) {v_a0 : Value} (f_a0 : Rd 4 encNd w v_a0 a0) {r : Nd × Int} (H : impl_FindNode.sh a0 a1 = some r) :
    Calls Tryd.prog 30 #[v_a0, S a1] w (Rt (RP w (.tuple #[.agg (encNd r.1).toArray, .int .i64 r.2]))) := by
  unfold impl_FindNode.sh at H
  refine calls_of_WG Tryd.func30 rfl (Nat.le_of_ble_eq_true rfl) Tryd.ntmps30 ?_
  refine W_seq <| W_reg <| L_alloc (.plain rfl) rfl (ltb rfl) rfl Tryd.zeroValue40 <| fun b1 w2 z3 z4 e5 k6 => L_op (.plain rfl) rfl (ltb rfl) (X_assign (v := (.int .i64 0)) rfl) <| L_nil <| thn_n <| W_seq <| W_seq <| W_reg <| L_op (.plain rfl) rfl (ltb rfl) (X_move (v := (S a1)) rfl) <| L_lit (.plain rfl) rfl (ltb rfl) rfl Tryd.underlying57 Tryd.sizeOf9 Tryd.zeroValue9 rfl rfl rfl (vs := [(S a1)]) rfl (lit_all rfl) <| fun b7 w8 z9 z10 e11 k12 => ?_
  obtain ⟨c13, H⟩ := bif_some H
  refine L_callP (.plain rfl) rfl (ltb rfl) rfl Tryd.call62 (impl_isLong.calls (w := w8) (a0 := ([a1] : List (List UInt8))) (Ow.rd (Ow.new (xs := [a1]) (sz := 1) (enc := encS) (base := w2.heap.size) k12 (Nat.le_of_eq z9) rfl (fun _ _ => by rfl) (Nat.le_of_ble_eq_true rfl))) (of_decide_eq_true c13)) rfl <| fun w14 e15 => L_op (.plain rfl) rfl (ltb rfl) (X_move rfl) <| L_grp 3 [(13, 16)] 15 (.bool ((([a1] : List (List UInt8)).any fun t => decide (65536 < t.length)) || (decide (4096 < a0.length)))) ?_ ?_
  · rcases bool_two (([a1] : List (List UInt8)).any fun t => decide (65536 < t.length)) with b15_ | b15_
    · exact L_skip rfl rfl (ltb rfl) (congrArg Value.bool b15_) rfl rfl (ltb rfl) <| L_skip rfl rfl (ltb rfl) (congrArg Value.bool b15_) rfl rfl (ltb rfl) <| L_op (.plain rfl) rfl (ltb rfl) (X_pick (b := true) (v := (.bool true)) (congrArg Value.bool b15_) rfl) <| L_nil <| thn_n ⟨(Kp.upd (Kp.upd (Kp.upd (Kp.refl _ _) rfl) rfl) rfl), (or_t b15_), (Ext.refl w14)⟩
    · exact L_op (.guard 3 false 12 rfl rfl (ltb rfl) (congrArg Value.bool b15_)) rfl (ltb rfl) (X_move (v := v_a0) rfl) <| L_callP (.guard 3 false 12 rfl rfl (ltb rfl) (congrArg Value.bool b15_)) rfl (ltb rfl) rfl Tryd.call76 (impl_isLongListN.calls (w := w14) (a0 := a0) (Rd.ext f_a0 (Ext.trans (Ext.trans e5 e11) e15))) rfl <| fun w17 e18 => L_op (.plain rfl) rfl (ltb rfl) (X_pick (b := false) (v := (.bool (decide (4096 < a0.length)))) (congrArg Value.bool b15_) rfl) <| L_nil <| thn_n ⟨(Kp.upd (Kp.upd (Kp.upd (Kp.refl _ _) rfl) rfl) rfl), (or_f b15_), e18⟩
  intro s21 w17 K18 h19 e20
  refine L_op (.plain rfl) rfl (ltb rfl) (X_mkiface Tryd.underlying4 rfl h19) <| L_op (.plain rfl) rfl (ltb rfl) (X_mkiface Tryd.underlying3 rfl rfl) <| L_op (.plain rfl) rfl (ltb rfl) (X_move (v := v_a0) (K18 0 rfl)) ?_
  obtain ⟨c22, H⟩ := bif_some H
  obtain ⟨c23, H⟩ := bif_some H
  refine L_callP (.plain rfl) rfl (ltb rfl) rfl Tryd.call77 (impl_TreeOK.calls (w := w17) (a0 := a0) (GV.ext gv (Ext.trans (Ext.trans (Ext.trans e5 e11) e15) e20)) (Rd.ext f_a0 (Ext.trans (Ext.trans (Ext.trans e5 e11) e15) e20)) (of_decide_eq_true c22) (of_decide_eq_true c23)) rfl <| fun w24 e25 => L_op (.plain rfl) rfl (ltb rfl) (X_not rfl) <| L_op (.plain rfl) rfl (ltb rfl) (X_mkiface Tryd.underlying4 rfl rfl) <| L_op (.plain rfl) rfl (ltb rfl) (X_mkiface Tryd.underlying3 rfl rfl) <| L_op (.plain rfl) rfl (ltb rfl) (X_move (v := (S a1)) (K18 1 rfl)) <| L_callP (.plain rfl) rfl (ltb rfl) rfl Tryd.call65 (impl_PathOK.calls (w := w24) (a0 := a1) (GV.ext gv (Ext.trans (Ext.trans (Ext.trans (Ext.trans e5 e11) e15) e20) e25))) rfl <| fun w26 e27 => L_op (.plain rfl) rfl (ltb rfl) (X_not rfl) <| L_op (.plain rfl) rfl (ltb rfl) (X_mkiface Tryd.underlying4 rfl rfl) <| L_op (.plain rfl) rfl (ltb rfl) (X_mkiface Tryd.underlying3 rfl rfl) <| L_lit (.plain rfl) rfl (ltb rfl) rfl Tryd.underlying99 Tryd.sizeOf20 Tryd.zeroValue20 rfl rfl rfl (vs := [(.iface 4 (.bool ((([a1] : List (List UInt8)).any fun t => decide (65536 < t.length)) || (decide (4096 < a0.length))))), (.iface 3 (.int .i64 2)), (.iface 4 (.bool (!(treeOK a0)))), (.iface 3 (.int .i64 1)), (.iface 4 (.bool (!(pathOK a1)))), (.iface 3 (.int .i64 10))]) rfl (lit_all rfl) <| fun b28 w29 z30 z31 e32 k33 => ?_
  obtain ⟨c34, H⟩ := bif_some H
  obtain ⟨z37, x38, H⟩ := bind_some H
  replace x38 := Option.some.inj x38
  refine L_callP (.plain rfl) rfl (ltb rfl) rfl Tryd.call61 (impl_first.calls (w := w29) (a0 := ([.inl ((([a1] : List (List UInt8)).any fun t => decide (65536 < t.length)) || (decide (4096 < a0.length))), .inr 2, .inl (!(treeOK a0)), .inr 1, .inl (!(pathOK a1)), .inr 10] : List (Bool ⊕ Int))) (Ow.rd (Ow.new (xs := [.inl ((([a1] : List (List UInt8)).any fun t => decide (65536 < t.length)) || (decide (4096 < a0.length))), .inr 2, .inl (!(treeOK a0)), .inr 1, .inl (!(pathOK a1)), .inr 10]) (sz := 1) (enc := (encAny 4 3)) (base := w26.heap.size) k33 (Nat.le_of_eq z30) rfl (fun _ _ => by first | rfl | exact encAny_len _ _ _) (Nat.le_of_ble_eq_true rfl))) (of_decide_eq_true c34)) rfl <| fun w35 e36 => L_op (.plain rfl) rfl (ltb rfl) (X_assign (v := (.int .i64 z37)) (congrArg (Value.int .i64) x38)) <| L_nil <| thn_n <| W_seq <| W_reg <| L_op (.plain rfl) rfl (ltb rfl) (X_move (v := (.int .i64 z37)) rfl) <| L_op (.plain rfl) rfl (ltb rfl) (X_neq rfl rfl) <| L_nil <| thn_n ?_
  rcases bif_two H with ⟨q39, H⟩ | ⟨q39, H⟩
  · refine W_true (congrArg Value.bool q39) <| W_seq <| W_reg <| L_op (.plain rfl) rfl (ltb rfl) (X_build1 (vs := []) (pl := #[(0, 1), (1, 1), (2, 1), (3, 1)]) Tryd.underlying40 Tryd.zeroValue40 rfl (fun _ => by kernel_rfl) rfl rfl rfl) <| L_op (.plain rfl) rfl (ltb rfl) (X_move (v := (.int .i64 z37)) rfl) <| L_storeA (.plain rfl) rfl rfl Tryd.sizeOf40 (K18 4 rfl) rfl rfl rfl rfl (Blk.ext k6 (Ext.trans (Ext.trans (Ext.trans (Ext.trans (Ext.trans (Ext.trans e11 e15) e20) e25) e27) e32) e36)) <| fun w40 h41 k42 => L_op (.plain rfl) rfl (ltb rfl) (X_assign (v := (.int .i64 z37)) rfl) <| L_nil <| thn_n <| W_ret <| thn_r <| finG_r ?_
    obtain rfl := Option.some.inj H
    exact finC2 rfl (K18 4 rfl) k42 Tryd.isAgg40 Tryd.sizeOf40 rfl rfl (Below.trans (Ext.trans (Ext.trans (Ext.trans (Ext.trans (Ext.trans (Ext.trans (Ext.trans e5 e11) e15) e20) e25) e27) e32) e36) (Wr.below h41 (Nat.le_of_eq z3)))
  · refine W_false (congrArg Value.bool q39) <| W_skip <| thn_n <| W_seq <| W_reg <| L_op (.plain rfl) rfl (ltb rfl) (X_move (v := v_a0) (K18 0 rfl)) <| L_op (.plain rfl) rfl (ltb rfl) (X_move (v := (S a1)) (K18 1 rfl)) ?_
    obtain ⟨c43, H⟩ := bif_some H
    obtain ⟨c44, H⟩ := bif_some H
    refine L_callP (.plain rfl) rfl (ltb rfl) rfl Tryd.call78 (impl_resolve.calls (w := w35) (a0 := a0) (a1 := a1) (Rd.ext f_a0 (Ext.trans (Ext.trans (Ext.trans (Ext.trans (Ext.trans (Ext.trans (Ext.trans e5 e11) e15) e20) e25) e27) e32) e36)) (of_decide_eq_true c43) (of_decide_eq_true c44)) rfl <| fun w45 e46 => L_op (.plain rfl) rfl (ltb rfl) (X_move rfl) <| L_op (.plain rfl) rfl (ltb rfl) (X_extract (v := (.int .i64 ((resolveT a0 a1).1))) rfl rfl) <| L_op (.plain rfl) rfl (ltb rfl) (X_extract (v := (.int .i64 ((resolveT a0 a1).2))) rfl rfl) <| L_op (.plain rfl) rfl (ltb rfl) (X_assign (v := (.int .i64 ((resolveT a0 a1).1))) rfl) <| L_op (.plain rfl) rfl (ltb rfl) (X_assign (v := (.int .i64 ((resolveT a0 a1).2))) rfl) <| L_nil <| thn_n <| W_seq <| W_seq <| W_reg <| L_op (.plain rfl) rfl (ltb rfl) (X_move (v := (.int .i64 ((resolveT a0 a1).2))) rfl) <| L_op (.plain rfl) rfl (ltb rfl) (X_neq rfl rfl) <| L_nil <| thn_n ?_
    rcases bif_two H with ⟨q47, H⟩ | ⟨q47, H⟩
    · refine W_true (congrArg Value.bool q47) <| W_seq <| W_reg <| L_op (.plain rfl) rfl (ltb rfl) (X_build1 (vs := []) (pl := #[(0, 1), (1, 1), (2, 1), (3, 1)]) Tryd.underlying40 Tryd.zeroValue40 rfl (fun _ => by kernel_rfl) rfl rfl rfl) <| L_op (.plain rfl) rfl (ltb rfl) (X_move (v := (.int .i64 ((resolveT a0 a1).2))) rfl) <| L_storeA (.plain rfl) rfl rfl Tryd.sizeOf40 (K18 4 rfl) rfl rfl rfl rfl (Blk.ext k6 (Ext.trans (Ext.trans (Ext.trans (Ext.trans (Ext.trans (Ext.trans (Ext.trans e11 e15) e20) e25) e27) e32) e36) e46)) <| fun w48 h49 k50 => L_op (.plain rfl) rfl (ltb rfl) (X_assign (v := (.int .i64 ((resolveT a0 a1).2))) rfl) <| L_nil <| thn_n <| W_ret <| thn_r <| finG_r ?_
      obtain rfl := Option.some.inj H
      exact finC2 rfl (K18 4 rfl) k50 Tryd.isAgg40 Tryd.sizeOf40 rfl rfl (Below.trans (Ext.trans (Ext.trans (Ext.trans (Ext.trans (Ext.trans (Ext.trans (Ext.trans (Ext.trans e5 e11) e15) e20) e25) e27) e32) e36) e46) (Wr.below h49 (Nat.le_of_eq z3)))
    · refine W_false (congrArg Value.bool q47) <| W_skip <| thn_n <| W_seq <| W_reg <| L_op (.plain rfl) rfl (ltb rfl) (X_move (v := v_a0) (K18 0 rfl)) <| L_op (.plain rfl) rfl (ltb rfl) (X_move (v := (.int .i64 ((resolveT a0 a1).1))) rfl) ?_
      obtain ⟨c51, H⟩ := bif_some H
      refine L_idx (.plain rfl) rfl (ltb rfl) rfl Tryd.underlying43 Tryd.sizeOf40 rfl (Rd.ext f_a0 (Ext.trans (Ext.trans (Ext.trans (Ext.trans (Ext.trans (Ext.trans (Ext.trans (Ext.trans e5 e11) e15) e20) e25) e27) e32) e36) e46)) rfl c51 <| fun p52 h53 => L_op (.plain rfl) rfl (ltb rfl) (X_loadS Tryd.isAgg40 Tryd.sizeOf40 rfl rfl h53) <| L_storeA (.plain rfl) rfl rfl Tryd.sizeOf40 (K18 4 rfl) rfl rfl rfl rfl (Blk.ext k6 (Ext.trans (Ext.trans (Ext.trans (Ext.trans (Ext.trans (Ext.trans (Ext.trans e11 e15) e20) e25) e27) e32) e36) e46)) <| fun w54 h55 k56 => L_op (.plain rfl) rfl (ltb rfl) (X_assign (v := (.int .i64 0)) rfl) <| L_nil <| thn_n <| W_ret <| finG_r ?_
      obtain rfl := Option.some.inj H
      exact finC2 rfl (K18 4 rfl) k56 Tryd.isAgg40 Tryd.sizeOf40 rfl rfl (Below.trans (Ext.trans (Ext.trans (Ext.trans (Ext.trans (Ext.trans (Ext.trans (Ext.trans (Ext.trans e5 e11) e15) e20) e25) e27) e32) e36) e46) (Wr.below h55 (Nat.le_of_eq z3)))
theorem impl_FindNode.calls {w : World} {a0 : List Nd} {a1 : List UInt8} (gv : GV 0 w) {v_a0 : Value} (f_a0 : Rd 4 encNd w v_a0 a0) (h0 : a0.length ≤ 1048576) (h1 : ∀ x ∈ a0, x.path.length ≤ 1048576) :
    Calls Tryd.prog 30 #[v_a0, S a1] w (Rt (RP w (.tuple #[.agg (encNd ((findNode a0 a1).1)).toArray, .int .i64 ((findNode a0 a1).2)]))) := impl_FindNode.walk gv f_a0 (impl_FindNode.eq a0 a1 h0 h1)
/-! laws.FnExactFindNode -/
theorem law_FindNode.walk {w : World} {a0 : List Nd} {a1 : List UInt8} (gv : GV 0 w) {v_a0 : Value} (f_a0 : Rd 4 encNd w v_a0 a0) {r : Bool} (H : law_FindNode.sh a0 a1 = some r) :
    Calls Tryd.prog 6 #[v_a0, S a1] w (Rt (RP w (.bool r))) := by
  unfold law_FindNode.sh at H
  refine calls_of_W Tryd.func6 rfl (Nat.le_of_ble_eq_true rfl) Tryd.ntmps6 rfl ?_
  refine W_seq <| W_reg <| L_op (.plain rfl) rfl (ltb rfl) (X_assign (v := (.bool false)) rfl) <| L_nil <| thn_n <| W_seq <| W_seq <| W_reg <| L_op (.plain rfl) rfl (ltb rfl) (X_move (v := (S a1)) rfl) <| L_op (.plain rfl) rfl (ltb rfl) (X_lenS Tryd.underlying9 rfl) <| L_op (.plain rfl) rfl (ltb rfl) (X_gtr rfl rfl) <| L_nil <| thn_n ?_
  rcases bif_two H with ⟨q1, H⟩ | ⟨q1, H⟩
  · refine W_true (congrArg Value.bool q1) <| W_seq <| W_reg <| L_op (.plain rfl) rfl (ltb rfl) (X_assign (v := (.bool true)) rfl) <| L_nil <| thn_n <| W_ret <| thn_r <| fin_r ?_
    obtain rfl := Option.some.inj H
    exact fin1 rfl (Ext.refl w)
  · refine W_false (congrArg Value.bool q1) <| W_skip <| thn_n <| W_seq <| W_reg <| L_op (.plain rfl) rfl (ltb rfl) (X_assign (v := (.int .i64 1048576)) rfl) <| L_nil <| thn_n <| W_seq <| W_reg <| L_op (.plain rfl) rfl (ltb rfl) (X_move (v := v_a0) rfl) <| L_op (.plain rfl) rfl (ltb rfl) (X_move (v := (.int .i64 1048576)) rfl) ?_
    obtain ⟨c2, H⟩ := bif_some H
    obtain ⟨c3, H⟩ := bif_some H
    obtain ⟨c4, H⟩ := bif_some H
    obtain ⟨c5, H⟩ := bif_some H
    refine L_callP (.plain rfl) rfl (ltb rfl) rfl Tryd.call27 (laws_szNodeS.calls (w := w) (a0 := a0) (a1 := 1048576) f_a0 (of_decide_eq_true c2) (of_decide_eq_true c3) (of_decide_eq_true c4) (of_decide_eq_true c5)) rfl <| fun w6 e7 => L_op (.plain rfl) rfl (ltb rfl) (X_assign (v := (.int .i64 (szNdS a0 1048576))) rfl) <| L_nil <| thn_n <| W_seq <| W_seq <| W_reg <| L_op (.plain rfl) rfl (ltb rfl) (X_move (v := (.int .i64 (szNdS a0 1048576))) rfl) <| L_op (.plain rfl) rfl (ltb rfl) (X_lss rfl rfl) <| L_nil <| thn_n ?_
    rcases bif_two H with ⟨q8, H⟩ | ⟨q8, H⟩
    · refine W_true (congrArg Value.bool q8) <| W_seq <| W_reg <| L_op (.plain rfl) rfl (ltb rfl) (X_assign (v := (.bool true)) rfl) <| L_nil <| thn_n <| W_ret <| thn_r <| fin_r ?_
      obtain rfl := Option.some.inj H
      exact fin1 rfl e7
    · refine W_false (congrArg Value.bool q8) <| W_skip <| thn_n <| W_seq <| W_reg <| L_op (.plain rfl) rfl (ltb rfl) (X_move (v := v_a0) rfl) ?_
      obtain ⟨c9, H⟩ := bif_some H
      refine L_callO (.plain rfl) rfl (ltb rfl) rfl Tryd.call29 (laws_toNodeS.calls (w := w6) (a0 := a0) (Rd.ext f_a0 e7) (of_decide_eq_true c9)) rfl <| fun v12 w10 e11 o13 => L_op (.plain rfl) rfl (ltb rfl) (X_move (v := (S a1)) rfl) ?_
      obtain ⟨c14, H⟩ := bif_some H
      obtain ⟨c15, H⟩ := bif_some H
      refine L_callP (.plain rfl) rfl (ltb rfl) rfl Tryd.call28 (spec_FindNode.calls (w := w10) (a0 := a0) (a1 := a1) (Ow.rd o13) (of_decide_eq_true c14) (of_decide_eq_true c15)) rfl <| fun w16 e17 => L_op (.plain rfl) rfl (ltb rfl) (X_move rfl) <| L_op (.plain rfl) rfl (ltb rfl) (X_extract (v := (.agg (encNd ((findNode a0 a1).1)).toArray)) rfl rfl) <| L_op (.plain rfl) rfl (ltb rfl) (X_extract (v := (.int .i64 ((findNode a0 a1).2))) rfl rfl) <| L_alloc (.plain rfl) rfl (ltb rfl) rfl Tryd.zeroValue40 <| fun b18 w19 z20 z21 e22 k23 => L_storeA (.plain rfl) rfl rfl Tryd.sizeOf40 rfl rfl rfl rfl rfl k23 <| fun w24 h25 k26 => L_op (.plain rfl) rfl (ltb rfl) (X_assign (v := (.int .i64 ((findNode a0 a1).2))) rfl) <| L_nil <| thn_n <| W_seq <| W_reg <| L_op (.plain rfl) rfl (ltb rfl) (X_move (v := v_a0) rfl) ?_
      obtain ⟨c27, H⟩ := bif_some H
      refine L_callO (.plain rfl) rfl (ltb rfl) rfl Tryd.call29 (laws_toNodeS.calls (w := w24) (a0 := a0) (Rd.ext f_a0 (Ext.trans (Ext.trans (Ext.trans e7 e11) e17) (Below.trans e22 (Wr.below h25 (Nat.le_of_eq z20))))) (of_decide_eq_true c27)) rfl <| fun v30 w28 e29 o31 => L_op (.plain rfl) rfl (ltb rfl) (X_assign (v := v30) rfl) <| L_nil <| thn_n <| W_seq <| W_reg <| L_op (.plain rfl) rfl (ltb rfl) (X_move (v := v30) rfl) <| L_op (.plain rfl) rfl (ltb rfl) (X_move (v := (S a1)) rfl) ?_
      obtain ⟨c32, H⟩ := bif_some H
      obtain ⟨c33, H⟩ := bif_some H
      refine L_callP (.plain rfl) rfl (ltb rfl) rfl Tryd.call30 (impl_FindNode.calls (w := w28) (a0 := a0) (a1 := a1) (GV.ext gv (Ext.trans (Ext.trans (Ext.trans (Ext.trans e7 e11) e17) (Below.trans e22 (Wr.below h25 (Nat.le_of_eq z20)))) e29)) (Ow.rd o31) (of_decide_eq_true c32) (of_decide_eq_true c33)) rfl <| fun w34 e35 => L_op (.plain rfl) rfl (ltb rfl) (X_move rfl) <| L_op (.plain rfl) rfl (ltb rfl) (X_extract (v := (.agg (encNd ((findNode a0 a1).1)).toArray)) rfl rfl) <| L_op (.plain rfl) rfl (ltb rfl) (X_extract (v := (.int .i64 ((findNode a0 a1).2))) rfl rfl) <| L_alloc (.plain rfl) rfl (ltb rfl) rfl Tryd.zeroValue40 <| fun b36 w37 z38 z39 e40 k41 => L_storeA (.plain rfl) rfl rfl Tryd.sizeOf40 rfl rfl rfl rfl rfl k41 <| fun w42 h43 k44 => L_op (.plain rfl) rfl (ltb rfl) (X_assign (v := (.int .i64 ((findNode a0 a1).2))) rfl) <| L_nil <| thn_n <| W_seq <| W_seq <| W_reg <| L_op (.plain rfl) rfl (ltb rfl) (X_loadS Tryd.isAgg40 Tryd.sizeOf40 rfl rfl (Blk.at0 k44)) <| L_op (.plain rfl) rfl (ltb rfl) (X_loadS Tryd.isAgg40 Tryd.sizeOf40 rfl rfl (Blk.at0 (Blk.ext k26 (Ext.trans (Ext.trans e29 e35) (Below.trans e40 (Wr.below h43 (Nat.le_of_eq z38))))))) <| L_callP (.plain rfl) rfl (ltb rfl) rfl Tryd.call31 (laws_eqNode.calls (w := w42) (a0 := ((findNode a0 a1).1)) (a1 := ((findNode a0 a1).1))) rfl <| fun w45 e46 => L_op (.plain rfl) rfl (ltb rfl) (X_not rfl) <| L_op (.plain rfl) rfl (ltb rfl) (X_move (v := (.bool (!(decide (((findNode a0 a1).1) = ((findNode a0 a1).1)))))) rfl) <| L_grp 4 [(39, 43)] 42 (.bool ((!(decide (((findNode a0 a1).1) = ((findNode a0 a1).1)))) || (!decide (((findNode a0 a1).2) = ((findNode a0 a1).2))))) ?_ ?_
      · rcases bool_two (!(decide (((findNode a0 a1).1) = ((findNode a0 a1).1)))) with b46_ | b46_
        · exact L_skip rfl rfl (ltb rfl) (congrArg Value.bool b46_) rfl rfl (ltb rfl) <| L_skip rfl rfl (ltb rfl) (congrArg Value.bool b46_) rfl rfl (ltb rfl) <| L_skip rfl rfl (ltb rfl) (congrArg Value.bool b46_) rfl rfl (ltb rfl) <| L_op (.plain rfl) rfl (ltb rfl) (X_pick (b := true) (v := (.bool true)) (congrArg Value.bool b46_) rfl) <| L_nil <| thn_n ⟨(Kp.upd (Kp.upd (Kp.upd (Kp.upd (Kp.refl _ _) rfl) rfl) rfl) rfl), (or_t b46_), (Ext.refl w45)⟩
        · exact L_op (.guard 4 false 38 rfl rfl (ltb rfl) (congrArg Value.bool b46_)) rfl (ltb rfl) (X_move (v := (.int .i64 ((findNode a0 a1).2))) rfl) <| L_op (.guard 4 false 38 rfl rfl (ltb rfl) (congrArg Value.bool b46_)) rfl (ltb rfl) (X_move (v := (.int .i64 ((findNode a0 a1).2))) rfl) <| L_op (.guard 4 false 38 rfl rfl (ltb rfl) (congrArg Value.bool b46_)) rfl (ltb rfl) (X_neq rfl rfl) <| L_op (.plain rfl) rfl (ltb rfl) (X_pick (b := false) (v := (.bool (!decide (((findNode a0 a1).2) = ((findNode a0 a1).2))))) (congrArg Value.bool b46_) rfl) <| L_nil <| thn_n ⟨(Kp.upd (Kp.upd (Kp.upd (Kp.upd (Kp.refl _ _) rfl) rfl) rfl) rfl), (or_f b46_), (Ext.refl w45)⟩
      intro s52 w48 K49 h50 e51
      refine L_nil <| thn_n ?_
      rcases bif_two H with ⟨q53, H⟩ | ⟨q53, H⟩
      · refine W_true (h50.trans (congrArg Value.bool q53)) <| W_seq <| W_reg <| L_op (.plain rfl) rfl (ltb rfl) (X_assign (v := (.bool false)) rfl) <| L_nil <| thn_n <| W_ret <| thn_r <| fin_r ?_
        obtain rfl := Option.some.inj H
        exact fin1 rfl (Ext.trans (Ext.trans (Ext.trans (Ext.trans (Ext.trans (Ext.trans (Ext.trans (Ext.trans e7 e11) e17) (Below.trans e22 (Wr.below h25 (Nat.le_of_eq z20)))) e29) e35) (Below.trans e40 (Wr.below h43 (Nat.le_of_eq z38)))) e46) e51)
      · refine W_false (h50.trans (congrArg Value.bool q53)) <| W_skip <| thn_n <| W_seq <| W_seq <| W_reg <| L_op (.plain rfl) rfl (ltb rfl) (X_move (v := v30) (K49 8 rfl)) <| L_op (.plain rfl) rfl (ltb rfl) (X_move (v := v_a0) (K49 0 rfl)) ?_
        obtain ⟨c54, H⟩ := bif_some H
        refine L_callO (.plain rfl) rfl (ltb rfl) rfl Tryd.call29 (laws_toNodeS.calls (w := w48) (a0 := a0) (Rd.ext f_a0 (Ext.trans (Ext.trans (Ext.trans (Ext.trans (Ext.trans (Ext.trans (Ext.trans (Ext.trans e7 e11) e17) (Below.trans e22 (Wr.below h25 (Nat.le_of_eq z20)))) e29) e35) (Below.trans e40 (Wr.below h43 (Nat.le_of_eq z38)))) e46) e51)) (of_decide_eq_true c54)) rfl <| fun v57 w55 e56 o58 => ?_
        obtain ⟨c59, H⟩ := bif_some H
        refine L_callP (.plain rfl) rfl (ltb rfl) rfl Tryd.call32 (laws_eqNodeS.calls (w := w55) (a0 := a0) (a1 := a0) (Ow.rd (Ow.ext o31 (Ext.trans (Ext.trans (Ext.trans (Ext.trans e35 (Below.trans e40 (Wr.below h43 (Nat.le_of_eq z38)))) e46) e51) e56))) (Ow.rd o58) (of_decide_eq_true c59)) rfl <| fun w60 e61 => L_op (.plain rfl) rfl (ltb rfl) (X_not rfl) <| L_nil <| thn_n ?_
        rcases bif_two H with ⟨q62, H⟩ | ⟨q62, H⟩
        · refine W_true (congrArg Value.bool q62) <| W_seq <| W_reg <| L_op (.plain rfl) rfl (ltb rfl) (X_assign (v := (.bool false)) rfl) <| L_nil <| thn_n <| W_ret <| thn_r <| fin_r ?_
          obtain rfl := Option.some.inj H
          exact fin1 rfl (Ext.trans (Ext.trans (Ext.trans (Ext.trans (Ext.trans (Ext.trans (Ext.trans (Ext.trans (Ext.trans (Ext.trans e7 e11) e17) (Below.trans e22 (Wr.below h25 (Nat.le_of_eq z20)))) e29) e35) (Below.trans e40 (Wr.below h43 (Nat.le_of_eq z38)))) e46) e51) e56) e61)
        · refine W_false (congrArg Value.bool q62) <| W_skip <| thn_n <| W_seq <| W_reg <| L_op (.plain rfl) rfl (ltb rfl) (X_assign (v := (.bool true)) rfl) <| L_nil <| thn_n <| W_ret <| fin_r ?_
          obtain rfl := Option.some.inj H
          exact fin1 rfl (Ext.trans (Ext.trans (Ext.trans (Ext.trans (Ext.trans (Ext.trans (Ext.trans (Ext.trans (Ext.trans (Ext.trans e7 e11) e17) (Below.trans e22 (Wr.below h25 (Nat.le_of_eq z20)))) e29) e35) (Below.trans e40 (Wr.below h43 (Nat.le_of_eq z38)))) e46) e51) e56) e61)
theorem law_FindNode.calls {w : World} {a0 : List Nd} {a1 : List UInt8} (gv : GV 0 w) {v_a0 : Value} (f_a0 : Rd 4 encNd w v_a0 a0) (h0 : ∀ x ∈ a0, okNd x) (h1 : a0.length ≤ 9223372036854775807) :
    Calls Tryd.prog 6 #[v_a0, S a1] w (Rt (RP w (.bool true))) := law_FindNode.walk gv f_a0 (law_FindNode.eq a0 a1 h0 h1)
/-! laws.markNodeS -/
abbrev laws_markNodeS.e1 (x1_1 : Int) := (IntKind.wrap .i64 ((IntKind.wrap .i64 (x1_1 + 1)) + 1))
theorem laws_markNodeS.walk {k : Nat} {w : World} {a0 : List Nd} {a1 : Int} {v_a0 : Value} {B_a0 : Nat} {T_a0 : Nat} (o_a0 : Ow 40 4 encNd B_a0 w v_a0 a0) (l_a0 : HB v_a0 T_a0) {r : Int × List Nd} (H : laws_markNodeS.sh k a0 a1 = some r) :
    Calls Tryd.prog 39 #[v_a0, .int .i64 a1] w (Rt (RM 40 4 encNd B_a0 T_a0 w (.int .i64 r.1) v_a0 r.2)) := by
  unfold laws_markNodeS.sh at H
  refine calls_of_W Tryd.func39 rfl (Nat.le_of_ble_eq_true rfl) Tryd.ntmps39 rfl ?_
  refine W_seq <| W_reg <| L_op (.plain rfl) rfl (ltb rfl) (X_assign (v := (.int .i64 0)) rfl) <| L_nil <| thn_n <| W_seq <| W_seq <| W_reg <| L_op (.plain rfl) rfl (ltb rfl) (X_assign (v := (.int .i64 0)) rfl) <| L_nil <| thn_n ?_
  obtain ⟨z4, L5, C6⟩ := bind_some H
  clear H
  refine  W_cutQ (fun s0 sQ wQ => ∃ (x1_7 : Int) (y8 : List Nd), Kp [(1, 2), (5, 42)] s0 sQ ∧ sQ 1 = .int .i64 x1_7 ∧ Ow 40 4 encNd B_a0 wQ v_a0 y8 ∧ Gr B_a0 T_a0 w wQ ∧ z4 = .inr (x1_7, y8)) ?_ ?_
  · refine W_block <| W_loopI (fun s0 kk sQ wQ => ∃ (x1_1 : Int) (x5_2 : Int) (y3 : List Nd), Kp [(1, 2), (5, 42)] s0 sQ ∧ sQ 1 = .int .i64 x1_1 ∧ sQ 5 = .int .i64 x5_2 ∧ Ow 40 4 encNd B_a0 wQ v_a0 y3 ∧ Gr B_a0 T_a0 w wQ ∧ loopF (laws_markNodeS.b1) kk (x1_1, x5_2, y3) = some z4) k ⟨a1, 0, a0, (Kp.refl _ _), rfl, rfl, o_a0, (Gr.refl _ _ _), L5⟩ ?_
    rintro k13 s14 w15 ⟨x1_1, x5_2, y3, K16, h19, h20, h21, e17, L18⟩
    cases k13 with
    | zero => exact absurd L18 (by simp [loopF])
    | succ k13 =>
      obtain ⟨t22, H, S23⟩ := loopF_succ L18
      clear L18
      unfold laws_markNodeS.b1 at H
      refine W_seq <| W_seq <| W_reg <| L_op (.plain rfl) rfl (ltb rfl) (X_move (v := (.int .i64 x5_2)) h20) <| L_op (.plain rfl) rfl (ltb rfl) (X_move (v := v_a0) (K16 0 rfl)) <| L_op (.plain rfl) rfl (ltb rfl) (X_lenR Tryd.underlying43 rfl (Ow.rd h21)) <| L_op (.plain rfl) rfl (ltb rfl) (X_lss rfl rfl) <| L_nil <| thn_n ?_
      rcases bif_two H with ⟨q24, H⟩ | ⟨q24, H⟩
      · refine W_true (congrArg Value.bool q24) <| W_skip <| thn_n <| W_seq <| W_block <| W_seq <| W_reg <| L_op (.plain rfl) rfl (ltb rfl) (X_move (v := v_a0) (K16 0 rfl)) <| L_op (.plain rfl) rfl (ltb rfl) (X_move (v := (.int .i64 x5_2)) h20) <| L_op (.plain rfl) rfl (ltb rfl) (X_move (v := (.int .i64 x1_1)) h19) ?_
        obtain ⟨c27, H⟩ := bif_some H
        refine L_idxO (.plain rfl) rfl (ltb rfl) rfl Tryd.underlying43 Tryd.sizeOf40 rfl h21 rfl c27 <| fun p25 h26 => L_op (.plain rfl) rfl (ltb rfl) (X_fieldAddr Tryd.underlying40 rfl Tryd.sizeOf3 rfl rfl) <| L_storeO (a := (⟨x1_1, (gt y3 x5_2).path, (gt y3 x5_2).body, (gt y3 x5_2).mode⟩ : Nd)) (vs := [(.int .i64 x1_1)]) (off := 0) (.plain rfl) rfl rfl Tryd.sizeOf3 rfl h26 rfl rfl rfl rfl rfl rfl <| fun b28 w29 h30 h31 h32 o33 => L_nil <| thn_n <| W_seq <| W_reg <| L_op (.plain rfl) rfl (ltb rfl) (X_move (v := (.int .i64 x1_1)) h19) <| L_op (.plain rfl) rfl (ltb rfl) (X_add rfl rfl) <| L_op (.plain rfl) rfl (ltb rfl) (X_assign (v := (.int .i64 (IntKind.wrap .i64 (x1_1 + 1)))) rfl) <| L_nil <| thn_n <| W_seq <| W_reg <| L_op (.plain rfl) rfl (ltb rfl) (X_move (v := v_a0) (K16 0 rfl)) <| L_op (.plain rfl) rfl (ltb rfl) (X_move (v := (.int .i64 x5_2)) h20) <| L_op (.plain rfl) rfl (ltb rfl) (X_move (v := (.int .i64 (IntKind.wrap .i64 (x1_1 + 1)))) rfl) ?_
        obtain ⟨c34, H⟩ := bif_some H
        refine L_callP (.plain rfl) rfl (ltb rfl) rfl Tryd.call87 (laws_markText.calls (w := w29) (a0 := IntKind.wrap .i64 (x1_1 + 1)) (of_decide_eq_true c34)) rfl <| fun w35 e36 => L_idxO (.plain rfl) rfl (ltb rfl) rfl Tryd.underlying43 Tryd.sizeOf40 rfl (Ow.ext o33 e36) rfl (inR_setI c27) <| fun p37 h38 => L_op (.plain rfl) rfl (ltb rfl) (X_fieldAddr Tryd.underlying40 rfl Tryd.sizeOf9 rfl rfl) <| L_storeO2 (a := (⟨x1_1, (markT (IntKind.wrap .i64 (x1_1 + 1))), (gt y3 x5_2).body, (gt y3 x5_2).mode⟩ : Nd)) (vs := [(S (markT (IntKind.wrap .i64 (x1_1 + 1))))]) (off := 1) (.plain rfl) rfl rfl Tryd.sizeOf9 rfl c27 h38 rfl rfl rfl rfl rfl rfl <| fun b39 w40 h41 h42 h43 o44 => L_nil <| thn_n <| W_seq <| W_reg <| L_op (.plain rfl) rfl (ltb rfl) (X_move (v := (.int .i64 (IntKind.wrap .i64 (x1_1 + 1)))) rfl) <| L_op (.plain rfl) rfl (ltb rfl) (X_add rfl rfl) <| L_op (.plain rfl) rfl (ltb rfl) (X_assign (v := (.int .i64 (laws_markNodeS.e1 x1_1))) rfl) <| L_nil <| thn_n <| W_seq <| W_reg <| L_op (.plain rfl) rfl (ltb rfl) (X_move (v := v_a0) (K16 0 rfl)) <| L_op (.plain rfl) rfl (ltb rfl) (X_move (v := (.int .i64 x5_2)) h20) <| L_op (.plain rfl) rfl (ltb rfl) (X_move (v := (.int .i64 (laws_markNodeS.e1 x1_1))) rfl) ?_
        obtain ⟨c45, H⟩ := bif_some H
        refine L_callP (.plain rfl) rfl (ltb rfl) rfl Tryd.call87 (laws_markText.calls (w := w40) (a0 := IntKind.wrap .i64 ((IntKind.wrap .i64 (x1_1 + 1)) + 1)) (of_decide_eq_true c45)) rfl <| fun w46 e47 => L_idxO (.plain rfl) rfl (ltb rfl) rfl Tryd.underlying43 Tryd.sizeOf40 rfl (Ow.ext o44 e47) rfl (inR_setI c27) <| fun p48 h49 => L_op (.plain rfl) rfl (ltb rfl) (X_fieldAddr Tryd.underlying40 rfl Tryd.sizeOf9 rfl rfl) <| L_storeO2 (a := (⟨x1_1, (markT (IntKind.wrap .i64 (x1_1 + 1))), (markT (laws_markNodeS.e1 x1_1)), (gt y3 x5_2).mode⟩ : Nd)) (vs := [(S (markT (laws_markNodeS.e1 x1_1)))]) (off := 2) (.plain rfl) rfl rfl Tryd.sizeOf9 rfl c27 h49 rfl rfl rfl rfl rfl rfl <| fun b50 w51 h52 h53 h54 o55 => L_nil <| thn_n <| W_seq <| W_reg <| L_op (.plain rfl) rfl (ltb rfl) (X_move (v := (.int .i64 (laws_markNodeS.e1 x1_1))) rfl) <| L_op (.plain rfl) rfl (ltb rfl) (X_add rfl rfl) <| L_op (.plain rfl) rfl (ltb rfl) (X_assign rfl) <| L_nil <| thn_n <| W_seq <| W_reg <| L_op (.plain rfl) rfl (ltb rfl) (X_move (v := v_a0) (K16 0 rfl)) <| L_op (.plain rfl) rfl (ltb rfl) (X_move (v := (.int .i64 x5_2)) h20) <| L_op (.plain rfl) rfl (ltb rfl) (X_move rfl) <| L_idxO (.plain rfl) rfl (ltb rfl) rfl Tryd.underlying43 Tryd.sizeOf40 rfl o55 rfl (inR_setI c27) <| fun p56 h57 => L_op (.plain rfl) rfl (ltb rfl) (X_fieldAddr Tryd.underlying40 rfl Tryd.sizeOf3 rfl rfl) <| L_storeO2 (a := (⟨x1_1, (markT (IntKind.wrap .i64 (x1_1 + 1))), (markT (laws_markNodeS.e1 x1_1)), IntKind.wrap .i64 ((laws_markNodeS.e1 x1_1) + 1)⟩ : Nd)) (vs := [(.int .i64 (IntKind.wrap .i64 ((laws_markNodeS.e1 x1_1) + 1)))]) (off := 3) (.plain rfl) rfl rfl Tryd.sizeOf3 rfl c27 h57 rfl rfl rfl rfl rfl rfl <| fun b58 w59 h60 h61 h62 o63 => L_nil <| thn_n <| W_reg <| L_op (.plain rfl) rfl (ltb rfl) (X_move rfl) <| L_op (.plain rfl) rfl (ltb rfl) (X_add rfl rfl) <| L_op (.plain rfl) rfl (ltb rfl) (X_assign rfl) <| L_nil <| blk_n <| thn_n <| W_reg <| L_op (.plain rfl) rfl (ltb rfl) (X_move (v := (.int .i64 x5_2)) h20) <| L_op (.plain rfl) rfl (ltb rfl) (X_add rfl rfl) <| L_op (.plain rfl) rfl (ltb rfl) (X_assign (v := (.int .i64 (IntKind.wrap .i64 (x5_2 + 1)))) rfl) <| L_nil <| thn_n ?_
        obtain rfl := Option.some.inj H
        exact ⟨_, Nat.lt_succ_self _, IntKind.wrap .i64 ((IntKind.wrap .i64 ((laws_markNodeS.e1 x1_1) + 1)) + 1), IntKind.wrap .i64 (x5_2 + 1), setI y3 x5_2 (⟨x1_1, (markT (IntKind.wrap .i64 (x1_1 + 1))), (markT (laws_markNodeS.e1 x1_1)), IntKind.wrap .i64 ((laws_markNodeS.e1 x1_1) + 1)⟩ : Nd), (Kp.upd (Kp.upd (Kp.upd (Kp.upd (Kp.upd (Kp.upd (Kp.upd (Kp.upd (Kp.upd (Kp.upd (Kp.upd (Kp.upd (Kp.upd (Kp.upd (Kp.upd (Kp.upd (Kp.upd (Kp.upd (Kp.upd (Kp.upd (Kp.upd (Kp.upd (Kp.upd (Kp.upd (Kp.upd (Kp.upd (Kp.upd (Kp.upd (Kp.upd (Kp.upd (Kp.upd (Kp.upd (Kp.upd (Kp.upd (Kp.upd (Kp.upd (Kp.upd (Kp.upd (Kp.upd (Kp.upd (Kp.upd K16 rfl) rfl) rfl) rfl) rfl) rfl) rfl) rfl) rfl) rfl) rfl) rfl) rfl) rfl) rfl) rfl) rfl) rfl) rfl) rfl) rfl) rfl) rfl) rfl) rfl) rfl) rfl) rfl) rfl) rfl) rfl) rfl) rfl) rfl) rfl) rfl) rfl) rfl) rfl) rfl) rfl), rfl, rfl, o63, (Gr.trans (Gr.trans (Gr.trans (Gr.trans (Gr.trans (Gr.trans e17 (Gr.wr h32 h31 (HB.own l_a0 h30 (OP.own0 h26) (inR_pos c27)))) (Gr.ext e36)) (Gr.wr h43 h42 (HB.own l_a0 h41 (OP.own0 h38) (inR_pos (inR_setI c27))))) (Gr.ext e47)) (Gr.wr h54 h53 (HB.own l_a0 h52 (OP.own0 h49) (inR_pos (inR_setI c27))))) (Gr.wr h62 h61 (HB.own l_a0 h60 (OP.own0 h57) (inR_pos (inR_setI c27))))), S23⟩
      · refine W_false (congrArg Value.bool q24) <| W_exit <| thn_x <| thn_x <| blk_x <| thn_n ?_
        obtain rfl := Option.some.inj H
        obtain rfl := Option.some.inj S23
        exact ⟨x1_1, y3, (Kp.upd (Kp.upd (Kp.upd (Kp.upd K16 rfl) rfl) rfl) rfl), h19, h21, e17, rfl⟩
  · rintro s10 w9 ⟨x1_7, y8, K11, h64, h65, e12, y66⟩
    rw [y66] at C6
    have H := C6
    replace H : _ = some _ := H
    refine thn_n <| W_seq <| W_reg <| L_op (.plain rfl) rfl (ltb rfl) (X_move (v := (.int .i64 x1_7)) h64) <| L_op (.plain rfl) rfl (ltb rfl) (X_assign (v := (.int .i64 x1_7)) rfl) <| L_nil <| thn_n <| W_ret <| fin_r ?_
    obtain rfl := Option.some.inj H
    exact fin1m rfl e12 h65
theorem laws_markNodeS.calls {w : World} {a0 : List Nd} {a1 : Int} {v_a0 : Value} {B_a0 : Nat} {T_a0 : Nat} (o_a0 : Ow 40 4 encNd B_a0 w v_a0 a0) (l_a0 : HB v_a0 T_a0) (h0 : a0.length ≤ 1152921504606846976) (h1 : (0 : Int) ≤ a1) (h2 : (a1 : Int) ≤ 4611686018427387904 - 4 * (a0.length : Int)) :
    Calls Tryd.prog 39 #[v_a0, .int .i64 a1] w (Rt (RM 40 4 encNd B_a0 T_a0 w (.int .i64 (a1 + 4 * (a0.length : Int))) v_a0 (marksN a0.length a1))) := by
  obtain ⟨k, h⟩ := laws_markNodeS.eq a0 a1 h0 h1 h2
  exact laws_markNodeS.walk o_a0 l_a0 h
/-! spec.l04List -/
theorem spec_l04List.walk {k : Nat} {w : World} {a0 : List Nd} {a1 : List UInt8} {v_a0 : Value} (f_a0 : Rd 4 encNd w v_a0 a0) {r : List (List UInt8)} (H : spec_l04List.sh k a0 a1 = some r) :
    Calls Tryd.prog 91 #[v_a0, S a1] w (Rt (RO 9 1 encS w r)) := by
  unfold spec_l04List.sh at H
  refine calls_of_W Tryd.func91 rfl (Nat.le_of_ble_eq_true rfl) Tryd.ntmps91 rfl ?_
  refine W_seq <| W_reg <| L_op (.plain rfl) rfl (ltb rfl) (X_assign (v := (.slice none 0 0)) rfl) <| L_nil <| thn_n <| W_seq <| W_reg <| L_lit (.plain rfl) rfl (ltb rfl) rfl Tryd.underlying57 Tryd.sizeOf9 Tryd.zeroValue9 rfl rfl rfl (vs := []) rfl (lit_all rfl) <| fun b1 w2 z3 z4 e5 k6 => L_op (.plain rfl) rfl (ltb rfl) (X_assign (v := (.slice (some ⟨b1, 0, none⟩) 0 0)) rfl) <| L_nil <| thn_n <| W_seq <| W_seq <| W_reg <| L_op (.plain rfl) rfl (ltb rfl) (X_assign (v := (.int .i64 0)) rfl) <| L_nil <| thn_n ?_
  obtain ⟨z10, L11, C12⟩ := bind_some H
  clear H
  refine  W_cutQ (fun s0 sQ wQ => ∃ (x5_13 : List (List UInt8)) (v14 : Value), Kp [(5, 8), (9, 38)] s0 sQ ∧ sQ 5 = v14 ∧ Ow 9 1 encS w2.heap.size wQ v14 x5_13 ∧ Ext w2 wQ ∧ z10 = .inr x5_13) ?_ ?_
  · refine W_block <| W_loopI (fun s0 kk sQ wQ => ∃ (x5_7 : List (List UInt8)) (v8 : Value) (x6_9 : Int), Kp [(5, 8), (9, 38)] s0 sQ ∧ sQ 5 = v8 ∧ Ow 9 1 encS w2.heap.size wQ v8 x5_7 ∧ sQ 6 = .int .i64 x6_9 ∧ Ext w2 wQ ∧ loopF (spec_l04List.b1 a0 a1) kk (x5_7, x6_9) = some z10) k ⟨([] : List (List UInt8)), (.slice (some ⟨b1, 0, none⟩) 0 0), 0, (Kp.refl _ _), rfl, (Ow.zero), rfl, (Ext.refl w2), L11⟩ ?_
    rintro k19 s20 w21 ⟨x5_7, v8, x6_9, K22, h25, h26, h27, e23, L24⟩
    cases k19 with
    | zero => exact absurd L24 (by simp [loopF])
    | succ k19 =>
      obtain ⟨t28, H, S29⟩ := loopF_succ L24
      clear L24
      unfold spec_l04List.b1 at H
      refine W_seq <| W_seq <| W_reg <| L_op (.plain rfl) rfl (ltb rfl) (X_move (v := (.int .i64 x6_9)) h27) <| L_op (.plain rfl) rfl (ltb rfl) (X_move (v := v_a0) (K22 0 rfl)) <| L_op (.plain rfl) rfl (ltb rfl) (X_lenR Tryd.underlying43 rfl (Rd.ext f_a0 (Ext.trans e5 e23))) <| L_op (.plain rfl) rfl (ltb rfl) (X_lss rfl rfl) <| L_nil <| thn_n ?_
      rcases bif_two H with ⟨q30, H⟩ | ⟨q30, H⟩
      · refine W_true (congrArg Value.bool q30) <| W_skip <| thn_n <| W_seq <| W_block <| W_seq <| W_reg <| L_op (.plain rfl) rfl (ltb rfl) (X_move (v := v_a0) (K22 0 rfl)) <| L_op (.plain rfl) rfl (ltb rfl) (X_move (v := (.int .i64 x6_9)) h27) ?_
        obtain ⟨c31, H⟩ := bif_some H
        refine L_idx (.plain rfl) rfl (ltb rfl) rfl Tryd.underlying43 Tryd.sizeOf40 rfl (Rd.ext f_a0 (Ext.trans e5 e23)) rfl c31 <| fun p32 h33 => L_op (.plain rfl) rfl (ltb rfl) (X_fieldAddr Tryd.underlying40 rfl Tryd.sizeOf9 rfl rfl) <| L_op (.plain rfl) rfl (ltb rfl) (X_loadF Tryd.isAgg9 (j := 1) h33 rfl rfl) ?_
        obtain ⟨c34, H⟩ := bif_some H
        refine L_callP (.plain rfl) rfl (ltb rfl) rfl Tryd.call101 (spec_l01Parent.calls (w := w21) (a0 := (gt a0 x6_9).path) (of_decide_eq_true c34)) rfl <| fun w35 e36 => L_op (.plain rfl) rfl (ltb rfl) (X_move (v := (S a1)) (K22 1 rfl)) <| L_op (.plain rfl) rfl (ltb rfl) (X_seq rfl rfl) <| L_nil <| thn_n ?_
        rcases bif_two H with ⟨q37, H⟩ | ⟨q37, H⟩
        · refine W_true (congrArg Value.bool q37) <| W_seq <| W_reg <| L_op (.plain rfl) rfl (ltb rfl) (X_move (v := v_a0) (K22 0 rfl)) <| L_op (.plain rfl) rfl (ltb rfl) (X_move (v := (.int .i64 x6_9)) h27) ?_
          obtain ⟨c38, H⟩ := bif_some H
          refine L_idx (.plain rfl) rfl (ltb rfl) rfl Tryd.underlying43 Tryd.sizeOf40 rfl (Rd.ext f_a0 (Ext.trans (Ext.trans e5 e23) e36)) rfl c38 <| fun p39 h40 => L_op (.plain rfl) rfl (ltb rfl) (X_fieldAddr Tryd.underlying40 rfl Tryd.sizeOf9 rfl rfl) <| L_op (.plain rfl) rfl (ltb rfl) (X_loadF Tryd.isAgg9 (j := 1) h40 rfl rfl) ?_
          obtain ⟨c41, H⟩ := bif_some H
          refine L_callO (.plain rfl) rfl (ltb rfl) rfl Tryd.call99 (spec_l00Cut.calls (w := w35) (a0 := (gt a0 x6_9).path) (a1 := 47) (of_decide_eq_true c41)) rfl <| fun v44 w42 e43 o45 => L_op (.plain rfl) rfl (ltb rfl) (X_assign (v := v44) rfl) <| L_nil <| thn_n <| W_reg <| L_op (.plain rfl) rfl (ltb rfl) (X_move (v := v8) h25) <| L_op (.plain rfl) rfl (ltb rfl) (X_move (v := v44) rfl) <| L_op (.plain rfl) rfl (ltb rfl) (X_move (v := v44) rfl) <| L_op (.plain rfl) rfl (ltb rfl) (X_lenR Tryd.underlying57 rfl (Ow.rd o45)) <| L_op (.plain rfl) rfl (ltb rfl) (X_sub rfl rfl) ?_
          obtain ⟨c46, H⟩ := bif_some H
          refine L_idx (.plain rfl) rfl (ltb rfl) rfl Tryd.underlying57 Tryd.sizeOf9 rfl (Ow.rd o45) rfl c46 <| fun p47 h48 => L_op (.plain rfl) rfl (ltb rfl) (X_loadAt Tryd.isAgg9 rfl h48 rfl) <| L_lit (.plain rfl) rfl (ltb rfl) rfl Tryd.underlying57 Tryd.sizeOf9 Tryd.zeroValue9 rfl rfl rfl (vs := [(S (gt (cut 47 ((gt a0 x6_9).path)) (IntKind.wrap .i64 (((cut 47 ((gt a0 x6_9).path)).length : Int) - 1))))]) rfl (lit_all rfl) <| fun b49 w50 z51 z52 e53 k54 => ?_
          obtain ⟨c55, H⟩ := bif_some H
          refine L_append (enc := encS) (.plain rfl) rfl (ltb rfl) rfl El.t57 rfl rfl (Ow.ext h26 (Ext.trans (Ext.trans e36 e43) e53)) (Ow.rd (Ow.new (xs := [gt (cut 47 ((gt a0 x6_9).path)) (IntKind.wrap .i64 (((cut 47 ((gt a0 x6_9).path)).length : Int) - 1))]) (sz := 1) (enc := encS) (base := w42.heap.size) k54 (Nat.le_of_eq z51) rfl (fun _ _ => by rfl) (Nat.le_of_ble_eq_true rfl))) (ones_S _) (of_decide_eq_true c55) ((Ext.trans (Ext.trans (Ext.trans e23 e36) e43) e53)).size <| fun v56 w57 o58 z59 g60 => L_op (.plain rfl) rfl (ltb rfl) (X_assign (v := v56) rfl) <| L_nil <| blk_n <| thn_n <| W_reg <| L_op (.plain rfl) rfl (ltb rfl) (X_move (v := (.int .i64 x6_9)) h27) <| L_op (.plain rfl) rfl (ltb rfl) (X_add rfl rfl) <| L_op (.plain rfl) rfl (ltb rfl) (X_assign (v := (.int .i64 (IntKind.wrap .i64 (x6_9 + 1)))) rfl) <| L_nil <| thn_n ?_
          obtain rfl := Option.some.inj H
          exact ⟨_, Nat.lt_succ_self _, x5_7 ++ ([gt (cut 47 ((gt a0 x6_9).path)) (IntKind.wrap .i64 (((cut 47 ((gt a0 x6_9).path)).length : Int) - 1))] : List (List UInt8)), v56, IntKind.wrap .i64 (x6_9 + 1), (Kp.upd (Kp.upd (Kp.upd (Kp.upd (Kp.upd (Kp.upd (Kp.upd (Kp.upd (Kp.upd (Kp.upd (Kp.upd (Kp.upd (Kp.upd (Kp.upd (Kp.upd (Kp.upd (Kp.upd (Kp.upd (Kp.upd (Kp.upd (Kp.upd (Kp.upd (Kp.upd (Kp.upd (Kp.upd (Kp.upd (Kp.upd (Kp.upd (Kp.upd (Kp.upd (Kp.upd (Kp.upd K22 rfl) rfl) rfl) rfl) rfl) rfl) rfl) rfl) rfl) rfl) rfl) rfl) rfl) rfl) rfl) rfl) rfl) rfl) rfl) rfl) rfl) rfl) rfl) rfl) rfl) rfl) rfl) rfl) rfl) rfl) rfl) rfl), rfl, o58, rfl, (g60 _ (Ext.trans (Ext.trans (Ext.trans e23 e36) e43) e53)), S29⟩
        · refine W_false (congrArg Value.bool q37) <| W_skip <| blk_n <| thn_n <| W_reg <| L_op (.plain rfl) rfl (ltb rfl) (X_move (v := (.int .i64 x6_9)) h27) <| L_op (.plain rfl) rfl (ltb rfl) (X_add rfl rfl) <| L_op (.plain rfl) rfl (ltb rfl) (X_assign (v := (.int .i64 (IntKind.wrap .i64 (x6_9 + 1)))) rfl) <| L_nil <| thn_n ?_
          obtain rfl := Option.some.inj H
          exact ⟨_, Nat.lt_succ_self _, x5_7, v8, IntKind.wrap .i64 (x6_9 + 1), (Kp.upd (Kp.upd (Kp.upd (Kp.upd (Kp.upd (Kp.upd (Kp.upd (Kp.upd (Kp.upd (Kp.upd (Kp.upd (Kp.upd (Kp.upd (Kp.upd (Kp.upd K22 rfl) rfl) rfl) rfl) rfl) rfl) rfl) rfl) rfl) rfl) rfl) rfl) rfl) rfl) rfl), h25, (Ow.ext h26 e36), rfl, (Ext.trans e23 e36), S29⟩
      · refine W_false (congrArg Value.bool q30) <| W_exit <| thn_x <| thn_x <| blk_x <| thn_n ?_
        obtain rfl := Option.some.inj H
        obtain rfl := Option.some.inj S29
        exact ⟨x5_7, v8, (Kp.upd (Kp.upd (Kp.upd (Kp.upd K22 rfl) rfl) rfl) rfl), h25, h26, e23, rfl⟩
  · rintro s16 w15 ⟨x5_13, v14, K17, h61, h62, e18, y63⟩
    rw [y63] at C12
    have H := C12
    replace H : _ = some _ := H
    refine thn_n <| W_seq <| W_reg <| L_op (.plain rfl) rfl (ltb rfl) (X_move (v := v14) h61) <| L_op (.plain rfl) rfl (ltb rfl) (X_assign (v := v14) rfl) <| L_nil <| thn_n <| W_ret <| fin_r ?_
    obtain rfl := Option.some.inj H
    exact fin1o rfl (Ext.trans e5 e18) h62 (e5).size
theorem spec_l04List.calls {w : World} {a0 : List Nd} {a1 : List UInt8} {v_a0 : Value} (f_a0 : Rd 4 encNd w v_a0 a0) (h0 : a0.length ≤ 1048576) (h1 : ∀ x ∈ a0, x.path.length ≤ 1048576) :
    Calls Tryd.prog 91 #[v_a0, S a1] w (Rt (RO 9 1 encS w (listT a0 a1))) := by
  obtain ⟨k, h⟩ := spec_l04List.eq a0 a1 h0 h1
  exact spec_l04List.walk f_a0 h
/-! spec.ListDir -/
theorem spec_ListDir.walk {w : World} {a0 : List Nd} {a1 : List UInt8} {v_a0 : Value} (f_a0 : Rd 4 encNd w v_a0 a0) {r : List (List UInt8) × Int} (H : spec_ListDir.sh a0 a1 = some r) :
    Calls Tryd.prog 51 #[v_a0, S a1] w (Rt (RT 9 1 encS w r.1 (.int .i64 r.2))) := by
  unfold spec_ListDir.sh at H
  refine calls_of_W Tryd.func51 rfl (Nat.le_of_ble_eq_true rfl) Tryd.ntmps51 rfl ?_
  refine W_seq <| W_reg <| L_op (.plain rfl) rfl (ltb rfl) (X_assign (v := (.slice none 0 0)) rfl) <| L_op (.plain rfl) rfl (ltb rfl) (X_assign (v := (.int .i64 0)) rfl) <| L_nil <| thn_n <| W_seq <| W_seq <| W_reg <| L_op (.plain rfl) rfl (ltb rfl) (X_move (v := v_a0) rfl) <| L_op (.plain rfl) rfl (ltb rfl) (X_lenR Tryd.underlying43 rfl f_a0) <| L_op (.plain rfl) rfl (ltb rfl) (X_gtr rfl rfl) <| L_op (.plain rfl) rfl (ltb rfl) (X_move (v := (.bool (decide (4096 < (a0.length : Int))))) rfl) <| L_grp 4 [(13, 17)] 16 (.bool ((decide (4096 < (a0.length : Int))) || (decide (65536 < (a1.length : Int))))) ?_ ?_
  · rcases bool_two (decide (4096 < (a0.length : Int))) with b0_ | b0_
    · exact L_skip rfl rfl (ltb rfl) (congrArg Value.bool b0_) rfl rfl (ltb rfl) <| L_skip rfl rfl (ltb rfl) (congrArg Value.bool b0_) rfl rfl (ltb rfl) <| L_skip rfl rfl (ltb rfl) (congrArg Value.bool b0_) rfl rfl (ltb rfl) <| L_op (.plain rfl) rfl (ltb rfl) (X_pick (b := true) (v := (.bool true)) (congrArg Value.bool b0_) rfl) <| L_nil <| thn_n ⟨(Kp.upd (Kp.upd (Kp.upd (Kp.upd (Kp.refl _ _) rfl) rfl) rfl) rfl), (or_t b0_), (Ext.refl w)⟩
    · exact L_op (.guard 3 false 12 rfl rfl (ltb rfl) (congrArg Value.bool b0_)) rfl (ltb rfl) (X_move (v := (S a1)) rfl) <| L_op (.guard 3 false 12 rfl rfl (ltb rfl) (congrArg Value.bool b0_)) rfl (ltb rfl) (X_lenS Tryd.underlying9 rfl) <| L_op (.guard 3 false 12 rfl rfl (ltb rfl) (congrArg Value.bool b0_)) rfl (ltb rfl) (X_gtr rfl rfl) <| L_op (.plain rfl) rfl (ltb rfl) (X_pick (b := false) (v := (.bool (decide (65536 < (a1.length : Int))))) (congrArg Value.bool b0_) rfl) <| L_nil <| thn_n ⟨(Kp.upd (Kp.upd (Kp.upd (Kp.upd (Kp.refl _ _) rfl) rfl) rfl) rfl), (or_f b0_), (Ext.refl w)⟩
  intro s6 w2 K3 h4 e5
  refine L_nil <| thn_n ?_
  rcases bif_two H with ⟨q7, H⟩ | ⟨q7, H⟩
  · refine W_true (h4.trans (congrArg Value.bool q7)) <| W_seq <| W_reg <| L_lit (.plain rfl) rfl (ltb rfl) rfl Tryd.underlying57 Tryd.sizeOf9 Tryd.zeroValue9 rfl rfl rfl (vs := []) rfl (lit_all rfl) <| fun b8 w9 z10 z11 e12 k13 => L_op (.plain rfl) rfl (ltb rfl) (X_assign (v := (.slice (some ⟨b8, 0, none⟩) 0 0)) rfl) <| L_op (.plain rfl) rfl (ltb rfl) (X_assign (v := (.int .i64 2)) rfl) <| L_nil <| thn_n <| W_ret <| thn_r <| fin_r ?_
    obtain rfl := Option.some.inj H
    exact fin2o rfl rfl (Ext.trans e5 e12) (Ow.zero (base := w.heap.size)) (Nat.le_refl _)
  · refine W_false (h4.trans (congrArg Value.bool q7)) <| W_skip <| thn_n <| W_seq <| W_seq <| W_reg <| L_op (.plain rfl) rfl (ltb rfl) (X_move (v := v_a0) (K3 0 rfl)) <| L_op (.plain rfl) rfl (ltb rfl) (X_move (v := (S a1)) (K3 1 rfl)) ?_
    obtain ⟨c14, H⟩ := bif_some H
    refine L_callP (.plain rfl) rfl (ltb rfl) rfl Tryd.call73 (spec_l04Ask.calls (w := w2) (a0 := a0) (a1 := a1) (Rd.ext f_a0 e5) (of_decide_eq_true c14)) rfl <| fun w15 e16 => L_op (.plain rfl) rfl (ltb rfl) (X_assign (v := (.int .i64 (askT a0 a1))) rfl) <| L_nil <| thn_n <| W_seq <| W_reg <| L_op (.plain rfl) rfl (ltb rfl) (X_move (v := (.int .i64 (askT a0 a1))) rfl) <| L_op (.plain rfl) rfl (ltb rfl) (X_neq rfl rfl) <| L_nil <| thn_n ?_
    rcases bif_two H with ⟨q17, H⟩ | ⟨q17, H⟩
    · refine W_true (congrArg Value.bool q17) <| W_seq <| W_reg <| L_lit (.plain rfl) rfl (ltb rfl) rfl Tryd.underlying57 Tryd.sizeOf9 Tryd.zeroValue9 rfl rfl rfl (vs := []) rfl (lit_all rfl) <| fun b18 w19 z20 z21 e22 k23 => L_op (.plain rfl) rfl (ltb rfl) (X_move (v := (.int .i64 (askT a0 a1))) rfl) <| L_op (.plain rfl) rfl (ltb rfl) (X_assign (v := (.slice (some ⟨b18, 0, none⟩) 0 0)) rfl) <| L_op (.plain rfl) rfl (ltb rfl) (X_assign (v := (.int .i64 (askT a0 a1))) rfl) <| L_nil <| thn_n <| W_ret <| thn_r <| fin_r ?_
      obtain rfl := Option.some.inj H
      exact fin2o rfl rfl (Ext.trans (Ext.trans e5 e16) e22) (Ow.zero (base := w.heap.size)) (Nat.le_refl _)
    · refine W_false (congrArg Value.bool q17) <| W_skip <| thn_n <| W_seq <| W_seq <| W_reg <| L_op (.plain rfl) rfl (ltb rfl) (X_move (v := (S a1)) (K3 1 rfl)) <| L_op (.plain rfl) rfl (ltb rfl) (X_seq rfl rfl) <| L_nil <| thn_n ?_
      rcases bif_two H with ⟨q24, H⟩ | ⟨q24, H⟩
      · refine W_true (congrArg Value.bool q24) <| W_seq <| W_reg <| L_op (.plain rfl) rfl (ltb rfl) (X_move (v := v_a0) (K3 0 rfl)) <| L_op (.plain rfl) rfl (ltb rfl) (X_move (v := (S a1)) (K3 1 rfl)) ?_
        obtain ⟨c25, H⟩ := bif_some H
        obtain ⟨c26, H⟩ := bif_some H
        refine L_callO (.plain rfl) rfl (ltb rfl) rfl Tryd.call91 (spec_l04List.calls (w := w15) (a0 := a0) (a1 := a1) (Rd.ext f_a0 (Ext.trans e5 e16)) (of_decide_eq_true c25) (of_decide_eq_true c26)) rfl <| fun v29 w27 e28 o30 => L_op (.plain rfl) rfl (ltb rfl) (X_assign (v := v29) rfl) <| L_op (.plain rfl) rfl (ltb rfl) (X_assign (v := (.int .i64 0)) rfl) <| L_nil <| thn_n <| W_ret <| thn_r <| fin_r ?_
        obtain rfl := Option.some.inj H
        exact fin2o rfl rfl (Ext.trans (Ext.trans e5 e16) e28) o30 ((Ext.trans e5 e16)).size
      · refine W_false (congrArg Value.bool q24) <| W_skip <| thn_n <| W_seq <| W_seq <| W_reg <| L_op (.plain rfl) rfl (ltb rfl) (X_move (v := (S a1)) (K3 1 rfl)) <| L_callP (.plain rfl) rfl (ltb rfl) rfl Tryd.call58 (spec_l01OK.calls (w := w15) (a0 := a1)) rfl <| fun w31 e32 => L_op (.plain rfl) rfl (ltb rfl) (X_not rfl) <| L_nil <| thn_n ?_
        rcases bif_two H with ⟨q33, H⟩ | ⟨q33, H⟩
        · refine W_true (congrArg Value.bool q33) <| W_seq <| W_reg <| L_lit (.plain rfl) rfl (ltb rfl) rfl Tryd.underlying57 Tryd.sizeOf9 Tryd.zeroValue9 rfl rfl rfl (vs := []) rfl (lit_all rfl) <| fun b34 w35 z36 z37 e38 k39 => L_op (.plain rfl) rfl (ltb rfl) (X_assign (v := (.slice (some ⟨b34, 0, none⟩) 0 0)) rfl) <| L_op (.plain rfl) rfl (ltb rfl) (X_assign (v := (.int .i64 10)) rfl) <| L_nil <| thn_n <| W_ret <| thn_r <| fin_r ?_
          obtain rfl := Option.some.inj H
          exact fin2o rfl rfl (Ext.trans (Ext.trans (Ext.trans e5 e16) e32) e38) (Ow.zero (base := w.heap.size)) (Nat.le_refl _)
        · refine W_false (congrArg Value.bool q33) <| W_skip <| thn_n <| W_seq <| W_reg <| L_op (.plain rfl) rfl (ltb rfl) (X_move (v := v_a0) (K3 0 rfl)) <| L_op (.plain rfl) rfl (ltb rfl) (X_move (v := (S a1)) (K3 1 rfl)) ?_
          obtain ⟨c40, H⟩ := bif_some H
          obtain ⟨c41, H⟩ := bif_some H
          refine L_callP (.plain rfl) rfl (ltb rfl) rfl Tryd.call74 (spec_l04Find.calls (w := w31) (a0 := a0) (a1 := a1) (Rd.ext f_a0 (Ext.trans (Ext.trans e5 e16) e32)) (of_decide_eq_true c40) (of_decide_eq_true c41)) rfl <| fun w42 e43 => L_op (.plain rfl) rfl (ltb rfl) (X_move rfl) <| L_op (.plain rfl) rfl (ltb rfl) (X_extract (v := (.agg (encNd ((findNd a0 a1).1)).toArray)) rfl rfl) <| L_op (.plain rfl) rfl (ltb rfl) (X_extract (v := (.int .i64 ((findNd a0 a1).2))) rfl rfl) <| L_alloc (.plain rfl) rfl (ltb rfl) rfl Tryd.zeroValue40 <| fun b44 w45 z46 z47 e48 k49 => L_storeA (.plain rfl) rfl rfl Tryd.sizeOf40 rfl rfl rfl rfl rfl k49 <| fun w50 h51 k52 => L_op (.plain rfl) rfl (ltb rfl) (X_assign (v := (.int .i64 ((findNd a0 a1).2))) rfl) <| L_nil <| thn_n <| W_seq <| W_seq <| W_reg <| L_op (.plain rfl) rfl (ltb rfl) (X_move (v := (.int .i64 ((findNd a0 a1).2))) rfl) <| L_op (.plain rfl) rfl (ltb rfl) (X_neq rfl rfl) <| L_nil <| thn_n ?_
          rcases bif_two H with ⟨q53, H⟩ | ⟨q53, H⟩
          · refine W_true (congrArg Value.bool q53) <| W_seq <| W_reg <| L_lit (.plain rfl) rfl (ltb rfl) rfl Tryd.underlying57 Tryd.sizeOf9 Tryd.zeroValue9 rfl rfl rfl (vs := []) rfl (lit_all rfl) <| fun b54 w55 z56 z57 e58 k59 => L_op (.plain rfl) rfl (ltb rfl) (X_move (v := (.int .i64 ((findNd a0 a1).2))) rfl) <| L_op (.plain rfl) rfl (ltb rfl) (X_assign (v := (.slice (some ⟨b54, 0, none⟩) 0 0)) rfl) <| L_op (.plain rfl) rfl (ltb rfl) (X_assign (v := (.int .i64 ((findNd a0 a1).2))) rfl) <| L_nil <| thn_n <| W_ret <| thn_r <| fin_r ?_
            obtain rfl := Option.some.inj H
            exact fin2o rfl rfl (Ext.trans (Ext.trans (Ext.trans (Ext.trans (Ext.trans e5 e16) e32) e43) (Below.trans e48 (Wr.below h51 (Nat.le_of_eq z46)))) e58) (Ow.zero (base := w.heap.size)) (Nat.le_refl _)
          · refine W_false (congrArg Value.bool q53) <| W_skip <| thn_n <| W_seq <| W_seq <| W_reg <| L_op (.plain rfl) rfl (ltb rfl) (X_fieldAddr Tryd.underlying40 rfl Tryd.sizeOf3 rfl rfl) <| L_op (.plain rfl) rfl (ltb rfl) (X_loadB Tryd.isAgg3 k52 rfl rfl) <| L_op (.plain rfl) rfl (ltb rfl) (X_neq rfl rfl) <| L_nil <| thn_n ?_
            rcases bif_two H with ⟨q60, H⟩ | ⟨q60, H⟩
            · refine W_true (congrArg Value.bool q60) <| W_seq <| W_reg <| L_lit (.plain rfl) rfl (ltb rfl) rfl Tryd.underlying57 Tryd.sizeOf9 Tryd.zeroValue9 rfl rfl rfl (vs := []) rfl (lit_all rfl) <| fun b61 w62 z63 z64 e65 k66 => L_op (.plain rfl) rfl (ltb rfl) (X_assign (v := (.slice (some ⟨b61, 0, none⟩) 0 0)) rfl) <| L_op (.plain rfl) rfl (ltb rfl) (X_assign (v := (.int .i64 13)) rfl) <| L_nil <| thn_n <| W_ret <| thn_r <| fin_r ?_
              obtain rfl := Option.some.inj H
              exact fin2o rfl rfl (Ext.trans (Ext.trans (Ext.trans (Ext.trans (Ext.trans e5 e16) e32) e43) (Below.trans e48 (Wr.below h51 (Nat.le_of_eq z46)))) e65) (Ow.zero (base := w.heap.size)) (Nat.le_refl _)
            · refine W_false (congrArg Value.bool q60) <| W_skip <| thn_n <| W_seq <| W_reg <| L_op (.plain rfl) rfl (ltb rfl) (X_move (v := v_a0) (K3 0 rfl)) <| L_op (.plain rfl) rfl (ltb rfl) (X_move (v := (S a1)) (K3 1 rfl)) ?_
              obtain ⟨c67, H⟩ := bif_some H
              obtain ⟨c68, H⟩ := bif_some H
              refine L_callO (.plain rfl) rfl (ltb rfl) rfl Tryd.call91 (spec_l04List.calls (w := w50) (a0 := a0) (a1 := a1) (Rd.ext f_a0 (Ext.trans (Ext.trans (Ext.trans (Ext.trans e5 e16) e32) e43) (Below.trans e48 (Wr.below h51 (Nat.le_of_eq z46))))) (of_decide_eq_true c67) (of_decide_eq_true c68)) rfl <| fun v71 w69 e70 o72 => L_op (.plain rfl) rfl (ltb rfl) (X_assign (v := v71) rfl) <| L_op (.plain rfl) rfl (ltb rfl) (X_assign (v := (.int .i64 0)) rfl) <| L_nil <| thn_n <| W_ret <| fin_r ?_
              obtain rfl := Option.some.inj H
              exact fin2o rfl rfl (Ext.trans (Ext.trans (Ext.trans (Ext.trans (Ext.trans e5 e16) e32) e43) (Below.trans e48 (Wr.below h51 (Nat.le_of_eq z46)))) e70) o72 ((Ext.trans (Ext.trans (Ext.trans (Ext.trans e5 e16) e32) e43) (Below.trans e48 (Wr.below h51 (Nat.le_of_eq z46))))).size
theorem spec_ListDir.calls {w : World} {a0 : List Nd} {a1 : List UInt8} {v_a0 : Value} (f_a0 : Rd 4 encNd w v_a0 a0) (h0 : a0.length ≤ 1048576) (h1 : ∀ x ∈ a0, x.path.length ≤ 1048576) :
    Calls Tryd.prog 51 #[v_a0, S a1] w (Rt (RT 9 1 encS w ((listDir a0 a1).1) (.int .i64 ((listDir a0 a1).2)))) := spec_ListDir.walk f_a0 (spec_ListDir.eq a0 a1 h0 h1)
/-! impl.last -/
theorem impl_last.walk {w : World} {a0 : List UInt8} {r : List UInt8} (H : impl_last.sh a0 = some r) :
    Calls Tryd.prog 94 #[S a0] w (Rt (RP w (S r))) := by
  unfold impl_last.sh at H
  refine calls_of_W Tryd.func94 rfl (Nat.le_of_ble_eq_true rfl) Tryd.ntmps94 rfl ?_
  refine W_seq <| W_reg <| L_op (.plain rfl) rfl (ltb rfl) (X_assign (v := (S ([] : List UInt8))) rfl) <| L_nil <| thn_n <| W_seq <| W_reg <| L_op (.plain rfl) rfl (ltb rfl) (X_move (v := (S a0)) rfl) <| L_op (.plain rfl) rfl (ltb rfl) (X_move (v := (S a0)) rfl) ?_
  obtain ⟨c1, H⟩ := bif_some H
  obtain ⟨c2, H⟩ := bif_some H
  refine L_callP (.plain rfl) rfl (ltb rfl) rfl Tryd.call128 (strings_LastIndex.calls (w := w) (a0 := a0) (a1 := ([47] : List UInt8)) (of_decide_eq_true c1) (of_decide_eq_true c2)) rfl <| fun w3 e4 => L_op (.plain rfl) rfl (ltb rfl) (X_add rfl rfl) ?_
  obtain ⟨c5, H⟩ := bif_some H
  refine L_op (.plain rfl) rfl (ltb rfl) (X_sliceS Tryd.underlying9 rfl (l := IntKind.wrap .i64 ((lastSlash a0) + 1)) (h := (a0.length : Int)) ⟨_, rfl⟩ rfl (inS_1 c5) (inS_2 c5) (inS_3 c5)) <| L_op (.plain rfl) rfl (ltb rfl) (X_assign rfl) <| L_nil <| thn_n <| W_ret <| fin_r ?_
  obtain rfl := Option.some.inj H
  exact fin1 rfl e4
theorem impl_last.calls {w : World} {a0 : List UInt8} (h0 : a0.length ≤ 1048576) :
    Calls Tryd.prog 94 #[S a0] w (Rt (RP w (S (lastP a0)))) := impl_last.walk (impl_last.eq a0 h0)
/-! impl.ListDir -/
theorem impl_ListDir.walk {k : Nat} {w : World} {a0 : List Nd} {a1 : List UInt8} (gv : GV 0 w) {v_a0 : Value} (f_a0 : Rd 4 encNd w v_a0 a0) {r : List (List UInt8) × Int} (H : impl_ListDir.sh k a0 a1 = some r) :
    Calls Tryd.prog 52 #[v_a0, S a1] w (Rt (RT 9 1 encS w r.1 (.int .i64 r.2))) := by
  unfold impl_ListDir.sh at H
  refine calls_of_W Tryd.func52 rfl (Nat.le_of_ble_eq_true rfl) Tryd.ntmps52 rfl ?_
  refine W_seq <| W_reg <| L_op (.plain rfl) rfl (ltb rfl) (X_assign (v := (.slice none 0 0)) rfl) <| L_op (.plain rfl) rfl (ltb rfl) (X_assign (v := (.int .i64 0)) rfl) <| L_nil <| thn_n <| W_seq <| W_seq <| W_reg <| L_op (.plain rfl) rfl (ltb rfl) (X_move (v := (S a1)) rfl) <| L_lit (.plain rfl) rfl (ltb rfl) rfl Tryd.underlying57 Tryd.sizeOf9 Tryd.zeroValue9 rfl rfl rfl (vs := [(S a1)]) rfl (lit_all rfl) <| fun b1 w2 z3 z4 e5 k6 => ?_
  obtain ⟨c7, H⟩ := bif_some H
  refine L_callP (.plain rfl) rfl (ltb rfl) rfl Tryd.call62 (impl_isLong.calls (w := w2) (a0 := ([a1] : List (List UInt8))) (Ow.rd (Ow.new (xs := [a1]) (sz := 1) (enc := encS) (base := w.heap.size) k6 (Nat.le_of_eq z3) rfl (fun _ _ => by rfl) (Nat.le_of_ble_eq_true rfl))) (of_decide_eq_true c7)) rfl <| fun w8 e9 => L_op (.plain rfl) rfl (ltb rfl) (X_move rfl) <| L_grp 3 [(16, 19)] 18 (.bool ((([a1] : List (List UInt8)).any fun t => decide (65536 < t.length)) || (decide (4096 < a0.length)))) ?_ ?_
  · rcases bool_two (([a1] : List (List UInt8)).any fun t => decide (65536 < t.length)) with b9_ | b9_
    · exact L_skip rfl rfl (ltb rfl) (congrArg Value.bool b9_) rfl rfl (ltb rfl) <| L_skip rfl rfl (ltb rfl) (congrArg Value.bool b9_) rfl rfl (ltb rfl) <| L_op (.plain rfl) rfl (ltb rfl) (X_pick (b := true) (v := (.bool true)) (congrArg Value.bool b9_) rfl) <| L_nil <| thn_n ⟨(Kp.upd (Kp.upd (Kp.upd (Kp.refl _ _) rfl) rfl) rfl), (or_t b9_), (Ext.refl w8)⟩
    · exact L_op (.guard 3 false 15 rfl rfl (ltb rfl) (congrArg Value.bool b9_)) rfl (ltb rfl) (X_move (v := v_a0) rfl) <| L_callP (.guard 3 false 15 rfl rfl (ltb rfl) (congrArg Value.bool b9_)) rfl (ltb rfl) rfl Tryd.call76 (impl_isLongListN.calls (w := w8) (a0 := a0) (Rd.ext f_a0 (Ext.trans e5 e9))) rfl <| fun w11 e12 => L_op (.plain rfl) rfl (ltb rfl) (X_pick (b := false) (v := (.bool (decide (4096 < a0.length)))) (congrArg Value.bool b9_) rfl) <| L_nil <| thn_n ⟨(Kp.upd (Kp.upd (Kp.upd (Kp.refl _ _) rfl) rfl) rfl), (or_f b9_), e12⟩
  intro s15 w11 K12 h13 e14
  refine L_op (.plain rfl) rfl (ltb rfl) (X_mkiface Tryd.underlying4 rfl h13) <| L_op (.plain rfl) rfl (ltb rfl) (X_mkiface Tryd.underlying3 rfl rfl) <| L_op (.plain rfl) rfl (ltb rfl) (X_move (v := v_a0) (K12 0 rfl)) ?_
  obtain ⟨c16, H⟩ := bif_some H
  obtain ⟨c17, H⟩ := bif_some H
  refine L_callP (.plain rfl) rfl (ltb rfl) rfl Tryd.call77 (impl_TreeOK.calls (w := w11) (a0 := a0) (GV.ext gv (Ext.trans (Ext.trans e5 e9) e14)) (Rd.ext f_a0 (Ext.trans (Ext.trans e5 e9) e14)) (of_decide_eq_true c16) (of_decide_eq_true c17)) rfl <| fun w18 e19 => L_op (.plain rfl) rfl (ltb rfl) (X_not rfl) <| L_op (.plain rfl) rfl (ltb rfl) (X_mkiface Tryd.underlying4 rfl rfl) <| L_op (.plain rfl) rfl (ltb rfl) (X_mkiface Tryd.underlying3 rfl rfl) <| L_op (.plain rfl) rfl (ltb rfl) (X_move (v := (S a1)) (K12 1 rfl)) <| L_callP (.plain rfl) rfl (ltb rfl) rfl Tryd.call92 (impl_isPlace.calls (w := w18) (a0 := a1) (GV.ext gv (Ext.trans (Ext.trans (Ext.trans e5 e9) e14) e19))) rfl <| fun w20 e21 => L_op (.plain rfl) rfl (ltb rfl) (X_not rfl) <| L_op (.plain rfl) rfl (ltb rfl) (X_mkiface Tryd.underlying4 rfl rfl) <| L_op (.plain rfl) rfl (ltb rfl) (X_mkiface Tryd.underlying3 rfl rfl) <| L_lit (.plain rfl) rfl (ltb rfl) rfl Tryd.underlying99 Tryd.sizeOf20 Tryd.zeroValue20 rfl rfl rfl (vs := [(.iface 4 (.bool ((([a1] : List (List UInt8)).any fun t => decide (65536 < t.length)) || (decide (4096 < a0.length))))), (.iface 3 (.int .i64 2)), (.iface 4 (.bool (!(treeOK a0)))), (.iface 3 (.int .i64 1)), (.iface 4 (.bool (!(decide (a1 = []) || pathOK a1)))), (.iface 3 (.int .i64 10))]) rfl (lit_all rfl) <| fun b22 w23 z24 z25 e26 k27 => ?_
  obtain ⟨c28, H⟩ := bif_some H
  obtain ⟨z31, x32, H⟩ := bind_some H
  replace x32 := Option.some.inj x32
  refine L_callP (.plain rfl) rfl (ltb rfl) rfl Tryd.call61 (impl_first.calls (w := w23) (a0 := ([.inl ((([a1] : List (List UInt8)).any fun t => decide (65536 < t.length)) || (decide (4096 < a0.length))), .inr 2, .inl (!(treeOK a0)), .inr 1, .inl (!(decide (a1 = []) || pathOK a1)), .inr 10] : List (Bool ⊕ Int))) (Ow.rd (Ow.new (xs := [.inl ((([a1] : List (List UInt8)).any fun t => decide (65536 < t.length)) || (decide (4096 < a0.length))), .inr 2, .inl (!(treeOK a0)), .inr 1, .inl (!(decide (a1 = []) || pathOK a1)), .inr 10]) (sz := 1) (enc := (encAny 4 3)) (base := w20.heap.size) k27 (Nat.le_of_eq z24) rfl (fun _ _ => by first | rfl | exact encAny_len _ _ _) (Nat.le_of_ble_eq_true rfl))) (of_decide_eq_true c28)) rfl <| fun w29 e30 => L_op (.plain rfl) rfl (ltb rfl) (X_assign (v := (.int .i64 z31)) (congrArg (Value.int .i64) x32)) <| L_nil <| thn_n <| W_seq <| W_reg <| L_op (.plain rfl) rfl (ltb rfl) (X_move (v := (.int .i64 z31)) rfl) <| L_op (.plain rfl) rfl (ltb rfl) (X_neq rfl rfl) <| L_nil <| thn_n ?_
  rcases bif_two H with ⟨q33, H⟩ | ⟨q33, H⟩
  · refine W_true (congrArg Value.bool q33) <| W_seq <| W_reg <| L_op (.plain rfl) rfl (ltb rfl) (X_move (v := (.int .i64 z31)) rfl) <| L_op (.plain rfl) rfl (ltb rfl) (X_assign (v := (.slice none 0 0)) rfl) <| L_op (.plain rfl) rfl (ltb rfl) (X_assign (v := (.int .i64 z31)) rfl) <| L_nil <| thn_n <| W_ret <| thn_r <| fin_r ?_
    obtain rfl := Option.some.inj H
    exact fin2o rfl rfl (Ext.trans (Ext.trans (Ext.trans (Ext.trans (Ext.trans (Ext.trans e5 e9) e14) e19) e21) e26) e30) (Ow.zero (base := w.heap.size)) (Nat.le_refl _)
  · refine W_false (congrArg Value.bool q33) <| W_skip <| thn_n <| W_seq <| W_seq <| W_reg <| L_op (.plain rfl) rfl (ltb rfl) (X_move (v := (S a1)) (K12 1 rfl)) <| L_op (.plain rfl) rfl (ltb rfl) (X_sne rfl rfl) <| L_nil <| thn_n ?_
    obtain ⟨z34, L35, C36⟩ := bind_some H
    clear H
    refine W_cutQ (fun s0 sQ wQ => Kp [(4, 6), (7, 9), (38, 57)] s0 sQ ∧ Ext w29 wQ ∧ z34 = .inr ()) ?_ ?_
    · have H := L35
      rcases bif_two H with ⟨q37, H⟩ | ⟨q37, H⟩
      · refine W_true (congrArg Value.bool q37) <| W_seq <| W_reg <| L_op (.plain rfl) rfl (ltb rfl) (X_move (v := v_a0) (K12 0 rfl)) <| L_op (.plain rfl) rfl (ltb rfl) (X_move (v := (S a1)) (K12 1 rfl)) ?_
        obtain ⟨c38, H⟩ := bif_some H
        obtain ⟨c39, H⟩ := bif_some H
        refine L_callP (.plain rfl) rfl (ltb rfl) rfl Tryd.call78 (impl_resolve.calls (w := w29) (a0 := a0) (a1 := a1) (Rd.ext f_a0 (Ext.trans (Ext.trans (Ext.trans (Ext.trans (Ext.trans (Ext.trans e5 e9) e14) e19) e21) e26) e30)) (of_decide_eq_true c38) (of_decide_eq_true c39)) rfl <| fun w40 e41 => L_op (.plain rfl) rfl (ltb rfl) (X_move rfl) <| L_op (.plain rfl) rfl (ltb rfl) (X_extract (v := (.int .i64 ((resolveT a0 a1).1))) rfl rfl) <| L_op (.plain rfl) rfl (ltb rfl) (X_extract (v := (.int .i64 ((resolveT a0 a1).2))) rfl rfl) <| L_op (.plain rfl) rfl (ltb rfl) (X_assign (v := (.int .i64 ((resolveT a0 a1).1))) rfl) <| L_op (.plain rfl) rfl (ltb rfl) (X_assign (v := (.int .i64 ((resolveT a0 a1).2))) rfl) <| L_nil <| thn_n <| W_seq <| W_seq <| W_reg <| L_op (.plain rfl) rfl (ltb rfl) (X_move (v := (.int .i64 ((resolveT a0 a1).2))) rfl) <| L_op (.plain rfl) rfl (ltb rfl) (X_eql rfl rfl) <| L_op (.plain rfl) rfl (ltb rfl) (X_move (v := (.bool (decide (((resolveT a0 a1).2) = 0)))) rfl) ?_
        obtain ⟨z43, x44, H⟩ := bind_some H
        refine L_grpE 7 [(47, 54)] 53 (fun q => q = z43) ?_ ?_
        · rcases bif_two x44 with ⟨b41_, H⟩ | ⟨b41_, H⟩
          · refine L_op (.guard 2 true 46 rfl rfl (ltb rfl) (congrArg Value.bool b41_)) rfl (ltb rfl) (X_move (v := v_a0) (K12 0 rfl)) <| L_op (.guard 2 true 46 rfl rfl (ltb rfl) (congrArg Value.bool b41_)) rfl (ltb rfl) (X_move (v := (.int .i64 ((resolveT a0 a1).1))) rfl) ?_
            obtain ⟨c43, H⟩ := bif_some H
            refine L_idx (.guard 2 true 46 rfl rfl (ltb rfl) (congrArg Value.bool b41_)) rfl (ltb rfl) rfl Tryd.underlying43 Tryd.sizeOf40 rfl (Rd.ext f_a0 (Ext.trans (Ext.trans (Ext.trans (Ext.trans (Ext.trans (Ext.trans (Ext.trans e5 e9) e14) e19) e21) e26) e30) e41)) rfl c43 <| fun p44 h45 => L_op (.guard 2 true 46 rfl rfl (ltb rfl) (congrArg Value.bool b41_)) rfl (ltb rfl) (X_fieldAddr Tryd.underlying40 rfl Tryd.sizeOf3 rfl rfl) <| L_op (.guard 2 true 46 rfl rfl (ltb rfl) (congrArg Value.bool b41_)) rfl (ltb rfl) (X_loadF Tryd.isAgg3 (j := 0) h45 rfl rfl) <| L_op (.guard 2 true 46 rfl rfl (ltb rfl) (congrArg Value.bool b41_)) rfl (ltb rfl) (X_neq rfl rfl) <| L_op (.plain rfl) rfl (ltb rfl) (X_pick (b := true) (v := (.bool (!decide (((gt a0 ((resolveT a0 a1).1)).kind) = 3)))) (congrArg Value.bool b41_) rfl) ?_
            obtain rfl := Option.some.inj H
            exact L_nil <| thn_n ⟨(Kp.upd (Kp.upd (Kp.upd (Kp.upd (Kp.upd (Kp.upd (Kp.upd (Kp.refl _ _) rfl) rfl) rfl) rfl) rfl) rfl) rfl), ⟨_, rfl, rfl⟩, (Ext.refl w40)⟩
          · refine L_skip rfl rfl (ltb rfl) (congrArg Value.bool b41_) rfl rfl (ltb rfl) <| L_skip rfl rfl (ltb rfl) (congrArg Value.bool b41_) rfl rfl (ltb rfl) <| L_skip rfl rfl (ltb rfl) (congrArg Value.bool b41_) rfl rfl (ltb rfl) <| L_skip rfl rfl (ltb rfl) (congrArg Value.bool b41_) rfl rfl (ltb rfl) <| L_skip rfl rfl (ltb rfl) (congrArg Value.bool b41_) rfl rfl (ltb rfl) <| L_skip rfl rfl (ltb rfl) (congrArg Value.bool b41_) rfl rfl (ltb rfl) <| L_op (.plain rfl) rfl (ltb rfl) (X_pick (b := false) (v := (.bool false)) (congrArg Value.bool b41_) rfl) ?_
            obtain rfl := Option.some.inj H
            exact L_nil <| thn_n ⟨(Kp.upd (Kp.upd (Kp.upd (Kp.upd (Kp.upd (Kp.upd (Kp.upd (Kp.refl _ _) rfl) rfl) rfl) rfl) rfl) rfl) rfl), ⟨_, rfl, rfl⟩, (Ext.refl w40)⟩
        intro s49 w45 z50 K46 hq h47 e48
        rw [hq] at h47; clear hq
        refine L_nil <| thn_n ?_
        rcases bif_two H with ⟨q51, H⟩ | ⟨q51, H⟩
        · refine W_true (h47.trans (congrArg Value.bool q51)) <| W_reg <| L_op (.plain rfl) rfl (ltb rfl) (X_assign (v := (.int .i64 13)) rfl) <| L_nil <| thn_n <| W_seq <| W_reg <| L_op (.plain rfl) rfl (ltb rfl) (X_move (v := (.int .i64 13)) rfl) <| L_op (.plain rfl) rfl (ltb rfl) (X_neq rfl rfl) <| L_nil <| thn_n ?_
          rcases bif_two H with ⟨q52, H⟩ | ⟨q52, H⟩
          · refine W_true (congrArg Value.bool q52) <| W_seq <| W_reg <| L_op (.plain rfl) rfl (ltb rfl) (X_move (v := (.int .i64 13)) rfl) <| L_op (.plain rfl) rfl (ltb rfl) (X_assign (v := (.slice none 0 0)) rfl) <| L_op (.plain rfl) rfl (ltb rfl) (X_assign (v := (.int .i64 13)) rfl) <| L_nil <| thn_n <| W_ret <| thn_r <| thn_r <| fin_r ?_
            obtain rfl := Option.some.inj H
            have H := C36
            obtain rfl := Option.some.inj H
            exact fin2o rfl rfl (Ext.trans (Ext.trans (Ext.trans (Ext.trans (Ext.trans (Ext.trans (Ext.trans (Ext.trans e5 e9) e14) e19) e21) e26) e30) e41) e48) (Ow.zero (base := w.heap.size)) (Nat.le_refl _)
          · refine W_false (congrArg Value.bool q52) <| W_skip <| thn_n ?_
            obtain rfl := Option.some.inj H
            exact ⟨(Kp.upd (Kp.upd (Kp.upd (Kp.cut (Kp.upd (Kp.upd (Kp.upd (Kp.upd (Kp.upd (Kp.upd (Kp.upd (Kp.upd (Kp.upd (Kp.upd (Kp.upd (Kp.refl _ _) rfl) rfl) rfl) rfl) rfl) rfl) rfl) rfl) rfl) rfl) rfl) K46 rfl) rfl) rfl) rfl), (Ext.trans e41 e48), rfl⟩
        · refine W_false (h47.trans (congrArg Value.bool q51)) <| W_skip <| thn_n <| W_seq <| W_reg <| L_op (.plain rfl) rfl (ltb rfl) (X_move (v := (.int .i64 ((resolveT a0 a1).2))) (K46 8 rfl)) <| L_op (.plain rfl) rfl (ltb rfl) (X_neq rfl rfl) <| L_nil <| thn_n ?_
          rcases bif_two H with ⟨q53, H⟩ | ⟨q53, H⟩
          · refine W_true (congrArg Value.bool q53) <| W_seq <| W_reg <| L_op (.plain rfl) rfl (ltb rfl) (X_move (v := (.int .i64 ((resolveT a0 a1).2))) (K46 8 rfl)) <| L_op (.plain rfl) rfl (ltb rfl) (X_assign (v := (.slice none 0 0)) rfl) <| L_op (.plain rfl) rfl (ltb rfl) (X_assign (v := (.int .i64 ((resolveT a0 a1).2))) rfl) <| L_nil <| thn_n <| W_ret <| thn_r <| thn_r <| fin_r ?_
            obtain rfl := Option.some.inj H
            have H := C36
            obtain rfl := Option.some.inj H
            exact fin2o rfl rfl (Ext.trans (Ext.trans (Ext.trans (Ext.trans (Ext.trans (Ext.trans (Ext.trans (Ext.trans e5 e9) e14) e19) e21) e26) e30) e41) e48) (Ow.zero (base := w.heap.size)) (Nat.le_refl _)
          · refine W_false (congrArg Value.bool q53) <| W_skip <| thn_n ?_
            obtain rfl := Option.some.inj H
            exact ⟨(Kp.upd (Kp.upd (Kp.cut (Kp.upd (Kp.upd (Kp.upd (Kp.upd (Kp.upd (Kp.upd (Kp.upd (Kp.upd (Kp.upd (Kp.upd (Kp.upd (Kp.refl _ _) rfl) rfl) rfl) rfl) rfl) rfl) rfl) rfl) rfl) rfl) rfl) K46 rfl) rfl) rfl), (Ext.trans e41 e48), rfl⟩
      · refine W_false (congrArg Value.bool q37) <| W_skip <| thn_n ?_
        obtain rfl := Option.some.inj H
        exact ⟨(Kp.refl _ _), (Ext.refl w29), rfl⟩
    · rintro s55 w54 ⟨K56, e57, y58⟩
      rw [y58] at C36
      have H := C36
      refine thn_n <| W_seq <| W_reg <| L_lit (.plain rfl) rfl (ltb rfl) rfl Tryd.underlying57 Tryd.sizeOf9 Tryd.zeroValue9 rfl rfl rfl (vs := []) rfl (lit_all rfl) <| fun b59 w60 z61 z62 e63 k64 => L_op (.plain rfl) rfl (ltb rfl) (X_assign (v := (.slice (some ⟨b59, 0, none⟩) 0 0)) rfl) <| L_nil <| thn_n <| W_seq <| W_seq <| W_reg <| L_op (.plain rfl) rfl (ltb rfl) (X_move (v := v_a0) ((K56 0 rfl).trans (K12 0 rfl))) <| L_op (.plain rfl) rfl (ltb rfl) (X_lenR Tryd.underlying43 rfl (Rd.ext f_a0 (Ext.trans (Ext.trans (Ext.trans (Ext.trans (Ext.trans (Ext.trans (Ext.trans (Ext.trans e5 e9) e14) e19) e21) e26) e30) e57) e63))) <| L_op (.plain rfl) rfl (ltb rfl) (X_move (v := (.int .i64 0)) rfl) <| L_nil <| thn_n ?_
      obtain ⟨z68, L69, C70⟩ := bind_some H
      clear H
      refine  W_cutQ (fun s0 sQ wQ => ∃ (x9_71 : List (List UInt8)) (v72 : Value), Kp [(9, 10), (11, 12), (60, 76)] s0 sQ ∧ sQ 9 = v72 ∧ Ow 9 1 encS w60.heap.size wQ v72 x9_71 ∧ Ext w60 wQ ∧ z68 = .inr x9_71) ?_ ?_
      · refine W_block <| W_loopI (fun s0 kk sQ wQ => ∃ (x9_65 : List (List UInt8)) (v66 : Value) (x60_67 : Int), Kp [(9, 10), (11, 12), (60, 76)] s0 sQ ∧ sQ 9 = v66 ∧ Ow 9 1 encS w60.heap.size wQ v66 x9_65 ∧ sQ 60 = .int .i64 x60_67 ∧ Ext w60 wQ ∧ loopF (impl_ListDir.b1 a0 a1) kk (x9_65, x60_67) = some z68) k ⟨([] : List (List UInt8)), (.slice (some ⟨b59, 0, none⟩) 0 0), 0, (Kp.refl _ _), rfl, (Ow.zero), rfl, (Ext.refl w60), L69⟩ ?_
        rintro k77 s78 w79 ⟨x9_65, v66, x60_67, K80, h83, h84, h85, e81, L82⟩
        cases k77 with
        | zero => exact absurd L82 (by simp [loopF])
        | succ k77 =>
          obtain ⟨t86, H, S87⟩ := loopF_succ L82
          clear L82
          unfold impl_ListDir.b1 at H
          refine W_seq <| W_reg <| L_op (.plain rfl) rfl (ltb rfl) (X_lss h85 (K80 59 rfl)) <| L_nil <| thn_n <| W_seq ?_
          rcases bif_two H with ⟨q88, H⟩ | ⟨q88, H⟩
          · refine W_true (congrArg Value.bool q88) <| W_skip <| thn_n <| W_seq <| W_block <| W_seq <| W_reg ?_
            obtain ⟨c89, H⟩ := bif_some H
            refine L_idx (.plain rfl) rfl (ltb rfl) rfl Tryd.underlying43 Tryd.sizeOf40 (K80 58 rfl) (Rd.ext f_a0 (Ext.trans (Ext.trans (Ext.trans (Ext.trans (Ext.trans (Ext.trans (Ext.trans (Ext.trans (Ext.trans e5 e9) e14) e19) e21) e26) e30) e57) e63) e81)) h85 c89 <| fun p90 h91 => L_op (.plain rfl) rfl (ltb rfl) (X_loadS Tryd.isAgg40 Tryd.sizeOf40 rfl rfl h91) <| L_alloc (.plain rfl) rfl (ltb rfl) rfl Tryd.zeroValue40 <| fun b92 w93 z94 z95 e96 k97 => L_storeA (.plain rfl) rfl rfl Tryd.sizeOf40 rfl rfl rfl rfl rfl k97 <| fun w98 h99 k100 => L_nil <| thn_n <| W_seq <| W_reg <| L_op (.plain rfl) rfl (ltb rfl) (X_fieldAddr Tryd.underlying40 rfl Tryd.sizeOf9 rfl rfl) <| L_op (.plain rfl) rfl (ltb rfl) (X_loadB Tryd.isAgg9 k100 rfl rfl) ?_
            obtain ⟨c101, H⟩ := bif_some H
            refine L_callP (.plain rfl) rfl (ltb rfl) rfl Tryd.call93 (impl_parent.calls (w := w98) (a0 := (gt a0 x60_67).path) (of_decide_eq_true c101)) rfl <| fun w102 e103 => L_op (.plain rfl) rfl (ltb rfl) (X_move (v := (S a1)) ((K80 1 rfl).trans ((K56 1 rfl).trans (K12 1 rfl)))) <| L_op (.plain rfl) rfl (ltb rfl) (X_seq rfl rfl) <| L_nil <| thn_n ?_
            rcases bif_two H with ⟨q104, H⟩ | ⟨q104, H⟩
            · refine W_true (congrArg Value.bool q104) <| W_reg <| L_op (.plain rfl) rfl (ltb rfl) (X_move (v := v66) h83) <| L_op (.plain rfl) rfl (ltb rfl) (X_fieldAddr Tryd.underlying40 rfl Tryd.sizeOf9 rfl rfl) <| L_op (.plain rfl) rfl (ltb rfl) (X_loadB Tryd.isAgg9 (Blk.ext k100 e103) rfl rfl) ?_
              obtain ⟨c105, H⟩ := bif_some H
              refine L_callP (.plain rfl) rfl (ltb rfl) rfl Tryd.call94 (impl_last.calls (w := w102) (a0 := (gt a0 x60_67).path) (of_decide_eq_true c105)) rfl <| fun w106 e107 => L_lit (.plain rfl) rfl (ltb rfl) rfl Tryd.underlying57 Tryd.sizeOf9 Tryd.zeroValue9 rfl rfl rfl (vs := [(S (lastP ((gt a0 x60_67).path)))]) rfl (lit_all rfl) <| fun b108 w109 z110 z111 e112 k113 => ?_
              obtain ⟨c114, H⟩ := bif_some H
              refine L_append (enc := encS) (.plain rfl) rfl (ltb rfl) rfl El.t57 rfl rfl (Ow.ext h84 (Ext.trans (Ext.trans (Ext.trans (Below.trans e96 (Wr.below h99 (Nat.le_of_eq z94))) e103) e107) e112)) (Ow.rd (Ow.new (xs := [(lastP ((gt a0 x60_67).path))]) (sz := 1) (enc := encS) (base := w106.heap.size) k113 (Nat.le_of_eq z110) rfl (fun _ _ => by rfl) (Nat.le_of_ble_eq_true rfl))) (ones_S _) (of_decide_eq_true c114) ((Ext.trans (Ext.trans (Ext.trans (Ext.trans e81 (Below.trans e96 (Wr.below h99 (Nat.le_of_eq z94)))) e103) e107) e112)).size <| fun v115 w116 o117 z118 g119 => L_op (.plain rfl) rfl (ltb rfl) (X_assign (v := v115) rfl) <| L_nil <| blk_n <| thn_n <| W_reg <| L_op (.plain rfl) rfl (ltb rfl) (X_add h85 rfl) <| L_op (.plain rfl) rfl (ltb rfl) (X_move (v := (.int .i64 (IntKind.wrap .i64 (x60_67 + 1)))) rfl) <| L_nil <| thn_n ?_
              obtain rfl := Option.some.inj H
              exact ⟨_, Nat.lt_succ_self _, x9_65 ++ ([(lastP ((gt a0 x60_67).path))] : List (List UInt8)), v115, IntKind.wrap .i64 (x60_67 + 1), (Kp.upd (Kp.upd (Kp.upd (Kp.upd (Kp.upd (Kp.upd (Kp.upd (Kp.upd (Kp.upd (Kp.upd (Kp.upd (Kp.upd (Kp.upd (Kp.upd (Kp.upd (Kp.upd (Kp.upd (Kp.upd K80 rfl) rfl) rfl) rfl) rfl) rfl) rfl) rfl) rfl) rfl) rfl) rfl) rfl) rfl) rfl) rfl) rfl) rfl), rfl, o117, rfl, (g119 _ (Ext.trans (Ext.trans (Ext.trans (Ext.trans e81 (Below.trans e96 (Wr.below h99 (Nat.le_of_eq z94)))) e103) e107) e112)), S87⟩
            · refine W_false (congrArg Value.bool q104) <| W_skip <| blk_n <| thn_n <| W_reg <| L_op (.plain rfl) rfl (ltb rfl) (X_add h85 rfl) <| L_op (.plain rfl) rfl (ltb rfl) (X_move (v := (.int .i64 (IntKind.wrap .i64 (x60_67 + 1)))) rfl) <| L_nil <| thn_n ?_
              obtain rfl := Option.some.inj H
              exact ⟨_, Nat.lt_succ_self _, x9_65, v66, IntKind.wrap .i64 (x60_67 + 1), (Kp.upd (Kp.upd (Kp.upd (Kp.upd (Kp.upd (Kp.upd (Kp.upd (Kp.upd (Kp.upd (Kp.upd (Kp.upd K80 rfl) rfl) rfl) rfl) rfl) rfl) rfl) rfl) rfl) rfl) rfl), h83, (Ow.ext h84 (Ext.trans (Below.trans e96 (Wr.below h99 (Nat.le_of_eq z94))) e103)), rfl, (Ext.trans (Ext.trans e81 (Below.trans e96 (Wr.below h99 (Nat.le_of_eq z94)))) e103), S87⟩
          · refine W_false (congrArg Value.bool q88) <| W_exit <| thn_x <| thn_x <| blk_x <| thn_n ?_
            obtain rfl := Option.some.inj H
            obtain rfl := Option.some.inj S87
            exact ⟨x9_65, v66, (Kp.upd K80 rfl), h83, h84, e81, rfl⟩
      · rintro s74 w73 ⟨x9_71, v72, K75, h120, h121, e76, y122⟩
        rw [y122] at C70
        have H := C70
        replace H : _ = some _ := H
        refine thn_n <| W_seq <| W_reg <| L_op (.plain rfl) rfl (ltb rfl) (X_move (v := v72) h120) <| L_op (.plain rfl) rfl (ltb rfl) (X_assign (v := v72) rfl) <| L_op (.plain rfl) rfl (ltb rfl) (X_assign (v := (.int .i64 0)) rfl) <| L_nil <| thn_n <| W_ret <| fin_r ?_
        obtain rfl := Option.some.inj H
        exact fin2o rfl rfl (Ext.trans (Ext.trans (Ext.trans (Ext.trans (Ext.trans (Ext.trans (Ext.trans (Ext.trans (Ext.trans e5 e9) e14) e19) e21) e26) e30) e57) e63) e76) h121 ((Ext.trans (Ext.trans (Ext.trans (Ext.trans (Ext.trans (Ext.trans (Ext.trans (Ext.trans e5 e9) e14) e19) e21) e26) e30) e57) e63)).size
theorem impl_ListDir.calls {w : World} {a0 : List Nd} {a1 : List UInt8} (gv : GV 0 w) {v_a0 : Value} (f_a0 : Rd 4 encNd w v_a0 a0) (h0 : a0.length ≤ 1048576) (h1 : ∀ x ∈ a0, x.path.length ≤ 1048576) :
    Calls Tryd.prog 52 #[v_a0, S a1] w (Rt (RT 9 1 encS w ((listDir a0 a1).1) (.int .i64 ((listDir a0 a1).2)))) := by
  obtain ⟨k, h⟩ := impl_ListDir.eq a0 a1 h0 h1
  exact impl_ListDir.walk gv f_a0 h
/-! laws.FnExactListDir -/
theorem law_ListDir.walk {w : World} {a0 : List Nd} {a1 : List UInt8} (gv : GV 0 w) {v_a0 : Value} (f_a0 : Rd 4 encNd w v_a0 a0) {r : Bool} (H : law_ListDir.sh a0 a1 = some r) :
    Calls Tryd.prog 13 #[v_a0, S a1] w (Rt (RP w (.bool r))) := by
  unfold law_ListDir.sh at H
  refine calls_of_W Tryd.func13 rfl (Nat.le_of_ble_eq_true rfl) Tryd.ntmps13 rfl ?_
  refine W_seq <| W_reg <| L_op (.plain rfl) rfl (ltb rfl) (X_assign (v := (.bool false)) rfl) <| L_nil <| thn_n <| W_seq <| W_seq <| W_reg <| L_op (.plain rfl) rfl (ltb rfl) (X_move (v := (S a1)) rfl) <| L_op (.plain rfl) rfl (ltb rfl) (X_lenS Tryd.underlying9 rfl) <| L_op (.plain rfl) rfl (ltb rfl) (X_gtr rfl rfl) <| L_nil <| thn_n ?_
  rcases bif_two H with ⟨q1, H⟩ | ⟨q1, H⟩
  · refine W_true (congrArg Value.bool q1) <| W_seq <| W_reg <| L_op (.plain rfl) rfl (ltb rfl) (X_assign (v := (.bool true)) rfl) <| L_nil <| thn_n <| W_ret <| thn_r <| fin_r ?_
    obtain rfl := Option.some.inj H
    exact fin1 rfl (Ext.refl w)
  · refine W_false (congrArg Value.bool q1) <| W_skip <| thn_n <| W_seq <| W_reg <| L_op (.plain rfl) rfl (ltb rfl) (X_assign (v := (.int .i64 1048576)) rfl) <| L_nil <| thn_n <| W_seq <| W_reg <| L_op (.plain rfl) rfl (ltb rfl) (X_move (v := v_a0) rfl) <| L_op (.plain rfl) rfl (ltb rfl) (X_move (v := (.int .i64 1048576)) rfl) ?_
    obtain ⟨c2, H⟩ := bif_some H
    obtain ⟨c3, H⟩ := bif_some H
    obtain ⟨c4, H⟩ := bif_some H
    obtain ⟨c5, H⟩ := bif_some H
    refine L_callP (.plain rfl) rfl (ltb rfl) rfl Tryd.call27 (laws_szNodeS.calls (w := w) (a0 := a0) (a1 := 1048576) f_a0 (of_decide_eq_true c2) (of_decide_eq_true c3) (of_decide_eq_true c4) (of_decide_eq_true c5)) rfl <| fun w6 e7 => L_op (.plain rfl) rfl (ltb rfl) (X_assign (v := (.int .i64 (szNdS a0 1048576))) rfl) <| L_nil <| thn_n <| W_seq <| W_seq <| W_reg <| L_op (.plain rfl) rfl (ltb rfl) (X_move (v := (.int .i64 (szNdS a0 1048576))) rfl) <| L_op (.plain rfl) rfl (ltb rfl) (X_lss rfl rfl) <| L_nil <| thn_n ?_
    rcases bif_two H with ⟨q8, H⟩ | ⟨q8, H⟩
    · refine W_true (congrArg Value.bool q8) <| W_seq <| W_reg <| L_op (.plain rfl) rfl (ltb rfl) (X_assign (v := (.bool true)) rfl) <| L_nil <| thn_n <| W_ret <| thn_r <| fin_r ?_
      obtain rfl := Option.some.inj H
      exact fin1 rfl e7
    · refine W_false (congrArg Value.bool q8) <| W_skip <| thn_n <| W_seq <| W_reg <| L_op (.plain rfl) rfl (ltb rfl) (X_move (v := v_a0) rfl) ?_
      obtain ⟨c9, H⟩ := bif_some H
      refine L_callO (.plain rfl) rfl (ltb rfl) rfl Tryd.call29 (laws_toNodeS.calls (w := w6) (a0 := a0) (Rd.ext f_a0 e7) (of_decide_eq_true c9)) rfl <| fun v12 w10 e11 o13 => L_op (.plain rfl) rfl (ltb rfl) (X_move (v := (S a1)) rfl) ?_
      obtain ⟨c14, H⟩ := bif_some H
      obtain ⟨c15, H⟩ := bif_some H
      refine L_callT (.plain rfl) rfl (ltb rfl) rfl Tryd.call51 (spec_ListDir.calls (w := w10) (a0 := a0) (a1 := a1) (Ow.rd o13) (of_decide_eq_true c14) (of_decide_eq_true c15)) rfl <| fun v18 w16 e17 o19 => L_op (.plain rfl) rfl (ltb rfl) (X_move (v := (.tuple #[v18, (.int .i64 ((listDir a0 a1).2))])) rfl) <| L_op (.plain rfl) rfl (ltb rfl) (X_extract (v := v18) rfl rfl) <| L_op (.plain rfl) rfl (ltb rfl) (X_extract (v := (.int .i64 ((listDir a0 a1).2))) rfl rfl) <| L_op (.plain rfl) rfl (ltb rfl) (X_assign (v := v18) rfl) <| L_op (.plain rfl) rfl (ltb rfl) (X_assign (v := (.int .i64 ((listDir a0 a1).2))) rfl) <| L_nil <| thn_n <| W_seq <| W_reg <| L_op (.plain rfl) rfl (ltb rfl) (X_move (v := v_a0) rfl) ?_
      obtain ⟨c20, H⟩ := bif_some H
      refine L_callO (.plain rfl) rfl (ltb rfl) rfl Tryd.call29 (laws_toNodeS.calls (w := w16) (a0 := a0) (Rd.ext f_a0 (Ext.trans (Ext.trans e7 e11) e17)) (of_decide_eq_true c20)) rfl <| fun v23 w21 e22 o24 => L_op (.plain rfl) rfl (ltb rfl) (X_assign (v := v23) rfl) <| L_nil <| thn_n <| W_seq <| W_reg <| L_op (.plain rfl) rfl (ltb rfl) (X_move (v := v23) rfl) <| L_op (.plain rfl) rfl (ltb rfl) (X_move (v := (S a1)) rfl) ?_
      obtain ⟨c25, H⟩ := bif_some H
      obtain ⟨c26, H⟩ := bif_some H
      refine L_callT (.plain rfl) rfl (ltb rfl) rfl Tryd.call52 (impl_ListDir.calls (w := w21) (a0 := a0) (a1 := a1) (GV.ext gv (Ext.trans (Ext.trans (Ext.trans e7 e11) e17) e22)) (Ow.rd o24) (of_decide_eq_true c25) (of_decide_eq_true c26)) rfl <| fun v29 w27 e28 o30 => L_op (.plain rfl) rfl (ltb rfl) (X_move (v := (.tuple #[v29, (.int .i64 ((listDir a0 a1).2))])) rfl) <| L_op (.plain rfl) rfl (ltb rfl) (X_extract (v := v29) rfl rfl) <| L_op (.plain rfl) rfl (ltb rfl) (X_extract (v := (.int .i64 ((listDir a0 a1).2))) rfl rfl) <| L_op (.plain rfl) rfl (ltb rfl) (X_assign (v := v29) rfl) <| L_op (.plain rfl) rfl (ltb rfl) (X_assign (v := (.int .i64 ((listDir a0 a1).2))) rfl) <| L_nil <| thn_n <| W_seq <| W_seq <| W_reg <| L_op (.plain rfl) rfl (ltb rfl) (X_move (v := v29) rfl) <| L_op (.plain rfl) rfl (ltb rfl) (X_move (v := v18) rfl) ?_
      obtain ⟨c31, H⟩ := bif_some H
      refine L_callP (.plain rfl) rfl (ltb rfl) rfl Tryd.call44 (laws_eqStringS.calls (w := w27) (a0 := (listDir a0 a1).1) (a1 := (listDir a0 a1).1) (Ow.rd o30) (Ow.rd (Ow.ext o19 (Ext.trans e22 e28))) (of_decide_eq_true c31)) rfl <| fun w32 e33 => L_op (.plain rfl) rfl (ltb rfl) (X_not rfl) <| L_op (.plain rfl) rfl (ltb rfl) (X_move (v := (.bool (!(decide (((listDir a0 a1).1) = ((listDir a0 a1).1)))))) rfl) <| L_grp 4 [(44, 48)] 47 (.bool ((!(decide (((listDir a0 a1).1) = ((listDir a0 a1).1)))) || (!decide (((listDir a0 a1).2) = ((listDir a0 a1).2))))) ?_ ?_
      · rcases bool_two (!(decide (((listDir a0 a1).1) = ((listDir a0 a1).1)))) with b33_ | b33_
        · exact L_skip rfl rfl (ltb rfl) (congrArg Value.bool b33_) rfl rfl (ltb rfl) <| L_skip rfl rfl (ltb rfl) (congrArg Value.bool b33_) rfl rfl (ltb rfl) <| L_skip rfl rfl (ltb rfl) (congrArg Value.bool b33_) rfl rfl (ltb rfl) <| L_op (.plain rfl) rfl (ltb rfl) (X_pick (b := true) (v := (.bool true)) (congrArg Value.bool b33_) rfl) <| L_nil <| thn_n ⟨(Kp.upd (Kp.upd (Kp.upd (Kp.upd (Kp.refl _ _) rfl) rfl) rfl) rfl), (or_t b33_), (Ext.refl w32)⟩
        · exact L_op (.guard 4 false 43 rfl rfl (ltb rfl) (congrArg Value.bool b33_)) rfl (ltb rfl) (X_move (v := (.int .i64 ((listDir a0 a1).2))) rfl) <| L_op (.guard 4 false 43 rfl rfl (ltb rfl) (congrArg Value.bool b33_)) rfl (ltb rfl) (X_move (v := (.int .i64 ((listDir a0 a1).2))) rfl) <| L_op (.guard 4 false 43 rfl rfl (ltb rfl) (congrArg Value.bool b33_)) rfl (ltb rfl) (X_neq rfl rfl) <| L_op (.plain rfl) rfl (ltb rfl) (X_pick (b := false) (v := (.bool (!decide (((listDir a0 a1).2) = ((listDir a0 a1).2))))) (congrArg Value.bool b33_) rfl) <| L_nil <| thn_n ⟨(Kp.upd (Kp.upd (Kp.upd (Kp.upd (Kp.refl _ _) rfl) rfl) rfl) rfl), (or_f b33_), (Ext.refl w32)⟩
      intro s39 w35 K36 h37 e38
      refine L_nil <| thn_n ?_
      rcases bif_two H with ⟨q40, H⟩ | ⟨q40, H⟩
      · refine W_true (h37.trans (congrArg Value.bool q40)) <| W_seq <| W_reg <| L_op (.plain rfl) rfl (ltb rfl) (X_assign (v := (.bool false)) rfl) <| L_nil <| thn_n <| W_ret <| thn_r <| fin_r ?_
        obtain rfl := Option.some.inj H
        exact fin1 rfl (Ext.trans (Ext.trans (Ext.trans (Ext.trans (Ext.trans (Ext.trans e7 e11) e17) e22) e28) e33) e38)
      · refine W_false (h37.trans (congrArg Value.bool q40)) <| W_skip <| thn_n <| W_seq <| W_seq <| W_reg <| L_op (.plain rfl) rfl (ltb rfl) (X_move (v := v23) (K36 8 rfl)) <| L_op (.plain rfl) rfl (ltb rfl) (X_move (v := v_a0) (K36 0 rfl)) ?_
        obtain ⟨c41, H⟩ := bif_some H
        refine L_callO (.plain rfl) rfl (ltb rfl) rfl Tryd.call29 (laws_toNodeS.calls (w := w35) (a0 := a0) (Rd.ext f_a0 (Ext.trans (Ext.trans (Ext.trans (Ext.trans (Ext.trans (Ext.trans e7 e11) e17) e22) e28) e33) e38)) (of_decide_eq_true c41)) rfl <| fun v44 w42 e43 o45 => ?_
        obtain ⟨c46, H⟩ := bif_some H
        refine L_callP (.plain rfl) rfl (ltb rfl) rfl Tryd.call32 (laws_eqNodeS.calls (w := w42) (a0 := a0) (a1 := a0) (Ow.rd (Ow.ext o24 (Ext.trans (Ext.trans (Ext.trans e28 e33) e38) e43))) (Ow.rd o45) (of_decide_eq_true c46)) rfl <| fun w47 e48 => L_op (.plain rfl) rfl (ltb rfl) (X_not rfl) <| L_nil <| thn_n ?_
        rcases bif_two H with ⟨q49, H⟩ | ⟨q49, H⟩
        · refine W_true (congrArg Value.bool q49) <| W_seq <| W_reg <| L_op (.plain rfl) rfl (ltb rfl) (X_assign (v := (.bool false)) rfl) <| L_nil <| thn_n <| W_ret <| thn_r <| fin_r ?_
          obtain rfl := Option.some.inj H
          exact fin1 rfl (Ext.trans (Ext.trans (Ext.trans (Ext.trans (Ext.trans (Ext.trans (Ext.trans (Ext.trans e7 e11) e17) e22) e28) e33) e38) e43) e48)
        · refine W_false (congrArg Value.bool q49) <| W_skip <| thn_n <| W_seq <| W_reg <| L_op (.plain rfl) rfl (ltb rfl) (X_assign (v := (.int .i64 1)) rfl) <| L_nil <| thn_n <| W_seq <| W_reg <| L_op (.plain rfl) rfl (ltb rfl) (X_move (v := v23) (K36 8 rfl)) <| L_op (.plain rfl) rfl (ltb rfl) (X_move (v := (.int .i64 1)) rfl) ?_
          obtain ⟨c50, H⟩ := bif_some H
          obtain ⟨c51, H⟩ := bif_some H
          obtain ⟨c52, H⟩ := bif_some H
          refine L_callM (.plain rfl) rfl (ltb rfl) rfl Tryd.call39 (laws_markNodeS.calls (w := w47) (a0 := a0) (a1 := 1) (Ow.ext o24 (Ext.trans (Ext.trans (Ext.trans (Ext.trans e28 e33) e38) e43) e48)) (Ow.hb o24) (of_decide_eq_true c50) (of_decide_eq_true c51) (of_decide_eq_true c52)) rfl <| fun w53 e54 o55 => L_op (.plain rfl) rfl (ltb rfl) (X_assign (v := (.int .i64 (1 + 4 * (a0.length : Int)))) rfl) <| L_nil <| thn_n <| W_seq <| W_seq <| W_reg <| L_op (.plain rfl) rfl (ltb rfl) (X_move (v := (.int .i64 (1 + 4 * (a0.length : Int)))) rfl) <| L_op (.plain rfl) rfl (ltb rfl) (X_lss rfl rfl) <| L_op (.plain rfl) rfl (ltb rfl) (X_move (v := (.bool (decide ((1 + 4 * (a0.length : Int)) < 0)))) rfl) ?_
          obtain ⟨z57, x58, H⟩ := bind_some H
          refine L_grpE 5 [(59, 64)] 63 (fun q => q = z57) ?_ ?_
          · rcases bif_two x58 with ⟨b55_, H⟩ | ⟨b55_, H⟩
            · refine L_skip rfl rfl (ltb rfl) (congrArg Value.bool b55_) rfl rfl (ltb rfl) <| L_skip rfl rfl (ltb rfl) (congrArg Value.bool b55_) rfl rfl (ltb rfl) <| L_skip rfl rfl (ltb rfl) (congrArg Value.bool b55_) rfl rfl (ltb rfl) <| L_skip rfl rfl (ltb rfl) (congrArg Value.bool b55_) rfl rfl (ltb rfl) <| L_op (.plain rfl) rfl (ltb rfl) (X_pick (b := true) (v := (.bool true)) (congrArg Value.bool b55_) rfl) ?_
              obtain rfl := Option.some.inj H
              exact L_nil <| thn_n ⟨(Kp.upd (Kp.upd (Kp.upd (Kp.upd (Kp.upd (Kp.refl _ _) rfl) rfl) rfl) rfl) rfl), ⟨_, rfl, rfl⟩, (Ext.refl w53)⟩
            · refine L_op (.guard 2 false 58 rfl rfl (ltb rfl) (congrArg Value.bool b55_)) rfl (ltb rfl) (X_move (v := v29) (K36 9 rfl)) <| L_op (.guard 2 false 58 rfl rfl (ltb rfl) (congrArg Value.bool b55_)) rfl (ltb rfl) (X_move (v := v18) (K36 6 rfl)) ?_
              obtain ⟨c57, H⟩ := bif_some H
              refine L_callP (.guard 2 false 58 rfl rfl (ltb rfl) (congrArg Value.bool b55_)) rfl (ltb rfl) rfl Tryd.call44 (laws_eqStringS.calls (w := w53) (a0 := (listDir a0 a1).1) (a1 := (listDir a0 a1).1) (Ow.rd (Ow.later (Ow.ext o30 (Ext.trans (Ext.trans (Ext.trans e33 e38) e43) e48)) e54 (Ext.refl w21).size)) (Ow.rd (Ow.ext o19 (Ext.gr (Ext.trans (Ext.trans (Ext.trans (Ext.trans (Ext.trans e22 e28) e33) e38) e43) e48) e54 (Ext.refl w16).size))) (of_decide_eq_true c57)) rfl <| fun w58 e59 => L_op (.guard 2 false 58 rfl rfl (ltb rfl) (congrArg Value.bool b55_)) rfl (ltb rfl) (X_not rfl) <| L_op (.plain rfl) rfl (ltb rfl) (X_pick (b := false) (v := (.bool (!(decide (((listDir a0 a1).1) = ((listDir a0 a1).1)))))) (congrArg Value.bool b55_) rfl) ?_
              obtain rfl := Option.some.inj H
              exact L_nil <| thn_n ⟨(Kp.upd (Kp.upd (Kp.upd (Kp.upd (Kp.upd (Kp.refl _ _) rfl) rfl) rfl) rfl) rfl), ⟨_, rfl, rfl⟩, e59⟩
          intro s63 w59 z64 K60 hq h61 e62
          rw [hq] at h61; clear hq
          refine L_op (.plain rfl) rfl (ltb rfl) (X_move (v := (.bool z57)) h61) <| L_grp 4 [(65, 69)] 68 (.bool (z57 || (!decide (((listDir a0 a1).2) = ((listDir a0 a1).2))))) ?_ ?_
          · rcases bool_two z57 with b64_ | b64_
            · exact L_skip rfl rfl (ltb rfl) (congrArg Value.bool b64_) rfl rfl (ltb rfl) <| L_skip rfl rfl (ltb rfl) (congrArg Value.bool b64_) rfl rfl (ltb rfl) <| L_skip rfl rfl (ltb rfl) (congrArg Value.bool b64_) rfl rfl (ltb rfl) <| L_op (.plain rfl) rfl (ltb rfl) (X_pick (b := true) (v := (.bool true)) (congrArg Value.bool b64_) rfl) <| L_nil <| thn_n ⟨(Kp.upd (Kp.upd (Kp.upd (Kp.upd (Kp.refl _ _) rfl) rfl) rfl) rfl), (or_t b64_), (Ext.refl w59)⟩
            · exact L_op (.guard 8 false 64 rfl rfl (ltb rfl) (congrArg Value.bool b64_)) rfl (ltb rfl) (X_move (v := (.int .i64 ((listDir a0 a1).2))) ((K60 10 rfl).trans (K36 10 rfl))) <| L_op (.guard 8 false 64 rfl rfl (ltb rfl) (congrArg Value.bool b64_)) rfl (ltb rfl) (X_move (v := (.int .i64 ((listDir a0 a1).2))) ((K60 7 rfl).trans (K36 7 rfl))) <| L_op (.guard 8 false 64 rfl rfl (ltb rfl) (congrArg Value.bool b64_)) rfl (ltb rfl) (X_neq rfl rfl) <| L_op (.plain rfl) rfl (ltb rfl) (X_pick (b := false) (v := (.bool (!decide (((listDir a0 a1).2) = ((listDir a0 a1).2))))) (congrArg Value.bool b64_) rfl) <| L_nil <| thn_n ⟨(Kp.upd (Kp.upd (Kp.upd (Kp.upd (Kp.refl _ _) rfl) rfl) rfl) rfl), (or_f b64_), (Ext.refl w59)⟩
          intro s70 w66 K67 h68 e69
          refine L_nil <| thn_n ?_
          rcases bif_two H with ⟨q71, H⟩ | ⟨q71, H⟩
          · refine W_true (h68.trans (congrArg Value.bool q71)) <| W_seq <| W_reg <| L_op (.plain rfl) rfl (ltb rfl) (X_assign (v := (.bool false)) rfl) <| L_nil <| thn_n <| W_ret <| thn_r <| fin_r ?_
            obtain rfl := Option.some.inj H
            exact fin1 rfl (Ext.trans (Ext.trans (Ext.trans (Ext.trans (Ext.trans e7 e11) e17) (Ext.gr (Ext.trans (Ext.trans (Ext.trans (Ext.trans (Ext.trans e22 e28) e33) e38) e43) e48) e54 (Ext.refl w16).size)) e62) e69)
          · refine W_false (h68.trans (congrArg Value.bool q71)) <| W_skip <| thn_n <| W_seq <| W_reg <| L_op (.plain rfl) rfl (ltb rfl) (X_assign (v := (.int .i64 1)) rfl) <| L_nil <| thn_n <| W_seq <| W_reg <| L_op (.plain rfl) rfl (ltb rfl) (X_move (v := v29) ((K67 9 rfl).trans ((K60 9 rfl).trans (K36 9 rfl)))) <| L_op (.plain rfl) rfl (ltb rfl) (X_move (v := (.int .i64 1)) rfl) ?_
            obtain ⟨c72, H⟩ := bif_some H
            obtain ⟨c73, H⟩ := bif_some H
            obtain ⟨c74, H⟩ := bif_some H
            refine L_callM (.plain rfl) rfl (ltb rfl) rfl Tryd.call45 (laws_markStringS.calls (w := w66) (a0 := (listDir a0 a1).1) (a1 := 1) (Ow.ext (Ow.later (Ow.ext o30 (Ext.trans (Ext.trans (Ext.trans e33 e38) e43) e48)) e54 (Ext.refl w21).size) (Ext.trans e62 e69)) (Ow.hb o30) (of_decide_eq_true c72) (of_decide_eq_true c73) (of_decide_eq_true c74)) rfl <| fun w75 e76 o77 => L_op (.plain rfl) rfl (ltb rfl) (X_assign (v := (.int .i64 (1 + (((listDir a0 a1).1).length : Int)))) rfl) <| L_nil <| thn_n <| W_seq <| W_reg <| L_op (.plain rfl) rfl (ltb rfl) (X_assign (v := (.int .i64 1)) rfl) <| L_nil <| thn_n <| W_seq <| W_reg <| L_op (.plain rfl) rfl (ltb rfl) (X_move (v := v29) ((K67 9 rfl).trans ((K60 9 rfl).trans (K36 9 rfl)))) <| L_op (.plain rfl) rfl (ltb rfl) (X_move (v := (.int .i64 1)) rfl) ?_
            obtain ⟨c78, H⟩ := bif_some H
            obtain ⟨c79, H⟩ := bif_some H
            obtain ⟨c80, H⟩ := bif_some H
            refine L_callP (.plain rfl) rfl (ltb rfl) rfl Tryd.call46 (laws_heldStringS.calls (w := w75) (a0 := (marksS ((listDir a0 a1).1).length 1)) (a1 := 1) (Ow.rd o77) (of_decide_eq_true c78) (of_decide_eq_true c79) (of_decide_eq_true c80)) rfl <| fun w81 e82 => L_op (.plain rfl) rfl (ltb rfl) (X_assign (v := (.int .i64 (heldS (marksS ((listDir a0 a1).1).length 1) 1))) rfl) <| L_nil <| thn_n <| W_seq <| W_seq <| W_reg <| L_op (.plain rfl) rfl (ltb rfl) (X_move (v := (.int .i64 (heldS (marksS ((listDir a0 a1).1).length 1) 1))) rfl) <| L_op (.plain rfl) rfl (ltb rfl) (X_lss rfl rfl) <| L_nil <| thn_n ?_
            rcases bif_two H with ⟨q83, H⟩ | ⟨q83, H⟩
            · refine W_true (congrArg Value.bool q83) <| W_seq <| W_reg <| L_op (.plain rfl) rfl (ltb rfl) (X_assign (v := (.bool false)) rfl) <| L_nil <| thn_n <| W_ret <| thn_r <| fin_r ?_
              obtain rfl := Option.some.inj H
              exact fin1 rfl (Ext.trans (Ext.trans (Ext.trans (Ext.trans e7 e11) e17) (Ext.gr (Ext.trans (Ext.trans (Ext.gr (Ext.trans (Ext.trans (Ext.trans (Ext.trans (Ext.trans e22 e28) e33) e38) e43) e48) e54 (Ext.refl w16).size) e62) e69) e76 e22.size)) e82)
            · refine W_false (congrArg Value.bool q83) <| W_skip <| thn_n <| W_seq <| W_seq <| W_reg <| L_op (.plain rfl) rfl (ltb rfl) (X_move (v := (.int .i64 (heldS (marksS ((listDir a0 a1).1).length 1) 1))) rfl) <| L_op (.plain rfl) rfl (ltb rfl) (X_move (v := (.int .i64 (1 + (((listDir a0 a1).1).length : Int)))) rfl) <| L_op (.plain rfl) rfl (ltb rfl) (X_neq rfl rfl) <| L_nil <| thn_n ?_
              rcases bif_two H with ⟨q84, H⟩ | ⟨q84, H⟩
              · refine W_true (congrArg Value.bool q84) <| W_seq <| W_reg <| L_op (.plain rfl) rfl (ltb rfl) (X_assign (v := (.bool false)) rfl) <| L_nil <| thn_n <| W_ret <| thn_r <| fin_r ?_
                obtain rfl := Option.some.inj H
                exact fin1 rfl (Ext.trans (Ext.trans (Ext.trans (Ext.trans e7 e11) e17) (Ext.gr (Ext.trans (Ext.trans (Ext.gr (Ext.trans (Ext.trans (Ext.trans (Ext.trans (Ext.trans e22 e28) e33) e38) e43) e48) e54 (Ext.refl w16).size) e62) e69) e76 e22.size)) e82)
              · refine W_false (congrArg Value.bool q84) <| W_skip <| thn_n <| W_seq <| W_reg <| L_op (.plain rfl) rfl (ltb rfl) (X_move (v := v_a0) ((K67 0 rfl).trans ((K60 0 rfl).trans (K36 0 rfl)))) ?_
                obtain ⟨c85, H⟩ := bif_some H
                refine L_callO (.plain rfl) rfl (ltb rfl) rfl Tryd.call29 (laws_toNodeS.calls (w := w81) (a0 := a0) (Rd.ext f_a0 (Ext.trans (Ext.trans (Ext.trans (Ext.trans e7 e11) e17) (Ext.gr (Ext.trans (Ext.trans (Ext.gr (Ext.trans (Ext.trans (Ext.trans (Ext.trans (Ext.trans e22 e28) e33) e38) e43) e48) e54 (Ext.refl w16).size) e62) e69) e76 e22.size)) e82)) (of_decide_eq_true c85)) rfl <| fun v88 w86 e87 o89 => L_op (.plain rfl) rfl (ltb rfl) (X_move (v := (S a1)) ((K67 1 rfl).trans ((K60 1 rfl).trans (K36 1 rfl)))) ?_
                obtain ⟨c90, H⟩ := bif_some H
                obtain ⟨c91, H⟩ := bif_some H
                refine L_callT (.plain rfl) rfl (ltb rfl) rfl Tryd.call52 (impl_ListDir.calls (w := w86) (a0 := a0) (a1 := a1) (GV.ext gv (Ext.trans (Ext.trans (Ext.trans (Ext.trans (Ext.trans e7 e11) e17) (Ext.gr (Ext.trans (Ext.trans (Ext.gr (Ext.trans (Ext.trans (Ext.trans (Ext.trans (Ext.trans e22 e28) e33) e38) e43) e48) e54 (Ext.refl w16).size) e62) e69) e76 e22.size)) e82) e87)) (Ow.rd o89) (of_decide_eq_true c90) (of_decide_eq_true c91)) rfl <| fun v94 w92 e93 o95 => L_op (.plain rfl) rfl (ltb rfl) (X_move (v := (.tuple #[v94, (.int .i64 ((listDir a0 a1).2))])) rfl) <| L_op (.plain rfl) rfl (ltb rfl) (X_extract (v := v94) rfl rfl) <| L_op (.plain rfl) rfl (ltb rfl) (X_extract (v := (.int .i64 ((listDir a0 a1).2))) rfl rfl) <| L_op (.plain rfl) rfl (ltb rfl) (X_assign (v := v94) rfl) <| L_op (.plain rfl) rfl (ltb rfl) (X_assign (v := (.int .i64 ((listDir a0 a1).2))) rfl) <| L_nil <| thn_n <| W_seq <| W_seq <| W_reg <| L_op (.plain rfl) rfl (ltb rfl) (X_move (v := v94) rfl) <| L_op (.plain rfl) rfl (ltb rfl) (X_move (v := v18) ((K67 6 rfl).trans ((K60 6 rfl).trans (K36 6 rfl)))) ?_
                obtain ⟨c96, H⟩ := bif_some H
                refine L_callP (.plain rfl) rfl (ltb rfl) rfl Tryd.call44 (laws_eqStringS.calls (w := w92) (a0 := (listDir a0 a1).1) (a1 := (listDir a0 a1).1) (Ow.rd o95) (Ow.rd (Ow.ext o19 (Ext.trans (Ext.trans (Ext.trans (Ext.gr (Ext.trans (Ext.trans (Ext.gr (Ext.trans (Ext.trans (Ext.trans (Ext.trans (Ext.trans e22 e28) e33) e38) e43) e48) e54 (Ext.refl w16).size) e62) e69) e76 e22.size) e82) e87) e93))) (of_decide_eq_true c96)) rfl <| fun w97 e98 => L_op (.plain rfl) rfl (ltb rfl) (X_not rfl) <| L_op (.plain rfl) rfl (ltb rfl) (X_move (v := (.bool (!(decide (((listDir a0 a1).1) = ((listDir a0 a1).1)))))) rfl) <| L_grp 4 [(92, 96)] 95 (.bool ((!(decide (((listDir a0 a1).1) = ((listDir a0 a1).1)))) || (!decide (((listDir a0 a1).2) = ((listDir a0 a1).2))))) ?_ ?_
                · rcases bool_two (!(decide (((listDir a0 a1).1) = ((listDir a0 a1).1)))) with b98_ | b98_
                  · exact L_skip rfl rfl (ltb rfl) (congrArg Value.bool b98_) rfl rfl (ltb rfl) <| L_skip rfl rfl (ltb rfl) (congrArg Value.bool b98_) rfl rfl (ltb rfl) <| L_skip rfl rfl (ltb rfl) (congrArg Value.bool b98_) rfl rfl (ltb rfl) <| L_op (.plain rfl) rfl (ltb rfl) (X_pick (b := true) (v := (.bool true)) (congrArg Value.bool b98_) rfl) <| L_nil <| thn_n ⟨(Kp.upd (Kp.upd (Kp.upd (Kp.upd (Kp.refl _ _) rfl) rfl) rfl) rfl), (or_t b98_), (Ext.refl w97)⟩
                  · exact L_op (.guard 4 false 91 rfl rfl (ltb rfl) (congrArg Value.bool b98_)) rfl (ltb rfl) (X_move (v := (.int .i64 ((listDir a0 a1).2))) rfl) <| L_op (.guard 4 false 91 rfl rfl (ltb rfl) (congrArg Value.bool b98_)) rfl (ltb rfl) (X_move (v := (.int .i64 ((listDir a0 a1).2))) ((K67 7 rfl).trans ((K60 7 rfl).trans (K36 7 rfl)))) <| L_op (.guard 4 false 91 rfl rfl (ltb rfl) (congrArg Value.bool b98_)) rfl (ltb rfl) (X_neq rfl rfl) <| L_op (.plain rfl) rfl (ltb rfl) (X_pick (b := false) (v := (.bool (!decide (((listDir a0 a1).2) = ((listDir a0 a1).2))))) (congrArg Value.bool b98_) rfl) <| L_nil <| thn_n ⟨(Kp.upd (Kp.upd (Kp.upd (Kp.upd (Kp.refl _ _) rfl) rfl) rfl) rfl), (or_f b98_), (Ext.refl w97)⟩
                intro s104 w100 K101 h102 e103
                refine L_nil <| thn_n ?_
                rcases bif_two H with ⟨q105, H⟩ | ⟨q105, H⟩
                · refine W_true (h102.trans (congrArg Value.bool q105)) <| W_seq <| W_reg <| L_op (.plain rfl) rfl (ltb rfl) (X_assign (v := (.bool false)) rfl) <| L_nil <| thn_n <| W_ret <| thn_r <| fin_r ?_
                  obtain rfl := Option.some.inj H
                  exact fin1 rfl (Ext.trans (Ext.trans (Ext.trans (Ext.trans (Ext.trans (Ext.trans (Ext.trans (Ext.trans e7 e11) e17) (Ext.gr (Ext.trans (Ext.trans (Ext.gr (Ext.trans (Ext.trans (Ext.trans (Ext.trans (Ext.trans e22 e28) e33) e38) e43) e48) e54 (Ext.refl w16).size) e62) e69) e76 e22.size)) e82) e87) e93) e98) e103)
                · refine W_false (h102.trans (congrArg Value.bool q105)) <| W_skip <| thn_n <| W_seq <| W_reg <| L_op (.plain rfl) rfl (ltb rfl) (X_assign (v := (.int .i64 1)) rfl) <| L_nil <| thn_n <| W_seq <| W_reg <| L_op (.plain rfl) rfl (ltb rfl) (X_move (v := v29) ((K101 9 rfl).trans ((K67 9 rfl).trans ((K60 9 rfl).trans (K36 9 rfl))))) <| L_op (.plain rfl) rfl (ltb rfl) (X_move (v := (.int .i64 1)) rfl) ?_
                  obtain ⟨c106, H⟩ := bif_some H
                  obtain ⟨c107, H⟩ := bif_some H
                  obtain ⟨c108, H⟩ := bif_some H
                  refine L_callP (.plain rfl) rfl (ltb rfl) rfl Tryd.call46 (laws_heldStringS.calls (w := w100) (a0 := (marksS ((listDir a0 a1).1).length 1)) (a1 := 1) (Ow.rd (Ow.ext o77 (Ext.trans (Ext.trans (Ext.trans (Ext.trans e82 e87) e93) e98) e103))) (of_decide_eq_true c106) (of_decide_eq_true c107) (of_decide_eq_true c108)) rfl <| fun w109 e110 => L_op (.plain rfl) rfl (ltb rfl) (X_assign (v := (.int .i64 (heldS (marksS ((listDir a0 a1).1).length 1) 1))) rfl) <| L_nil <| thn_n <| W_seq <| W_seq <| W_reg <| L_op (.plain rfl) rfl (ltb rfl) (X_move (v := (.int .i64 (heldS (marksS ((listDir a0 a1).1).length 1) 1))) rfl) <| L_op (.plain rfl) rfl (ltb rfl) (X_lss rfl rfl) <| L_nil <| thn_n ?_
                  rcases bif_two H with ⟨q111, H⟩ | ⟨q111, H⟩
                  · refine W_true (congrArg Value.bool q111) <| W_seq <| W_reg <| L_op (.plain rfl) rfl (ltb rfl) (X_assign (v := (.bool false)) rfl) <| L_nil <| thn_n <| W_ret <| thn_r <| fin_r ?_
                    obtain rfl := Option.some.inj H
                    exact fin1 rfl (Ext.trans (Ext.trans (Ext.trans (Ext.trans (Ext.trans (Ext.trans (Ext.trans (Ext.trans (Ext.trans e7 e11) e17) (Ext.gr (Ext.trans (Ext.trans (Ext.gr (Ext.trans (Ext.trans (Ext.trans (Ext.trans (Ext.trans e22 e28) e33) e38) e43) e48) e54 (Ext.refl w16).size) e62) e69) e76 e22.size)) e82) e87) e93) e98) e103) e110)
                  · refine W_false (congrArg Value.bool q111) <| W_skip <| thn_n <| W_seq <| W_seq <| W_reg <| L_op (.plain rfl) rfl (ltb rfl) (X_move (v := (.int .i64 (heldS (marksS ((listDir a0 a1).1).length 1) 1))) rfl) <| L_op (.plain rfl) rfl (ltb rfl) (X_move (v := (.int .i64 (1 + (((listDir a0 a1).1).length : Int)))) (K101 12 rfl)) <| L_op (.plain rfl) rfl (ltb rfl) (X_neq rfl rfl) <| L_nil <| thn_n ?_
                    rcases bif_two H with ⟨q112, H⟩ | ⟨q112, H⟩
                    · refine W_true (congrArg Value.bool q112) <| W_seq <| W_reg <| L_op (.plain rfl) rfl (ltb rfl) (X_assign (v := (.bool false)) rfl) <| L_nil <| thn_n <| W_ret <| thn_r <| fin_r ?_
                      obtain rfl := Option.some.inj H
                      exact fin1 rfl (Ext.trans (Ext.trans (Ext.trans (Ext.trans (Ext.trans (Ext.trans (Ext.trans (Ext.trans (Ext.trans e7 e11) e17) (Ext.gr (Ext.trans (Ext.trans (Ext.gr (Ext.trans (Ext.trans (Ext.trans (Ext.trans (Ext.trans e22 e28) e33) e38) e43) e48) e54 (Ext.refl w16).size) e62) e69) e76 e22.size)) e82) e87) e93) e98) e103) e110)
                    · refine W_false (congrArg Value.bool q112) <| W_skip <| thn_n <| W_seq <| W_reg <| L_op (.plain rfl) rfl (ltb rfl) (X_assign (v := (.bool true)) rfl) <| L_nil <| thn_n <| W_ret <| fin_r ?_
                      obtain rfl := Option.some.inj H
                      exact fin1 rfl (Ext.trans (Ext.trans (Ext.trans (Ext.trans (Ext.trans (Ext.trans (Ext.trans (Ext.trans (Ext.trans e7 e11) e17) (Ext.gr (Ext.trans (Ext.trans (Ext.gr (Ext.trans (Ext.trans (Ext.trans (Ext.trans (Ext.trans e22 e28) e33) e38) e43) e48) e54 (Ext.refl w16).size) e62) e69) e76 e22.size)) e82) e87) e93) e98) e103) e110)
theorem law_ListDir.calls {w : World} {a0 : List Nd} {a1 : List UInt8} (gv : GV 0 w) {v_a0 : Value} (f_a0 : Rd 4 encNd w v_a0 a0) (h0 : ∀ x ∈ a0, okNd x) (h1 : a0.length ≤ 9223372036854775807) :
    Calls Tryd.prog 13 #[v_a0, S a1] w (Rt (RP w (.bool true))) := law_ListDir.walk gv f_a0 (law_ListDir.eq a0 a1 h0 h1)
end Go.Proofs.YtilogldgepaeiabDoor
