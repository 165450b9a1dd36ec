/- The walks, by program (wip/tools). -/
import Derived.Test.YtilogldgepaeiaaDoorProg
import Derived.Test.YtilogldgepaeiaaDoorWC
set_option linter.unusedVariables false
set_option maxRecDepth 10000
namespace Go.Proofs.YtilogldgepaeiaaDoor
open Go.UL Go.RowKit
/-! impl.TreeOK -/
theorem impl_TreeOK.walk {k : Nat} {w : World} {a0 : List Nd} (gv : GV 0 w) {v_a0 : Value} (f_a0 : Rd 4 encNd w v_a0 a0) {r : Bool} (H : impl_TreeOK.sh k a0 = some r) :
    Calls Tryd.prog 29 #[v_a0] w (Rt (RP w (.bool r))) := by
  unfold impl_TreeOK.sh at H
  refine calls_of_W Tryd.func29 rfl (Nat.le_of_ble_eq_true rfl) Tryd.ntmps29 rfl ?_
  refine W_seq <| W_reg <| L_op (.plain rfl) rfl (ltb rfl) (X_assign (v := (.bool false)) rfl) <| L_nil <| thn_n <| W_seq <| W_seq <| W_reg <| L_op (.plain rfl) rfl (ltb rfl) (X_move (v := v_a0) rfl) <| L_op (.plain rfl) rfl (ltb rfl) (X_lenR Tryd.underlying39 rfl f_a0) <| L_op (.plain rfl) rfl (ltb rfl) (X_move (v := (.int .i64 0)) rfl) <| L_nil <| thn_n ?_
  obtain ⟨z2, L3, C4⟩ := bind_some H
  clear H
  refine  W_cutQ (fun s0 s9 w9 => Kp [(2, 5), (7, 46)] s0 s9 ∧ Ext w w9 ∧ z2 = .inr ()) ?_ ?_
  · refine W_block <| W_loopI (fun s0 kk s9 w9 => ∃ (x7_1 : Int), Kp [(2, 5), (7, 46)] s0 s9 ∧ s9 7 = .int .i64 x7_1 ∧ Ext w w9 ∧ loopF (impl_TreeOK.b1 a0) kk x7_1 = some z2) k ⟨0, (Kp.refl _ _), rfl, (Ext.refl w), L3⟩ ?_
    rintro k9 s10 w11 ⟨x7_1, K12, h15, e13, L14⟩
    cases k9 with
    | zero => exact absurd L14 (by simp [loopF])
    | succ k9 =>
      obtain ⟨t16, H, S17⟩ := loopF_succ L14
      clear L14
      unfold impl_TreeOK.b1 at H
      refine W_seq <| W_reg <| L_op (.plain rfl) rfl (ltb rfl) (X_lss h15 (K12 6 rfl)) <| L_nil <| thn_n <| W_seq ?_
      rcases bif_two H with ⟨q18, H⟩ | ⟨q18, H⟩
      · refine W_true (congrArg Value.bool q18) <| W_skip <| thn_n <| W_seq <| W_block <| W_seq <| W_reg <| L_op (.plain rfl) rfl (ltb rfl) (X_move (v := (.int .i64 x7_1)) h15) ?_
        obtain ⟨c19, H⟩ := bif_some H
        refine L_idx (.plain rfl) rfl (ltb rfl) rfl Tryd.underlying39 Tryd.sizeOf64 (K12 5 rfl) (Rd.ext f_a0 e13) h15 c19 <| fun p20 h21 => L_op (.plain rfl) rfl (ltb rfl) (X_loadS Tryd.isAgg64 Tryd.sizeOf64 rfl rfl h21) <| L_alloc (.plain rfl) rfl (ltb rfl) rfl Tryd.zeroValue64 <| fun b22 w23 z24 z25 e26 k27 => L_op (.plain rfl) rfl (ltb rfl) (X_assign (v := (.int .i64 x7_1)) rfl) <| L_storeA (.plain rfl) rfl rfl Tryd.sizeOf64 rfl rfl rfl rfl rfl k27 <| fun w28 h29 k30 => L_nil <| thn_n <| W_seq ?_
        obtain ⟨c33, H⟩ := bif_some H
        obtain ⟨c38, H⟩ := bif_some H
        obtain ⟨c41, H⟩ := bif_some H
        obtain ⟨c44, H⟩ := bif_some H
        refine W_drawM [LEq (.int .i64 x7_1), LEq (.bool (decide (24 ≤ x7_1))), LEq (.bool (decide (24 ≤ x7_1))), LIf (!(decide (24 ≤ x7_1))) (LEq (.agg #[(.int .i64 ((gt a0 x7_1).kind)), (S ((gt a0 x7_1).path)), (S ((gt a0 x7_1).body)), (.int .i64 ((gt a0 x7_1).mode))])), LIf (!(decide (24 ≤ x7_1))) (LEq (.bool (nodeOK (gt a0 x7_1)))), LIf (!(decide (24 ≤ x7_1))) (LEq (.bool (!(nodeOK (gt a0 x7_1))))), LEq (.bool ((decide (24 ≤ x7_1)) || (!(nodeOK (gt a0 x7_1))))), LEq (.bool ((decide (24 ≤ x7_1)) || (!(nodeOK (gt a0 x7_1))))), LIf (!((decide (24 ≤ x7_1)) || (!(nodeOK (gt a0 x7_1))))) (LEq (.int .i64 x7_1)), LIf (!((decide (24 ≤ x7_1)) || (!(nodeOK (gt a0 x7_1))))) (LEq (.bool (decide (0 < x7_1)))), LIf (!((decide (24 ≤ x7_1)) || (!(nodeOK (gt a0 x7_1))))) (LEq (.bool (decide (0 < x7_1)))), LIf ((!((decide (24 ≤ x7_1)) || (!(nodeOK (gt a0 x7_1))))) && (decide (0 < x7_1))) (LEq v_a0), LIf ((!((decide (24 ≤ x7_1)) || (!(nodeOK (gt a0 x7_1))))) && (decide (0 < x7_1))) (LEq (.int .i64 x7_1)), LIf ((!((decide (24 ≤ x7_1)) || (!(nodeOK (gt a0 x7_1))))) && (decide (0 < x7_1))) (LEq (.int .i64 (IntKind.wrap .i64 (x7_1 - 1)))), LIf ((!((decide (24 ≤ x7_1)) || (!(nodeOK (gt a0 x7_1))))) && (decide (0 < x7_1))) (LAt0 (encNd (gt a0 (IntKind.wrap .i64 (x7_1 - 1))))), LIf ((!((decide (24 ≤ x7_1)) || (!(nodeOK (gt a0 x7_1))))) && (decide (0 < x7_1))) (LAt 1 (encNd (gt a0 (IntKind.wrap .i64 (x7_1 - 1))))), LIf ((!((decide (24 ≤ x7_1)) || (!(nodeOK (gt a0 x7_1))))) && (decide (0 < x7_1))) (LEq (S ((gt a0 (IntKind.wrap .i64 (x7_1 - 1))).path))), LIf ((!((decide (24 ≤ x7_1)) || (!(nodeOK (gt a0 x7_1))))) && (decide (0 < x7_1))) (LEq (.pointer (some ⟨b22, 1, none⟩))), LIf ((!((decide (24 ≤ x7_1)) || (!(nodeOK (gt a0 x7_1))))) && (decide (0 < x7_1))) (LEq (S ((gt a0 x7_1).path))), LIf ((!((decide (24 ≤ x7_1)) || (!(nodeOK (gt a0 x7_1))))) && (decide (0 < x7_1))) (LEq (.bool (pathLess ((gt a0 (IntKind.wrap .i64 (x7_1 - 1))).path) ((gt a0 x7_1).path)))), LIf ((!((decide (24 ≤ x7_1)) || (!(nodeOK (gt a0 x7_1))))) && (decide (0 < x7_1))) (LEq (.bool (!(pathLess ((gt a0 (IntKind.wrap .i64 (x7_1 - 1))).path) ((gt a0 x7_1).path))))), LIf (!((decide (24 ≤ x7_1)) || (!(nodeOK (gt a0 x7_1))))) (LEq (.bool ((decide (0 < x7_1)) && (!(pathLess ((gt a0 (IntKind.wrap .i64 (x7_1 - 1))).path) ((gt a0 x7_1).path)))))), LEq (.bool (((decide (24 ≤ x7_1)) || (!(nodeOK (gt a0 x7_1)))) || ((decide (0 < x7_1)) && (!(pathLess ((gt a0 (IntKind.wrap .i64 (x7_1 - 1))).path) ((gt a0 x7_1).path)))))), LEq (.bool (((decide (24 ≤ x7_1)) || (!(nodeOK (gt a0 x7_1)))) || ((decide (0 < x7_1)) && (!(pathLess ((gt a0 (IntKind.wrap .i64 (x7_1 - 1))).path) ((gt a0 x7_1).path)))))), LIf (!(((decide (24 ≤ x7_1)) || (!(nodeOK (gt a0 x7_1)))) || ((decide (0 < x7_1)) && (!(pathLess ((gt a0 (IntKind.wrap .i64 (x7_1 - 1))).path) ((gt a0 x7_1).path)))))) (LEq v_a0), LIf (!(((decide (24 ≤ x7_1)) || (!(nodeOK (gt a0 x7_1)))) || ((decide (0 < x7_1)) && (!(pathLess ((gt a0 (IntKind.wrap .i64 (x7_1 - 1))).path) ((gt a0 x7_1).path)))))) (LEq (.int .i64 x7_1)), LIf (!(((decide (24 ≤ x7_1)) || (!(nodeOK (gt a0 x7_1)))) || ((decide (0 < x7_1)) && (!(pathLess ((gt a0 (IntKind.wrap .i64 (x7_1 - 1))).path) ((gt a0 x7_1).path)))))) (LRd 4 encNd (sub a0 0 x7_1)), LIf (!(((decide (24 ≤ x7_1)) || (!(nodeOK (gt a0 x7_1)))) || ((decide (0 < x7_1)) && (!(pathLess ((gt a0 (IntKind.wrap .i64 (x7_1 - 1))).path) ((gt a0 x7_1).path)))))) (LEq (.pointer (some ⟨b22, 1, none⟩))), LIf (!(((decide (24 ≤ x7_1)) || (!(nodeOK (gt a0 x7_1)))) || ((decide (0 < x7_1)) && (!(pathLess ((gt a0 (IntKind.wrap .i64 (x7_1 - 1))).path) ((gt a0 x7_1).path)))))) (LEq (S ((gt a0 x7_1).path))), LIf (!(((decide (24 ≤ x7_1)) || (!(nodeOK (gt a0 x7_1)))) || ((decide (0 < x7_1)) && (!(pathLess ((gt a0 (IntKind.wrap .i64 (x7_1 - 1))).path) ((gt a0 x7_1).path)))))) (LEq (S (parentP ((gt a0 x7_1).path)))), LIf (!(((decide (24 ≤ x7_1)) || (!(nodeOK (gt a0 x7_1)))) || ((decide (0 < x7_1)) && (!(pathLess ((gt a0 (IntKind.wrap .i64 (x7_1 - 1))).path) ((gt a0 x7_1).path)))))) (LEq (.bool (isDirN (sub a0 0 x7_1) (parentP ((gt a0 x7_1).path))))), LIf (!(((decide (24 ≤ x7_1)) || (!(nodeOK (gt a0 x7_1)))) || ((decide (0 < x7_1)) && (!(pathLess ((gt a0 (IntKind.wrap .i64 (x7_1 - 1))).path) ((gt a0 x7_1).path)))))) (LEq (.bool (!(isDirN (sub a0 0 x7_1) (parentP ((gt a0 x7_1).path)))))), LEq (.bool ((((decide (24 ≤ x7_1)) || (!(nodeOK (gt a0 x7_1)))) || ((decide (0 < x7_1)) && (!(pathLess ((gt a0 (IntKind.wrap .i64 (x7_1 - 1))).path) ((gt a0 x7_1).path))))) || (!(isDirN (sub a0 0 x7_1) (parentP ((gt a0 x7_1).path))))))] (by kernel_rfl) (by kernel_rfl) ⟨LEq.mono, LEq.mono, LEq.mono, (LIf.mono LEq.mono), (LIf.mono LEq.mono), (LIf.mono LEq.mono), LEq.mono, LEq.mono, (LIf.mono LEq.mono), (LIf.mono LEq.mono), (LIf.mono LEq.mono), (LIf.mono LEq.mono), (LIf.mono LEq.mono), (LIf.mono LEq.mono), (LIf.mono LAt0.mono), (LIf.mono LAt.mono), (LIf.mono LEq.mono), (LIf.mono LEq.mono), (LIf.mono LEq.mono), (LIf.mono LEq.mono), (LIf.mono LEq.mono), (LIf.mono LEq.mono), LEq.mono, LEq.mono, (LIf.mono LEq.mono), (LIf.mono LEq.mono), (LIf.mono LRd.mono), (LIf.mono LEq.mono), (LIf.mono LEq.mono), (LIf.mono LEq.mono), (LIf.mono LEq.mono), (LIf.mono LEq.mono), LEq.mono, trivial⟩ ⟨?_, ?_, ?_, ?_, ?_, ?_, ?_, ?_, ?_, ?_, ?_, ?_, ?_, ?_, ?_, ?_, ?_, ?_, ?_, ?_, ?_, ?_, ?_, ?_, ?_, ?_, ?_, ?_, ?_, ?_, ?_, ?_, ?_, trivial⟩ ?_
        · intro s47 w48 e49 hf50 hd51 hu52
          exact L_op (.plain rfl) rfl (ltb rfl) (X_move (v := (.int .i64 x7_1)) (hf50 3 rfl)) <| L_nil <| stepEnd rfl rfl (Ext.refl w48) rfl
        · intro s53 w54 e55 hf56 hd57 hu58
          have d59 : s53 12 = (.int .i64 x7_1) := (hd57 0 rfl)
          exact L_op (.plain rfl) rfl (ltb rfl) (X_geq d59 rfl) <| L_nil <| stepEnd rfl rfl (Ext.refl w54) rfl
        · intro s60 w61 e62 hf63 hd64 hu65
          have d66 : s60 13 = (.bool (decide (24 ≤ x7_1))) := (hd64 1 rfl)
          exact L_op (.plain rfl) rfl (ltb rfl) (X_move (v := (.bool (decide (24 ≤ x7_1)))) d66) <| L_nil <| stepEnd rfl rfl (Ext.refl w61) rfl
        · intro s67 w68 e69 hf70 hd71 hu72
          rcases bool_two (!(decide (24 ≤ x7_1))) with b73 | b73
          · have g74 : (decide (24 ≤ x7_1)) = false := (not_f b73)
            have d75 : s67 14 = (.bool (decide (24 ≤ x7_1))) := (hd71 2 rfl)
            have d76 : s67 14 = (.bool (decide (24 ≤ x7_1))) := (hd71 2 rfl)
            exact L_op (.guard 2 false 14 rfl rfl (ltb rfl) (d75.trans (congrArg Value.bool g74))) rfl (ltb rfl) (X_loadS Tryd.isAgg64 Tryd.sizeOf64 rfl (hf70 4 rfl) (Blk.at0 (Blk.ext k30 e69))) <| L_nil <| stepEnd rfl rfl (Ext.refl w68) ⟨fun _ => rfl, fun h => absurd (b73.symm.trans h) (by decide)⟩
          · have d77 : s67 14 = (.bool (decide (24 ≤ x7_1))) := (hd71 2 rfl)
            have g78 : (decide (24 ≤ x7_1)) = true := (not_ff b73)
            exact L_skip rfl rfl (ltb rfl) (d77.trans (congrArg Value.bool g78)) rfl rfl (ltb rfl) <| L_nil <| stepEnd rfl rfl (Ext.refl w68) ⟨fun h => absurd (b73.symm.trans h) (by decide), fun _ => rfl⟩
        · intro s79 w80 e81 hf82 hd83 hu84
          rcases bool_two (!(decide (24 ≤ x7_1))) with b85 | b85
          · have g86 : (decide (24 ≤ x7_1)) = false := (not_f b85)
            have d87 : s79 14 = (.bool (decide (24 ≤ x7_1))) := (hd83 2 rfl)
            have d88 : s79 14 = (.bool (decide (24 ≤ x7_1))) := (hd83 2 rfl)
            have d89 : s79 15 = (.agg #[(.int .i64 ((gt a0 x7_1).kind)), (S ((gt a0 x7_1).path)), (S ((gt a0 x7_1).body)), (.int .i64 ((gt a0 x7_1).mode))]) := ((hd83 3 rfl).1 (not_mk (not_f b85)))
            exact L_callP (.guard 2 false 14 rfl rfl (ltb rfl) (d87.trans (congrArg Value.bool g86))) rfl (ltb rfl) rfl Tryd.call57 (impl_nodeOK.calls (w := w80) (a0 := (gt a0 x7_1)) (GV.ext gv (Ext.trans (Ext.trans e13 (Below.trans e26 (Wr.below h29 (Nat.le_of_eq z24)))) e81))) (cons2 d89 rfl) <| fun w90 e91 => L_nil <| stepEnd rfl rfl e91 ⟨fun _ => rfl, fun h => absurd (b85.symm.trans h) (by decide)⟩
          · have d92 : s79 14 = (.bool (decide (24 ≤ x7_1))) := (hd83 2 rfl)
            have g93 : (decide (24 ≤ x7_1)) = true := (not_ff b85)
            exact L_skip rfl rfl (ltb rfl) (d92.trans (congrArg Value.bool g93)) rfl rfl (ltb rfl) <| L_nil <| stepEnd rfl rfl (Ext.refl w80) ⟨fun h => absurd (b85.symm.trans h) (by decide), fun _ => rfl⟩
        · intro s94 w95 e96 hf97 hd98 hu99
          rcases bool_two (!(decide (24 ≤ x7_1))) with b100 | b100
          · have g101 : (decide (24 ≤ x7_1)) = false := (not_f b100)
            have d102 : s94 14 = (.bool (decide (24 ≤ x7_1))) := (hd98 2 rfl)
            have d103 : s94 14 = (.bool (decide (24 ≤ x7_1))) := (hd98 2 rfl)
            have d104 : s94 16 = (.bool (nodeOK (gt a0 x7_1))) := ((hd98 4 rfl).1 (not_mk (not_f b100)))
            exact L_op (.guard 2 false 14 rfl rfl (ltb rfl) (d102.trans (congrArg Value.bool g101))) rfl (ltb rfl) (X_not d104) <| L_nil <| stepEnd rfl rfl (Ext.refl w95) ⟨fun _ => rfl, fun h => absurd (b100.symm.trans h) (by decide)⟩
          · have d105 : s94 14 = (.bool (decide (24 ≤ x7_1))) := (hd98 2 rfl)
            have g106 : (decide (24 ≤ x7_1)) = true := (not_ff b100)
            exact L_skip rfl rfl (ltb rfl) (d105.trans (congrArg Value.bool g106)) rfl rfl (ltb rfl) <| L_nil <| stepEnd rfl rfl (Ext.refl w95) ⟨fun h => absurd (b100.symm.trans h) (by decide), fun _ => rfl⟩
        · intro s107 w108 e109 hf110 hd111 hu112
          rcases bool_two (decide (24 ≤ x7_1)) with b113 | b113
          · have d114 : s107 14 = (.bool (decide (24 ≤ x7_1))) := (hd111 2 rfl)
            exact L_op (.plain rfl) rfl (ltb rfl) (X_pick (b := true) (v := (.bool true)) (d114.trans (congrArg Value.bool b113)) rfl) <| L_nil <| stepEnd rfl rfl (Ext.refl w108) (by show _ = _; rw [b113]; rfl)
          · have d115 : s107 14 = (.bool (decide (24 ≤ x7_1))) := (hd111 2 rfl)
            have d116 : s107 17 = (.bool (!(nodeOK (gt a0 x7_1)))) := ((hd111 5 rfl).1 (not_mk b113))
            exact L_op (.plain rfl) rfl (ltb rfl) (X_pick (b := false) (v := (.bool (!(nodeOK (gt a0 x7_1))))) (d115.trans (congrArg Value.bool b113)) d116) <| L_nil <| stepEnd rfl rfl (Ext.refl w108) (by show _ = _; rw [b113]; rfl)
        · intro s117 w118 e119 hf120 hd121 hu122
          have d123 : s117 18 = (.bool ((decide (24 ≤ x7_1)) || (!(nodeOK (gt a0 x7_1))))) := (hd121 6 rfl)
          exact L_op (.plain rfl) rfl (ltb rfl) (X_move (v := (.bool ((decide (24 ≤ x7_1)) || (!(nodeOK (gt a0 x7_1)))))) d123) <| L_nil <| stepEnd rfl rfl (Ext.refl w118) rfl
        · intro s124 w125 e126 hf127 hd128 hu129
          rcases bool_two (!((decide (24 ≤ x7_1)) || (!(nodeOK (gt a0 x7_1))))) with b130 | b130
          · have g131 : ((decide (24 ≤ x7_1)) || (!(nodeOK (gt a0 x7_1)))) = false := (not_f b130)
            have d132 : s124 19 = (.bool ((decide (24 ≤ x7_1)) || (!(nodeOK (gt a0 x7_1))))) := (hd128 7 rfl)
            have d133 : s124 19 = (.bool ((decide (24 ≤ x7_1)) || (!(nodeOK (gt a0 x7_1))))) := (hd128 7 rfl)
            exact L_op (.guard 7 false 19 rfl rfl (ltb rfl) (d132.trans (congrArg Value.bool g131))) rfl (ltb rfl) (X_move (v := (.int .i64 x7_1)) (hf127 3 rfl)) <| L_nil <| stepEnd rfl rfl (Ext.refl w125) ⟨fun _ => rfl, fun h => absurd (b130.symm.trans h) (by decide)⟩
          · have d134 : s124 19 = (.bool ((decide (24 ≤ x7_1)) || (!(nodeOK (gt a0 x7_1))))) := (hd128 7 rfl)
            have g135 : ((decide (24 ≤ x7_1)) || (!(nodeOK (gt a0 x7_1)))) = true := (not_ff b130)
            exact L_skip rfl rfl (ltb rfl) (d134.trans (congrArg Value.bool g135)) rfl rfl (ltb rfl) <| L_nil <| stepEnd rfl rfl (Ext.refl w125) ⟨fun h => absurd (b130.symm.trans h) (by decide), fun _ => rfl⟩
        · intro s136 w137 e138 hf139 hd140 hu141
          rcases bool_two (!((decide (24 ≤ x7_1)) || (!(nodeOK (gt a0 x7_1))))) with b142 | b142
          · have g143 : ((decide (24 ≤ x7_1)) || (!(nodeOK (gt a0 x7_1)))) = false := (not_f b142)
            have d144 : s136 19 = (.bool ((decide (24 ≤ x7_1)) || (!(nodeOK (gt a0 x7_1))))) := (hd140 7 rfl)
            have d145 : s136 19 = (.bool ((decide (24 ≤ x7_1)) || (!(nodeOK (gt a0 x7_1))))) := (hd140 7 rfl)
            have d146 : s136 20 = (.int .i64 x7_1) := ((hd140 8 rfl).1 (not_mk (not_f b142)))
            exact L_op (.guard 7 false 19 rfl rfl (ltb rfl) (d144.trans (congrArg Value.bool g143))) rfl (ltb rfl) (X_gtr d146 rfl) <| L_nil <| stepEnd rfl rfl (Ext.refl w137) ⟨fun _ => rfl, fun h => absurd (b142.symm.trans h) (by decide)⟩
          · have d147 : s136 19 = (.bool ((decide (24 ≤ x7_1)) || (!(nodeOK (gt a0 x7_1))))) := (hd140 7 rfl)
            have g148 : ((decide (24 ≤ x7_1)) || (!(nodeOK (gt a0 x7_1)))) = true := (not_ff b142)
            exact L_skip rfl rfl (ltb rfl) (d147.trans (congrArg Value.bool g148)) rfl rfl (ltb rfl) <| L_nil <| stepEnd rfl rfl (Ext.refl w137) ⟨fun h => absurd (b142.symm.trans h) (by decide), fun _ => rfl⟩
        · intro s149 w150 e151 hf152 hd153 hu154
          rcases bool_two (!((decide (24 ≤ x7_1)) || (!(nodeOK (gt a0 x7_1))))) with b155 | b155
          · have g156 : ((decide (24 ≤ x7_1)) || (!(nodeOK (gt a0 x7_1)))) = false := (not_f b155)
            have d157 : s149 19 = (.bool ((decide (24 ≤ x7_1)) || (!(nodeOK (gt a0 x7_1))))) := (hd153 7 rfl)
            have d158 : s149 19 = (.bool ((decide (24 ≤ x7_1)) || (!(nodeOK (gt a0 x7_1))))) := (hd153 7 rfl)
            have d159 : s149 21 = (.bool (decide (0 < x7_1))) := ((hd153 9 rfl).1 (not_mk (not_f b155)))
            exact L_op (.guard 7 false 19 rfl rfl (ltb rfl) (d157.trans (congrArg Value.bool g156))) rfl (ltb rfl) (X_move (v := (.bool (decide (0 < x7_1)))) d159) <| L_nil <| stepEnd rfl rfl (Ext.refl w150) ⟨fun _ => rfl, fun h => absurd (b155.symm.trans h) (by decide)⟩
          · have d160 : s149 19 = (.bool ((decide (24 ≤ x7_1)) || (!(nodeOK (gt a0 x7_1))))) := (hd153 7 rfl)
            have g161 : ((decide (24 ≤ x7_1)) || (!(nodeOK (gt a0 x7_1)))) = true := (not_ff b155)
            exact L_skip rfl rfl (ltb rfl) (d160.trans (congrArg Value.bool g161)) rfl rfl (ltb rfl) <| L_nil <| stepEnd rfl rfl (Ext.refl w150) ⟨fun h => absurd (b155.symm.trans h) (by decide), fun _ => rfl⟩
        · intro s162 w163 e164 hf165 hd166 hu167
          rcases bool_two ((!((decide (24 ≤ x7_1)) || (!(nodeOK (gt a0 x7_1))))) && (decide (0 < x7_1))) with b168 | b168
          · have g169 : (decide (0 < x7_1)) = true := (and_r b168)
            have d170 : s162 22 = (.bool (decide (0 < x7_1))) := ((hd166 10 rfl).1 (not_mk (not_f (and_l b168))))
            have d171 : s162 22 = (.bool (decide (0 < x7_1))) := ((hd166 10 rfl).1 (not_mk (not_f (and_l b168))))
            exact L_op (.guard 10 true 22 rfl rfl (ltb rfl) (d170.trans (congrArg Value.bool g169))) rfl (ltb rfl) (X_move (v := v_a0) ((hf165 0 rfl).trans (K12 0 rfl))) <| L_nil <| stepEnd rfl rfl (Ext.refl w163) ⟨fun _ => rfl, fun h => absurd (b168.symm.trans h) (by decide)⟩
          · rcases bool_two (!((decide (24 ≤ x7_1)) || (!(nodeOK (gt a0 x7_1))))) with b172 | b172
            · have d173 : s162 22 = (.bool (decide (0 < x7_1))) := ((hd166 10 rfl).1 (not_mk (not_f b172)))
              have g174 : (decide (0 < x7_1)) = false := (and_fr b168 b172)
              exact L_skip rfl rfl (ltb rfl) (d173.trans (congrArg Value.bool g174)) rfl rfl (ltb rfl) <| L_nil <| stepEnd rfl rfl (Ext.refl w163) ⟨fun h => absurd (b168.symm.trans h) (by decide), fun _ => rfl⟩
            · exact L_skipU rfl rfl (ltb rfl) ((hd166 10 rfl).2 b172) rfl (ltb rfl) <| L_nil <| stepEnd rfl rfl (Ext.refl w163) ⟨fun h => absurd (b168.symm.trans h) (by decide), fun _ => rfl⟩
        · intro s175 w176 e177 hf178 hd179 hu180
          rcases bool_two ((!((decide (24 ≤ x7_1)) || (!(nodeOK (gt a0 x7_1))))) && (decide (0 < x7_1))) with b181 | b181
          · have g182 : (decide (0 < x7_1)) = true := (and_r b181)
            have d183 : s175 22 = (.bool (decide (0 < x7_1))) := ((hd179 10 rfl).1 (not_mk (not_f (and_l b181))))
            have d184 : s175 22 = (.bool (decide (0 < x7_1))) := ((hd179 10 rfl).1 (not_mk (not_f (and_l b181))))
            exact L_op (.guard 10 true 22 rfl rfl (ltb rfl) (d183.trans (congrArg Value.bool g182))) rfl (ltb rfl) (X_move (v := (.int .i64 x7_1)) (hf178 3 rfl)) <| L_nil <| stepEnd rfl rfl (Ext.refl w176) ⟨fun _ => rfl, fun h => absurd (b181.symm.trans h) (by decide)⟩
          · rcases bool_two (!((decide (24 ≤ x7_1)) || (!(nodeOK (gt a0 x7_1))))) with b185 | b185
            · have d186 : s175 22 = (.bool (decide (0 < x7_1))) := ((hd179 10 rfl).1 (not_mk (not_f b185)))
              have g187 : (decide (0 < x7_1)) = false := (and_fr b181 b185)
              exact L_skip rfl rfl (ltb rfl) (d186.trans (congrArg Value.bool g187)) rfl rfl (ltb rfl) <| L_nil <| stepEnd rfl rfl (Ext.refl w176) ⟨fun h => absurd (b181.symm.trans h) (by decide), fun _ => rfl⟩
            · exact L_skipU rfl rfl (ltb rfl) ((hd179 10 rfl).2 b185) rfl (ltb rfl) <| L_nil <| stepEnd rfl rfl (Ext.refl w176) ⟨fun h => absurd (b181.symm.trans h) (by decide), fun _ => rfl⟩
        · intro s188 w189 e190 hf191 hd192 hu193
          rcases bool_two ((!((decide (24 ≤ x7_1)) || (!(nodeOK (gt a0 x7_1))))) && (decide (0 < x7_1))) with b194 | b194
          · have g195 : (decide (0 < x7_1)) = true := (and_r b194)
            have d196 : s188 22 = (.bool (decide (0 < x7_1))) := ((hd192 10 rfl).1 (not_mk (not_f (and_l b194))))
            have d197 : s188 22 = (.bool (decide (0 < x7_1))) := ((hd192 10 rfl).1 (not_mk (not_f (and_l b194))))
            have d198 : s188 24 = (.int .i64 x7_1) := ((hd192 12 rfl).1 (and_mk (not_mk (not_f (and_l b194))) (and_r b194)))
            exact L_op (.guard 10 true 22 rfl rfl (ltb rfl) (d196.trans (congrArg Value.bool g195))) rfl (ltb rfl) (X_sub d198 rfl) <| L_nil <| stepEnd rfl rfl (Ext.refl w189) ⟨fun _ => rfl, fun h => absurd (b194.symm.trans h) (by decide)⟩
          · rcases bool_two (!((decide (24 ≤ x7_1)) || (!(nodeOK (gt a0 x7_1))))) with b199 | b199
            · have d200 : s188 22 = (.bool (decide (0 < x7_1))) := ((hd192 10 rfl).1 (not_mk (not_f b199)))
              have g201 : (decide (0 < x7_1)) = false := (and_fr b194 b199)
              exact L_skip rfl rfl (ltb rfl) (d200.trans (congrArg Value.bool g201)) rfl rfl (ltb rfl) <| L_nil <| stepEnd rfl rfl (Ext.refl w189) ⟨fun h => absurd (b194.symm.trans h) (by decide), fun _ => rfl⟩
            · exact L_skipU rfl rfl (ltb rfl) ((hd192 10 rfl).2 b199) rfl (ltb rfl) <| L_nil <| stepEnd rfl rfl (Ext.refl w189) ⟨fun h => absurd (b194.symm.trans h) (by decide), fun _ => rfl⟩
        · intro s202 w203 e204 hf205 hd206 hu207
          rcases bool_two ((!((decide (24 ≤ x7_1)) || (!(nodeOK (gt a0 x7_1))))) && (decide (0 < x7_1))) with b208 | b208
          · have g209 : (decide (0 < x7_1)) = true := (and_r b208)
            have d210 : s202 22 = (.bool (decide (0 < x7_1))) := ((hd206 10 rfl).1 (not_mk (not_f (and_l b208))))
            have d211 : s202 22 = (.bool (decide (0 < x7_1))) := ((hd206 10 rfl).1 (not_mk (not_f (and_l b208))))
            have d212 : s202 23 = v_a0 := ((hd206 11 rfl).1 (and_mk (not_mk (not_f (and_l b208))) (and_r b208)))
            have d213 : s202 25 = (.int .i64 (IntKind.wrap .i64 (x7_1 - 1))) := ((hd206 13 rfl).1 (and_mk (not_mk (not_f (and_l b208))) (and_r b208)))
            have c214 := imp_take b208 c33
            exact L_idx (.guard 10 true 22 rfl rfl (ltb rfl) (d210.trans (congrArg Value.bool g209))) rfl (ltb rfl) rfl Tryd.underlying39 Tryd.sizeOf64 d212 (Rd.ext f_a0 (Ext.trans (Ext.trans e13 (Below.trans e26 (Wr.below h29 (Nat.le_of_eq z24)))) e204)) d213 c214 <| fun p215 h216 => L_nil <| stepEnd rfl rfl (Ext.refl w203) ⟨fun _ => ⟨_, rfl, h216⟩, fun h => absurd (b208.symm.trans h) (by decide)⟩
          · rcases bool_two (!((decide (24 ≤ x7_1)) || (!(nodeOK (gt a0 x7_1))))) with b217 | b217
            · have d218 : s202 22 = (.bool (decide (0 < x7_1))) := ((hd206 10 rfl).1 (not_mk (not_f b217)))
              have g219 : (decide (0 < x7_1)) = false := (and_fr b208 b217)
              exact L_skip rfl rfl (ltb rfl) (d218.trans (congrArg Value.bool g219)) rfl rfl (ltb rfl) <| L_nil <| stepEnd rfl rfl (Ext.refl w203) ⟨fun h => absurd (b208.symm.trans h) (by decide), fun _ => rfl⟩
            · exact L_skipU rfl rfl (ltb rfl) ((hd206 10 rfl).2 b217) rfl (ltb rfl) <| L_nil <| stepEnd rfl rfl (Ext.refl w203) ⟨fun h => absurd (b208.symm.trans h) (by decide), fun _ => rfl⟩
        · intro s220 w221 e222 hf223 hd224 hu225
          rcases bool_two ((!((decide (24 ≤ x7_1)) || (!(nodeOK (gt a0 x7_1))))) && (decide (0 < x7_1))) with b226 | b226
          · have g227 : (decide (0 < x7_1)) = true := (and_r b226)
            have d228 : s220 22 = (.bool (decide (0 < x7_1))) := ((hd224 10 rfl).1 (not_mk (not_f (and_l b226))))
            have d229 : s220 22 = (.bool (decide (0 < x7_1))) := ((hd224 10 rfl).1 (not_mk (not_f (and_l b226))))
            obtain ⟨p230, h231, h232⟩ := ((hd224 14 rfl).1 (and_mk (not_mk (not_f (and_l b226))) (and_r b226)))
            exact L_op (.guard 10 true 22 rfl rfl (ltb rfl) (d228.trans (congrArg Value.bool g227))) rfl (ltb rfl) (X_fieldAddr Tryd.underlying64 rfl Tryd.sizeOf9 rfl h231) <| L_nil <| stepEnd rfl rfl (Ext.refl w221) ⟨fun _ => ⟨_, rfl, h232⟩, fun h => absurd (b226.symm.trans h) (by decide)⟩
          · rcases bool_two (!((decide (24 ≤ x7_1)) || (!(nodeOK (gt a0 x7_1))))) with b233 | b233
            · have d234 : s220 22 = (.bool (decide (0 < x7_1))) := ((hd224 10 rfl).1 (not_mk (not_f b233)))
              have g235 : (decide (0 < x7_1)) = false := (and_fr b226 b233)
              exact L_skip rfl rfl (ltb rfl) (d234.trans (congrArg Value.bool g235)) rfl rfl (ltb rfl) <| L_nil <| stepEnd rfl rfl (Ext.refl w221) ⟨fun h => absurd (b226.symm.trans h) (by decide), fun _ => rfl⟩
            · exact L_skipU rfl rfl (ltb rfl) ((hd224 10 rfl).2 b233) rfl (ltb rfl) <| L_nil <| stepEnd rfl rfl (Ext.refl w221) ⟨fun h => absurd (b226.symm.trans h) (by decide), fun _ => rfl⟩
        · intro s236 w237 e238 hf239 hd240 hu241
          rcases bool_two ((!((decide (24 ≤ x7_1)) || (!(nodeOK (gt a0 x7_1))))) && (decide (0 < x7_1))) with b242 | b242
          · have g243 : (decide (0 < x7_1)) = true := (and_r b242)
            have d244 : s236 22 = (.bool (decide (0 < x7_1))) := ((hd240 10 rfl).1 (not_mk (not_f (and_l b242))))
            have d245 : s236 22 = (.bool (decide (0 < x7_1))) := ((hd240 10 rfl).1 (not_mk (not_f (and_l b242))))
            obtain ⟨p246, h247, h248⟩ := ((hd240 15 rfl).1 (and_mk (not_mk (not_f (and_l b242))) (and_r b242)))
            exact L_op (.guard 10 true 22 rfl rfl (ltb rfl) (d244.trans (congrArg Value.bool g243))) rfl (ltb rfl) (X_loadF Tryd.isAgg9 (j := 1) h248 h247 rfl) <| L_nil <| stepEnd rfl rfl (Ext.refl w237) ⟨fun _ => rfl, fun h => absurd (b242.symm.trans h) (by decide)⟩
          · rcases bool_two (!((decide (24 ≤ x7_1)) || (!(nodeOK (gt a0 x7_1))))) with b249 | b249
            · have d250 : s236 22 = (.bool (decide (0 < x7_1))) := ((hd240 10 rfl).1 (not_mk (not_f b249)))
              have g251 : (decide (0 < x7_1)) = false := (and_fr b242 b249)
              exact L_skip rfl rfl (ltb rfl) (d250.trans (congrArg Value.bool g251)) rfl rfl (ltb rfl) <| L_nil <| stepEnd rfl rfl (Ext.refl w237) ⟨fun h => absurd (b242.symm.trans h) (by decide), fun _ => rfl⟩
            · exact L_skipU rfl rfl (ltb rfl) ((hd240 10 rfl).2 b249) rfl (ltb rfl) <| L_nil <| stepEnd rfl rfl (Ext.refl w237) ⟨fun h => absurd (b242.symm.trans h) (by decide), fun _ => rfl⟩
        · intro s252 w253 e254 hf255 hd256 hu257
          rcases bool_two ((!((decide (24 ≤ x7_1)) || (!(nodeOK (gt a0 x7_1))))) && (decide (0 < x7_1))) with b258 | b258
          · have g259 : (decide (0 < x7_1)) = true := (and_r b258)
            have d260 : s252 22 = (.bool (decide (0 < x7_1))) := ((hd256 10 rfl).1 (not_mk (not_f (and_l b258))))
            have d261 : s252 22 = (.bool (decide (0 < x7_1))) := ((hd256 10 rfl).1 (not_mk (not_f (and_l b258))))
            exact L_op (.guard 10 true 22 rfl rfl (ltb rfl) (d260.trans (congrArg Value.bool g259))) rfl (ltb rfl) (X_fieldAddr Tryd.underlying64 rfl Tryd.sizeOf9 rfl (hf255 4 rfl)) <| L_nil <| stepEnd rfl rfl (Ext.refl w253) ⟨fun _ => rfl, fun h => absurd (b258.symm.trans h) (by decide)⟩
          · rcases bool_two (!((decide (24 ≤ x7_1)) || (!(nodeOK (gt a0 x7_1))))) with b262 | b262
            · have d263 : s252 22 = (.bool (decide (0 < x7_1))) := ((hd256 10 rfl).1 (not_mk (not_f b262)))
              have g264 : (decide (0 < x7_1)) = false := (and_fr b258 b262)
              exact L_skip rfl rfl (ltb rfl) (d263.trans (congrArg Value.bool g264)) rfl rfl (ltb rfl) <| L_nil <| stepEnd rfl rfl (Ext.refl w253) ⟨fun h => absurd (b258.symm.trans h) (by decide), fun _ => rfl⟩
            · exact L_skipU rfl rfl (ltb rfl) ((hd256 10 rfl).2 b262) rfl (ltb rfl) <| L_nil <| stepEnd rfl rfl (Ext.refl w253) ⟨fun h => absurd (b258.symm.trans h) (by decide), fun _ => rfl⟩
        · intro s265 w266 e267 hf268 hd269 hu270
          rcases bool_two ((!((decide (24 ≤ x7_1)) || (!(nodeOK (gt a0 x7_1))))) && (decide (0 < x7_1))) with b271 | b271
          · have g272 : (decide (0 < x7_1)) = true := (and_r b271)
            have d273 : s265 22 = (.bool (decide (0 < x7_1))) := ((hd269 10 rfl).1 (not_mk (not_f (and_l b271))))
            have d274 : s265 22 = (.bool (decide (0 < x7_1))) := ((hd269 10 rfl).1 (not_mk (not_f (and_l b271))))
            have d275 : s265 29 = (.pointer (some ⟨b22, 1, none⟩)) := ((hd269 17 rfl).1 (and_mk (not_mk (not_f (and_l b271))) (and_r b271)))
            exact L_op (.guard 10 true 22 rfl rfl (ltb rfl) (d273.trans (congrArg Value.bool g272))) rfl (ltb rfl) (X_loadB Tryd.isAgg9 (Blk.ext k30 e267) d275 rfl) <| L_nil <| stepEnd rfl rfl (Ext.refl w266) ⟨fun _ => rfl, fun h => absurd (b271.symm.trans h) (by decide)⟩
          · rcases bool_two (!((decide (24 ≤ x7_1)) || (!(nodeOK (gt a0 x7_1))))) with b276 | b276
            · have d277 : s265 22 = (.bool (decide (0 < x7_1))) := ((hd269 10 rfl).1 (not_mk (not_f b276)))
              have g278 : (decide (0 < x7_1)) = false := (and_fr b271 b276)
              exact L_skip rfl rfl (ltb rfl) (d277.trans (congrArg Value.bool g278)) rfl rfl (ltb rfl) <| L_nil <| stepEnd rfl rfl (Ext.refl w266) ⟨fun h => absurd (b271.symm.trans h) (by decide), fun _ => rfl⟩
            · exact L_skipU rfl rfl (ltb rfl) ((hd269 10 rfl).2 b276) rfl (ltb rfl) <| L_nil <| stepEnd rfl rfl (Ext.refl w266) ⟨fun h => absurd (b271.symm.trans h) (by decide), fun _ => rfl⟩
        · intro s279 w280 e281 hf282 hd283 hu284
          rcases bool_two ((!((decide (24 ≤ x7_1)) || (!(nodeOK (gt a0 x7_1))))) && (decide (0 < x7_1))) with b285 | b285
          · have g286 : (decide (0 < x7_1)) = true := (and_r b285)
            have d287 : s279 22 = (.bool (decide (0 < x7_1))) := ((hd283 10 rfl).1 (not_mk (not_f (and_l b285))))
            have d288 : s279 22 = (.bool (decide (0 < x7_1))) := ((hd283 10 rfl).1 (not_mk (not_f (and_l b285))))
            have d289 : s279 28 = (S ((gt a0 (IntKind.wrap .i64 (x7_1 - 1))).path)) := ((hd283 16 rfl).1 (and_mk (not_mk (not_f (and_l b285))) (and_r b285)))
            have d290 : s279 30 = (S ((gt a0 x7_1).path)) := ((hd283 18 rfl).1 (and_mk (not_mk (not_f (and_l b285))) (and_r b285)))
            exact L_callP (.guard 10 true 22 rfl rfl (ltb rfl) (d287.trans (congrArg Value.bool g286))) rfl (ltb rfl) rfl Tryd.call58 (impl_PathLess.calls (w := w280) (a0 := (gt a0 (IntKind.wrap .i64 (x7_1 - 1))).path) (a1 := (gt a0 x7_1).path) (GV.ext gv (Ext.trans (Ext.trans e13 (Below.trans e26 (Wr.below h29 (Nat.le_of_eq z24)))) e281))) (cons2 d289 (cons2 d290 rfl)) <| fun w291 e292 => L_nil <| stepEnd rfl rfl e292 ⟨fun _ => rfl, fun h => absurd (b285.symm.trans h) (by decide)⟩
          · rcases bool_two (!((decide (24 ≤ x7_1)) || (!(nodeOK (gt a0 x7_1))))) with b293 | b293
            · have d294 : s279 22 = (.bool (decide (0 < x7_1))) := ((hd283 10 rfl).1 (not_mk (not_f b293)))
              have g295 : (decide (0 < x7_1)) = false := (and_fr b285 b293)
              exact L_skip rfl rfl (ltb rfl) (d294.trans (congrArg Value.bool g295)) rfl rfl (ltb rfl) <| L_nil <| stepEnd rfl rfl (Ext.refl w280) ⟨fun h => absurd (b285.symm.trans h) (by decide), fun _ => rfl⟩
            · exact L_skipU rfl rfl (ltb rfl) ((hd283 10 rfl).2 b293) rfl (ltb rfl) <| L_nil <| stepEnd rfl rfl (Ext.refl w280) ⟨fun h => absurd (b285.symm.trans h) (by decide), fun _ => rfl⟩
        · intro s296 w297 e298 hf299 hd300 hu301
          rcases bool_two ((!((decide (24 ≤ x7_1)) || (!(nodeOK (gt a0 x7_1))))) && (decide (0 < x7_1))) with b302 | b302
          · have g303 : (decide (0 < x7_1)) = true := (and_r b302)
            have d304 : s296 22 = (.bool (decide (0 < x7_1))) := ((hd300 10 rfl).1 (not_mk (not_f (and_l b302))))
            have d305 : s296 22 = (.bool (decide (0 < x7_1))) := ((hd300 10 rfl).1 (not_mk (not_f (and_l b302))))
            have d306 : s296 31 = (.bool (pathLess ((gt a0 (IntKind.wrap .i64 (x7_1 - 1))).path) ((gt a0 x7_1).path))) := ((hd300 19 rfl).1 (and_mk (not_mk (not_f (and_l b302))) (and_r b302)))
            exact L_op (.guard 10 true 22 rfl rfl (ltb rfl) (d304.trans (congrArg Value.bool g303))) rfl (ltb rfl) (X_not d306) <| L_nil <| stepEnd rfl rfl (Ext.refl w297) ⟨fun _ => rfl, fun h => absurd (b302.symm.trans h) (by decide)⟩
          · rcases bool_two (!((decide (24 ≤ x7_1)) || (!(nodeOK (gt a0 x7_1))))) with b307 | b307
            · have d308 : s296 22 = (.bool (decide (0 < x7_1))) := ((hd300 10 rfl).1 (not_mk (not_f b307)))
              have g309 : (decide (0 < x7_1)) = false := (and_fr b302 b307)
              exact L_skip rfl rfl (ltb rfl) (d308.trans (congrArg Value.bool g309)) rfl rfl (ltb rfl) <| L_nil <| stepEnd rfl rfl (Ext.refl w297) ⟨fun h => absurd (b302.symm.trans h) (by decide), fun _ => rfl⟩
            · exact L_skipU rfl rfl (ltb rfl) ((hd300 10 rfl).2 b307) rfl (ltb rfl) <| L_nil <| stepEnd rfl rfl (Ext.refl w297) ⟨fun h => absurd (b302.symm.trans h) (by decide), fun _ => rfl⟩
        · intro s310 w311 e312 hf313 hd314 hu315
          rcases bool_two (!((decide (24 ≤ x7_1)) || (!(nodeOK (gt a0 x7_1))))) with b316 | b316
          · have g317 : ((decide (24 ≤ x7_1)) || (!(nodeOK (gt a0 x7_1)))) = false := (not_f b316)
            have d318 : s310 19 = (.bool ((decide (24 ≤ x7_1)) || (!(nodeOK (gt a0 x7_1))))) := (hd314 7 rfl)
            rcases bool_two (decide (0 < x7_1)) with b319 | b319
            · have d320 : s310 22 = (.bool (decide (0 < x7_1))) := ((hd314 10 rfl).1 (not_mk (not_f b316)))
              have d321 : s310 32 = (.bool (!(pathLess ((gt a0 (IntKind.wrap .i64 (x7_1 - 1))).path) ((gt a0 x7_1).path)))) := ((hd314 20 rfl).1 (and_mk (not_mk (not_f b316)) b319))
              exact L_op (.guard 7 false 19 rfl rfl (ltb rfl) (d318.trans (congrArg Value.bool g317))) rfl (ltb rfl) (X_pick (b := true) (v := (.bool (!(pathLess ((gt a0 (IntKind.wrap .i64 (x7_1 - 1))).path) ((gt a0 x7_1).path))))) (d320.trans (congrArg Value.bool b319)) d321) <| L_nil <| stepEnd rfl rfl (Ext.refl w311) ⟨fun _ => (by show _ = _; rw [b319]; rfl), fun h => absurd (b316.symm.trans h) (by decide)⟩
            · have d322 : s310 22 = (.bool (decide (0 < x7_1))) := ((hd314 10 rfl).1 (not_mk (not_f b316)))
              exact L_op (.guard 7 false 19 rfl rfl (ltb rfl) (d318.trans (congrArg Value.bool g317))) rfl (ltb rfl) (X_pick (b := false) (v := (.bool false)) (d322.trans (congrArg Value.bool b319)) rfl) <| L_nil <| stepEnd rfl rfl (Ext.refl w311) ⟨fun _ => (by show _ = _; rw [b319]; rfl), fun h => absurd (b316.symm.trans h) (by decide)⟩
          · have d323 : s310 19 = (.bool ((decide (24 ≤ x7_1)) || (!(nodeOK (gt a0 x7_1))))) := (hd314 7 rfl)
            have g324 : ((decide (24 ≤ x7_1)) || (!(nodeOK (gt a0 x7_1)))) = true := (not_ff b316)
            exact L_skip rfl rfl (ltb rfl) (d323.trans (congrArg Value.bool g324)) rfl rfl (ltb rfl) <| L_nil <| stepEnd rfl rfl (Ext.refl w311) ⟨fun h => absurd (b316.symm.trans h) (by decide), fun _ => rfl⟩
        · intro s325 w326 e327 hf328 hd329 hu330
          rcases bool_two ((decide (24 ≤ x7_1)) || (!(nodeOK (gt a0 x7_1)))) with b331 | b331
          · have d332 : s325 19 = (.bool ((decide (24 ≤ x7_1)) || (!(nodeOK (gt a0 x7_1))))) := (hd329 7 rfl)
            exact L_op (.plain rfl) rfl (ltb rfl) (X_pick (b := true) (v := (.bool true)) (d332.trans (congrArg Value.bool b331)) rfl) <| L_nil <| stepEnd rfl rfl (Ext.refl w326) (by show _ = _; rw [b331]; rfl)
          · have d333 : s325 19 = (.bool ((decide (24 ≤ x7_1)) || (!(nodeOK (gt a0 x7_1))))) := (hd329 7 rfl)
            have d334 : s325 33 = (.bool ((decide (0 < x7_1)) && (!(pathLess ((gt a0 (IntKind.wrap .i64 (x7_1 - 1))).path) ((gt a0 x7_1).path))))) := ((hd329 21 rfl).1 (not_mk b331))
            exact L_op (.plain rfl) rfl (ltb rfl) (X_pick (b := false) (v := (.bool ((decide (0 < x7_1)) && (!(pathLess ((gt a0 (IntKind.wrap .i64 (x7_1 - 1))).path) ((gt a0 x7_1).path)))))) (d333.trans (congrArg Value.bool b331)) d334) <| L_nil <| stepEnd rfl rfl (Ext.refl w326) (by show _ = _; rw [b331]; rfl)
        · intro s335 w336 e337 hf338 hd339 hu340
          have d341 : s335 34 = (.bool (((decide (24 ≤ x7_1)) || (!(nodeOK (gt a0 x7_1)))) || ((decide (0 < x7_1)) && (!(pathLess ((gt a0 (IntKind.wrap .i64 (x7_1 - 1))).path) ((gt a0 x7_1).path)))))) := (hd339 22 rfl)
          exact L_op (.plain rfl) rfl (ltb rfl) (X_move d341) <| L_nil <| stepEnd rfl rfl (Ext.refl w336) rfl
        · intro s342 w343 e344 hf345 hd346 hu347
          rcases bool_two (!(((decide (24 ≤ x7_1)) || (!(nodeOK (gt a0 x7_1)))) || ((decide (0 < x7_1)) && (!(pathLess ((gt a0 (IntKind.wrap .i64 (x7_1 - 1))).path) ((gt a0 x7_1).path)))))) with b348 | b348
          · have g349 : (((decide (24 ≤ x7_1)) || (!(nodeOK (gt a0 x7_1)))) || ((decide (0 < x7_1)) && (!(pathLess ((gt a0 (IntKind.wrap .i64 (x7_1 - 1))).path) ((gt a0 x7_1).path))))) = false := (not_f b348)
            have d350 : s342 35 = (.bool (((decide (24 ≤ x7_1)) || (!(nodeOK (gt a0 x7_1)))) || ((decide (0 < x7_1)) && (!(pathLess ((gt a0 (IntKind.wrap .i64 (x7_1 - 1))).path) ((gt a0 x7_1).path)))))) := (hd346 23 rfl)
            have d351 : s342 35 = (.bool (((decide (24 ≤ x7_1)) || (!(nodeOK (gt a0 x7_1)))) || ((decide (0 < x7_1)) && (!(pathLess ((gt a0 (IntKind.wrap .i64 (x7_1 - 1))).path) ((gt a0 x7_1).path)))))) := (hd346 23 rfl)
            exact L_op (.guard 23 false 35 rfl rfl (ltb rfl) (d350.trans (congrArg Value.bool g349))) rfl (ltb rfl) (X_move (v := v_a0) ((hf345 0 rfl).trans (K12 0 rfl))) <| L_nil <| stepEnd rfl rfl (Ext.refl w343) ⟨fun _ => rfl, fun h => absurd (b348.symm.trans h) (by decide)⟩
          · have d352 : s342 35 = (.bool (((decide (24 ≤ x7_1)) || (!(nodeOK (gt a0 x7_1)))) || ((decide (0 < x7_1)) && (!(pathLess ((gt a0 (IntKind.wrap .i64 (x7_1 - 1))).path) ((gt a0 x7_1).path)))))) := (hd346 23 rfl)
            have g353 : (((decide (24 ≤ x7_1)) || (!(nodeOK (gt a0 x7_1)))) || ((decide (0 < x7_1)) && (!(pathLess ((gt a0 (IntKind.wrap .i64 (x7_1 - 1))).path) ((gt a0 x7_1).path))))) = true := (not_ff b348)
            exact L_skip rfl rfl (ltb rfl) (d352.trans (congrArg Value.bool g353)) rfl rfl (ltb rfl) <| L_nil <| stepEnd rfl rfl (Ext.refl w343) ⟨fun h => absurd (b348.symm.trans h) (by decide), fun _ => rfl⟩
        · intro s354 w355 e356 hf357 hd358 hu359
          rcases bool_two (!(((decide (24 ≤ x7_1)) || (!(nodeOK (gt a0 x7_1)))) || ((decide (0 < x7_1)) && (!(pathLess ((gt a0 (IntKind.wrap .i64 (x7_1 - 1))).path) ((gt a0 x7_1).path)))))) with b360 | b360
          · have g361 : (((decide (24 ≤ x7_1)) || (!(nodeOK (gt a0 x7_1)))) || ((decide (0 < x7_1)) && (!(pathLess ((gt a0 (IntKind.wrap .i64 (x7_1 - 1))).path) ((gt a0 x7_1).path))))) = false := (not_f b360)
            have d362 : s354 35 = (.bool (((decide (24 ≤ x7_1)) || (!(nodeOK (gt a0 x7_1)))) || ((decide (0 < x7_1)) && (!(pathLess ((gt a0 (IntKind.wrap .i64 (x7_1 - 1))).path) ((gt a0 x7_1).path)))))) := (hd358 23 rfl)
            have d363 : s354 35 = (.bool (((decide (24 ≤ x7_1)) || (!(nodeOK (gt a0 x7_1)))) || ((decide (0 < x7_1)) && (!(pathLess ((gt a0 (IntKind.wrap .i64 (x7_1 - 1))).path) ((gt a0 x7_1).path)))))) := (hd358 23 rfl)
            exact L_op (.guard 23 false 35 rfl rfl (ltb rfl) (d362.trans (congrArg Value.bool g361))) rfl (ltb rfl) (X_move (v := (.int .i64 x7_1)) (hf357 3 rfl)) <| L_nil <| stepEnd rfl rfl (Ext.refl w355) ⟨fun _ => rfl, fun h => absurd (b360.symm.trans h) (by decide)⟩
          · have d364 : s354 35 = (.bool (((decide (24 ≤ x7_1)) || (!(nodeOK (gt a0 x7_1)))) || ((decide (0 < x7_1)) && (!(pathLess ((gt a0 (IntKind.wrap .i64 (x7_1 - 1))).path) ((gt a0 x7_1).path)))))) := (hd358 23 rfl)
            have g365 : (((decide (24 ≤ x7_1)) || (!(nodeOK (gt a0 x7_1)))) || ((decide (0 < x7_1)) && (!(pathLess ((gt a0 (IntKind.wrap .i64 (x7_1 - 1))).path) ((gt a0 x7_1).path))))) = true := (not_ff b360)
            exact L_skip rfl rfl (ltb rfl) (d364.trans (congrArg Value.bool g365)) rfl rfl (ltb rfl) <| L_nil <| stepEnd rfl rfl (Ext.refl w355) ⟨fun h => absurd (b360.symm.trans h) (by decide), fun _ => rfl⟩
        · intro s366 w367 e368 hf369 hd370 hu371
          rcases bool_two (!(((decide (24 ≤ x7_1)) || (!(nodeOK (gt a0 x7_1)))) || ((decide (0 < x7_1)) && (!(pathLess ((gt a0 (IntKind.wrap .i64 (x7_1 - 1))).path) ((gt a0 x7_1).path)))))) with b372 | b372
          · have g373 : (((decide (24 ≤ x7_1)) || (!(nodeOK (gt a0 x7_1)))) || ((decide (0 < x7_1)) && (!(pathLess ((gt a0 (IntKind.wrap .i64 (x7_1 - 1))).path) ((gt a0 x7_1).path))))) = false := (not_f b372)
            have d374 : s366 35 = (.bool (((decide (24 ≤ x7_1)) || (!(nodeOK (gt a0 x7_1)))) || ((decide (0 < x7_1)) && (!(pathLess ((gt a0 (IntKind.wrap .i64 (x7_1 - 1))).path) ((gt a0 x7_1).path)))))) := (hd370 23 rfl)
            have d375 : s366 35 = (.bool (((decide (24 ≤ x7_1)) || (!(nodeOK (gt a0 x7_1)))) || ((decide (0 < x7_1)) && (!(pathLess ((gt a0 (IntKind.wrap .i64 (x7_1 - 1))).path) ((gt a0 x7_1).path)))))) := (hd370 23 rfl)
            have d376 : s366 36 = v_a0 := ((hd370 24 rfl).1 (not_mk (not_f b372)))
            have d377 : s366 37 = (.int .i64 x7_1) := ((hd370 25 rfl).1 (not_mk (not_f b372)))
            have c378 := imp_take b372 c38
            exact L_sub (.guard 23 false 35 rfl rfl (ltb rfl) (d374.trans (congrArg Value.bool g373))) rfl (ltb rfl) rfl Tryd.underlying39 Tryd.sizeOf64 d376 (Rd.ext f_a0 (Ext.trans (Ext.trans e13 (Below.trans e26 (Wr.below h29 (Nat.le_of_eq z24)))) e368)) (l := 0) (h := x7_1) rfl ⟨_, d377⟩ c378 <| fun v379 h380 => L_nil <| stepEnd rfl rfl (Ext.refl w367) ⟨fun _ => h380, fun h => absurd (b372.symm.trans h) (by decide)⟩
          · have d381 : s366 35 = (.bool (((decide (24 ≤ x7_1)) || (!(nodeOK (gt a0 x7_1)))) || ((decide (0 < x7_1)) && (!(pathLess ((gt a0 (IntKind.wrap .i64 (x7_1 - 1))).path) ((gt a0 x7_1).path)))))) := (hd370 23 rfl)
            have g382 : (((decide (24 ≤ x7_1)) || (!(nodeOK (gt a0 x7_1)))) || ((decide (0 < x7_1)) && (!(pathLess ((gt a0 (IntKind.wrap .i64 (x7_1 - 1))).path) ((gt a0 x7_1).path))))) = true := (not_ff b372)
            exact L_skip rfl rfl (ltb rfl) (d381.trans (congrArg Value.bool g382)) rfl rfl (ltb rfl) <| L_nil <| stepEnd rfl rfl (Ext.refl w367) ⟨fun h => absurd (b372.symm.trans h) (by decide), fun _ => rfl⟩
        · intro s383 w384 e385 hf386 hd387 hu388
          rcases bool_two (!(((decide (24 ≤ x7_1)) || (!(nodeOK (gt a0 x7_1)))) || ((decide (0 < x7_1)) && (!(pathLess ((gt a0 (IntKind.wrap .i64 (x7_1 - 1))).path) ((gt a0 x7_1).path)))))) with b389 | b389
          · have g390 : (((decide (24 ≤ x7_1)) || (!(nodeOK (gt a0 x7_1)))) || ((decide (0 < x7_1)) && (!(pathLess ((gt a0 (IntKind.wrap .i64 (x7_1 - 1))).path) ((gt a0 x7_1).path))))) = false := (not_f b389)
            have d391 : s383 35 = (.bool (((decide (24 ≤ x7_1)) || (!(nodeOK (gt a0 x7_1)))) || ((decide (0 < x7_1)) && (!(pathLess ((gt a0 (IntKind.wrap .i64 (x7_1 - 1))).path) ((gt a0 x7_1).path)))))) := (hd387 23 rfl)
            have d392 : s383 35 = (.bool (((decide (24 ≤ x7_1)) || (!(nodeOK (gt a0 x7_1)))) || ((decide (0 < x7_1)) && (!(pathLess ((gt a0 (IntKind.wrap .i64 (x7_1 - 1))).path) ((gt a0 x7_1).path)))))) := (hd387 23 rfl)
            exact L_op (.guard 23 false 35 rfl rfl (ltb rfl) (d391.trans (congrArg Value.bool g390))) rfl (ltb rfl) (X_fieldAddr Tryd.underlying64 rfl Tryd.sizeOf9 rfl (hf386 4 rfl)) <| L_nil <| stepEnd rfl rfl (Ext.refl w384) ⟨fun _ => rfl, fun h => absurd (b389.symm.trans h) (by decide)⟩
          · have d393 : s383 35 = (.bool (((decide (24 ≤ x7_1)) || (!(nodeOK (gt a0 x7_1)))) || ((decide (0 < x7_1)) && (!(pathLess ((gt a0 (IntKind.wrap .i64 (x7_1 - 1))).path) ((gt a0 x7_1).path)))))) := (hd387 23 rfl)
            have g394 : (((decide (24 ≤ x7_1)) || (!(nodeOK (gt a0 x7_1)))) || ((decide (0 < x7_1)) && (!(pathLess ((gt a0 (IntKind.wrap .i64 (x7_1 - 1))).path) ((gt a0 x7_1).path))))) = true := (not_ff b389)
            exact L_skip rfl rfl (ltb rfl) (d393.trans (congrArg Value.bool g394)) rfl rfl (ltb rfl) <| L_nil <| stepEnd rfl rfl (Ext.refl w384) ⟨fun h => absurd (b389.symm.trans h) (by decide), fun _ => rfl⟩
        · intro s395 w396 e397 hf398 hd399 hu400
          rcases bool_two (!(((decide (24 ≤ x7_1)) || (!(nodeOK (gt a0 x7_1)))) || ((decide (0 < x7_1)) && (!(pathLess ((gt a0 (IntKind.wrap .i64 (x7_1 - 1))).path) ((gt a0 x7_1).path)))))) with b401 | b401
          · have g402 : (((decide (24 ≤ x7_1)) || (!(nodeOK (gt a0 x7_1)))) || ((decide (0 < x7_1)) && (!(pathLess ((gt a0 (IntKind.wrap .i64 (x7_1 - 1))).path) ((gt a0 x7_1).path))))) = false := (not_f b401)
            have d403 : s395 35 = (.bool (((decide (24 ≤ x7_1)) || (!(nodeOK (gt a0 x7_1)))) || ((decide (0 < x7_1)) && (!(pathLess ((gt a0 (IntKind.wrap .i64 (x7_1 - 1))).path) ((gt a0 x7_1).path)))))) := (hd399 23 rfl)
            have d404 : s395 35 = (.bool (((decide (24 ≤ x7_1)) || (!(nodeOK (gt a0 x7_1)))) || ((decide (0 < x7_1)) && (!(pathLess ((gt a0 (IntKind.wrap .i64 (x7_1 - 1))).path) ((gt a0 x7_1).path)))))) := (hd399 23 rfl)
            have d405 : s395 39 = (.pointer (some ⟨b22, 1, none⟩)) := ((hd399 27 rfl).1 (not_mk (not_f b401)))
            exact L_op (.guard 23 false 35 rfl rfl (ltb rfl) (d403.trans (congrArg Value.bool g402))) rfl (ltb rfl) (X_loadB Tryd.isAgg9 (Blk.ext k30 e397) d405 rfl) <| L_nil <| stepEnd rfl rfl (Ext.refl w396) ⟨fun _ => rfl, fun h => absurd (b401.symm.trans h) (by decide)⟩
          · have d406 : s395 35 = (.bool (((decide (24 ≤ x7_1)) || (!(nodeOK (gt a0 x7_1)))) || ((decide (0 < x7_1)) && (!(pathLess ((gt a0 (IntKind.wrap .i64 (x7_1 - 1))).path) ((gt a0 x7_1).path)))))) := (hd399 23 rfl)
            have g407 : (((decide (24 ≤ x7_1)) || (!(nodeOK (gt a0 x7_1)))) || ((decide (0 < x7_1)) && (!(pathLess ((gt a0 (IntKind.wrap .i64 (x7_1 - 1))).path) ((gt a0 x7_1).path))))) = true := (not_ff b401)
            exact L_skip rfl rfl (ltb rfl) (d406.trans (congrArg Value.bool g407)) rfl rfl (ltb rfl) <| L_nil <| stepEnd rfl rfl (Ext.refl w396) ⟨fun h => absurd (b401.symm.trans h) (by decide), fun _ => rfl⟩
        · intro s408 w409 e410 hf411 hd412 hu413
          rcases bool_two (!(((decide (24 ≤ x7_1)) || (!(nodeOK (gt a0 x7_1)))) || ((decide (0 < x7_1)) && (!(pathLess ((gt a0 (IntKind.wrap .i64 (x7_1 - 1))).path) ((gt a0 x7_1).path)))))) with b414 | b414
          · have g415 : (((decide (24 ≤ x7_1)) || (!(nodeOK (gt a0 x7_1)))) || ((decide (0 < x7_1)) && (!(pathLess ((gt a0 (IntKind.wrap .i64 (x7_1 - 1))).path) ((gt a0 x7_1).path))))) = false := (not_f b414)
            have d416 : s408 35 = (.bool (((decide (24 ≤ x7_1)) || (!(nodeOK (gt a0 x7_1)))) || ((decide (0 < x7_1)) && (!(pathLess ((gt a0 (IntKind.wrap .i64 (x7_1 - 1))).path) ((gt a0 x7_1).path)))))) := (hd412 23 rfl)
            have d417 : s408 35 = (.bool (((decide (24 ≤ x7_1)) || (!(nodeOK (gt a0 x7_1)))) || ((decide (0 < x7_1)) && (!(pathLess ((gt a0 (IntKind.wrap .i64 (x7_1 - 1))).path) ((gt a0 x7_1).path)))))) := (hd412 23 rfl)
            have d418 : s408 40 = (S ((gt a0 x7_1).path)) := ((hd412 28 rfl).1 (not_mk (not_f b414)))
            have c419 := imp_take b414 c41
            exact L_callP (.guard 23 false 35 rfl rfl (ltb rfl) (d416.trans (congrArg Value.bool g415))) rfl (ltb rfl) rfl Tryd.call53 (impl_parent.calls (w := w409) (a0 := (gt a0 x7_1).path) (of_decide_eq_true c419)) (cons2 d418 rfl) <| fun w420 e421 => L_nil <| stepEnd rfl rfl e421 ⟨fun _ => rfl, fun h => absurd (b414.symm.trans h) (by decide)⟩
          · have d422 : s408 35 = (.bool (((decide (24 ≤ x7_1)) || (!(nodeOK (gt a0 x7_1)))) || ((decide (0 < x7_1)) && (!(pathLess ((gt a0 (IntKind.wrap .i64 (x7_1 - 1))).path) ((gt a0 x7_1).path)))))) := (hd412 23 rfl)
            have g423 : (((decide (24 ≤ x7_1)) || (!(nodeOK (gt a0 x7_1)))) || ((decide (0 < x7_1)) && (!(pathLess ((gt a0 (IntKind.wrap .i64 (x7_1 - 1))).path) ((gt a0 x7_1).path))))) = true := (not_ff b414)
            exact L_skip rfl rfl (ltb rfl) (d422.trans (congrArg Value.bool g423)) rfl rfl (ltb rfl) <| L_nil <| stepEnd rfl rfl (Ext.refl w409) ⟨fun h => absurd (b414.symm.trans h) (by decide), fun _ => rfl⟩
        · intro s424 w425 e426 hf427 hd428 hu429
          rcases bool_two (!(((decide (24 ≤ x7_1)) || (!(nodeOK (gt a0 x7_1)))) || ((decide (0 < x7_1)) && (!(pathLess ((gt a0 (IntKind.wrap .i64 (x7_1 - 1))).path) ((gt a0 x7_1).path)))))) with b430 | b430
          · have g431 : (((decide (24 ≤ x7_1)) || (!(nodeOK (gt a0 x7_1)))) || ((decide (0 < x7_1)) && (!(pathLess ((gt a0 (IntKind.wrap .i64 (x7_1 - 1))).path) ((gt a0 x7_1).path))))) = false := (not_f b430)
            have d432 : s424 35 = (.bool (((decide (24 ≤ x7_1)) || (!(nodeOK (gt a0 x7_1)))) || ((decide (0 < x7_1)) && (!(pathLess ((gt a0 (IntKind.wrap .i64 (x7_1 - 1))).path) ((gt a0 x7_1).path)))))) := (hd428 23 rfl)
            have d433 : s424 35 = (.bool (((decide (24 ≤ x7_1)) || (!(nodeOK (gt a0 x7_1)))) || ((decide (0 < x7_1)) && (!(pathLess ((gt a0 (IntKind.wrap .i64 (x7_1 - 1))).path) ((gt a0 x7_1).path)))))) := (hd428 23 rfl)
            have d434 : Rd 4 encNd w425 (s424 38) (sub a0 0 x7_1) := ((hd428 26 rfl).1 (not_mk (not_f b430)))
            have d435 : s424 41 = (S (parentP ((gt a0 x7_1).path))) := ((hd428 29 rfl).1 (not_mk (not_f b430)))
            have c436 := imp_take b430 c44
            exact L_callP (.guard 23 false 35 rfl rfl (ltb rfl) (d432.trans (congrArg Value.bool g431))) rfl (ltb rfl) rfl Tryd.call59 (impl_isDir.calls (w := w425) (a0 := sub a0 0 x7_1) (a1 := (parentP ((gt a0 x7_1).path))) d434 (of_decide_eq_true c436)) (cons2 rfl (cons2 d435 rfl)) <| fun w437 e438 => L_nil <| stepEnd rfl rfl e438 ⟨fun _ => rfl, fun h => absurd (b430.symm.trans h) (by decide)⟩
          · have d439 : s424 35 = (.bool (((decide (24 ≤ x7_1)) || (!(nodeOK (gt a0 x7_1)))) || ((decide (0 < x7_1)) && (!(pathLess ((gt a0 (IntKind.wrap .i64 (x7_1 - 1))).path) ((gt a0 x7_1).path)))))) := (hd428 23 rfl)
            have g440 : (((decide (24 ≤ x7_1)) || (!(nodeOK (gt a0 x7_1)))) || ((decide (0 < x7_1)) && (!(pathLess ((gt a0 (IntKind.wrap .i64 (x7_1 - 1))).path) ((gt a0 x7_1).path))))) = true := (not_ff b430)
            exact L_skip rfl rfl (ltb rfl) (d439.trans (congrArg Value.bool g440)) rfl rfl (ltb rfl) <| L_nil <| stepEnd rfl rfl (Ext.refl w425) ⟨fun h => absurd (b430.symm.trans h) (by decide), fun _ => rfl⟩
        · intro s441 w442 e443 hf444 hd445 hu446
          rcases bool_two (!(((decide (24 ≤ x7_1)) || (!(nodeOK (gt a0 x7_1)))) || ((decide (0 < x7_1)) && (!(pathLess ((gt a0 (IntKind.wrap .i64 (x7_1 - 1))).path) ((gt a0 x7_1).path)))))) with b447 | b447
          · have g448 : (((decide (24 ≤ x7_1)) || (!(nodeOK (gt a0 x7_1)))) || ((decide (0 < x7_1)) && (!(pathLess ((gt a0 (IntKind.wrap .i64 (x7_1 - 1))).path) ((gt a0 x7_1).path))))) = false := (not_f b447)
            have d449 : s441 35 = (.bool (((decide (24 ≤ x7_1)) || (!(nodeOK (gt a0 x7_1)))) || ((decide (0 < x7_1)) && (!(pathLess ((gt a0 (IntKind.wrap .i64 (x7_1 - 1))).path) ((gt a0 x7_1).path)))))) := (hd445 23 rfl)
            have d450 : s441 35 = (.bool (((decide (24 ≤ x7_1)) || (!(nodeOK (gt a0 x7_1)))) || ((decide (0 < x7_1)) && (!(pathLess ((gt a0 (IntKind.wrap .i64 (x7_1 - 1))).path) ((gt a0 x7_1).path)))))) := (hd445 23 rfl)
            have d451 : s441 42 = (.bool (isDirN (sub a0 0 x7_1) (parentP ((gt a0 x7_1).path)))) := ((hd445 30 rfl).1 (not_mk (not_f b447)))
            exact L_op (.guard 23 false 35 rfl rfl (ltb rfl) (d449.trans (congrArg Value.bool g448))) rfl (ltb rfl) (X_not d451) <| L_nil <| stepEnd rfl rfl (Ext.refl w442) ⟨fun _ => rfl, fun h => absurd (b447.symm.trans h) (by decide)⟩
          · have d452 : s441 35 = (.bool (((decide (24 ≤ x7_1)) || (!(nodeOK (gt a0 x7_1)))) || ((decide (0 < x7_1)) && (!(pathLess ((gt a0 (IntKind.wrap .i64 (x7_1 - 1))).path) ((gt a0 x7_1).path)))))) := (hd445 23 rfl)
            have g453 : (((decide (24 ≤ x7_1)) || (!(nodeOK (gt a0 x7_1)))) || ((decide (0 < x7_1)) && (!(pathLess ((gt a0 (IntKind.wrap .i64 (x7_1 - 1))).path) ((gt a0 x7_1).path))))) = true := (not_ff b447)
            exact L_skip rfl rfl (ltb rfl) (d452.trans (congrArg Value.bool g453)) rfl rfl (ltb rfl) <| L_nil <| stepEnd rfl rfl (Ext.refl w442) ⟨fun h => absurd (b447.symm.trans h) (by decide), fun _ => rfl⟩
        · intro s454 w455 e456 hf457 hd458 hu459
          rcases bool_two (((decide (24 ≤ x7_1)) || (!(nodeOK (gt a0 x7_1)))) || ((decide (0 < x7_1)) && (!(pathLess ((gt a0 (IntKind.wrap .i64 (x7_1 - 1))).path) ((gt a0 x7_1).path))))) with b460 | b460
          · have d461 : s454 35 = (.bool (((decide (24 ≤ x7_1)) || (!(nodeOK (gt a0 x7_1)))) || ((decide (0 < x7_1)) && (!(pathLess ((gt a0 (IntKind.wrap .i64 (x7_1 - 1))).path) ((gt a0 x7_1).path)))))) := (hd458 23 rfl)
            exact L_op (.plain rfl) rfl (ltb rfl) (X_pick (b := true) (v := (.bool true)) (d461.trans (congrArg Value.bool b460)) rfl) <| L_nil <| stepEnd rfl rfl (Ext.refl w455) (by show _ = _; rw [b460]; rfl)
          · have d462 : s454 35 = (.bool (((decide (24 ≤ x7_1)) || (!(nodeOK (gt a0 x7_1)))) || ((decide (0 < x7_1)) && (!(pathLess ((gt a0 (IntKind.wrap .i64 (x7_1 - 1))).path) ((gt a0 x7_1).path)))))) := (hd458 23 rfl)
            have d463 : s454 43 = (.bool (!(isDirN (sub a0 0 x7_1) (parentP ((gt a0 x7_1).path))))) := ((hd458 31 rfl).1 (not_mk b460))
            exact L_op (.plain rfl) rfl (ltb rfl) (X_pick (b := false) (v := (.bool (!(isDirN (sub a0 0 x7_1) (parentP ((gt a0 x7_1).path)))))) (d462.trans (congrArg Value.bool b460)) d463) <| L_nil <| stepEnd rfl rfl (Ext.refl w455) (by show _ = _; rw [b460]; rfl)
        intro s464 w465 e466 hf467 ha468
        have K469 := Kp.ofD (kp := [(12, 45)]) rfl hf467
        have d470 : s464 44 = (.bool ((((decide (24 ≤ x7_1)) || (!(nodeOK (gt a0 x7_1)))) || ((decide (0 < x7_1)) && (!(pathLess ((gt a0 (IntKind.wrap .i64 (x7_1 - 1))).path) ((gt a0 x7_1).path))))) || (!(isDirN (sub a0 0 x7_1) (parentP ((gt a0 x7_1).path)))))) := ha468 32 rfl
        clear ha468 hf467
        refine thn_n ?_
        rcases bif_two H with ⟨q471, H⟩ | ⟨q471, H⟩
        · refine W_true (d470.trans (congrArg Value.bool q471)) <| W_seq <| W_reg <| L_op (.plain rfl) rfl (ltb rfl) (X_assign (v := (.bool false)) rfl) <| L_nil <| thn_n <| W_ret <| blk_r <| thn_r <| thn_r <| blk_r <| thn_r <| thn_r <| fin_r ?_
          obtain rfl := Option.some.inj H
          obtain rfl := Option.some.inj S17
          have H := C4
          obtain rfl := Option.some.inj H
          exact fin1 rfl (Ext.trans (Ext.trans e13 (Below.trans e26 (Wr.below h29 (Nat.le_of_eq z24)))) e466)
        · refine W_false (d470.trans (congrArg Value.bool q471)) <| W_skip <| blk_n <| thn_n <| W_reg <| L_op (.plain rfl) rfl (ltb rfl) (X_add ((K469 7 rfl).trans h15) rfl) <| L_op (.plain rfl) rfl (ltb rfl) (X_move (v := (.int .i64 (IntKind.wrap .i64 (x7_1 + 1)))) rfl) <| L_nil <| thn_n ?_
          obtain rfl := Option.some.inj H
          exact ⟨_, Nat.lt_succ_self _, IntKind.wrap .i64 (x7_1 + 1), (Kp.upd (Kp.upd (Kp.cut (Kp.upd (Kp.upd (Kp.upd (Kp.upd (Kp.upd (Kp.upd K12 rfl) rfl) rfl) rfl) rfl) rfl) K469 rfl) rfl) rfl), rfl, (Ext.trans (Ext.trans e13 (Below.trans e26 (Wr.below h29 (Nat.le_of_eq z24)))) e466), S17⟩
      · refine W_false (congrArg Value.bool q18) <| W_exit <| thn_x <| thn_x <| blk_x <| thn_n ?_
        obtain rfl := Option.some.inj H
        obtain rfl := Option.some.inj S17
        exact ⟨(Kp.upd K12 rfl), e13, rfl⟩
  · rintro s6 w5 ⟨K7, e8, y472⟩
    rw [y472] at C4
    have H := C4
    replace H : _ = some _ := H
    refine thn_n <| W_seq <| W_reg <| L_op (.plain rfl) rfl (ltb rfl) (X_assign (v := (.bool true)) rfl) <| L_nil <| thn_n <| W_ret <| fin_r ?_
    obtain rfl := Option.some.inj H
    exact fin1 rfl e8
theorem impl_TreeOK.calls {w : World} {a0 : List Nd} (gv : GV 0 w) {v_a0 : Value} (f_a0 : Rd 4 encNd w v_a0 a0) (h0 : a0.length ≤ 1048576) (h1 : ∀ x ∈ a0, x.path.length ≤ 1048576) :
    Calls Tryd.prog 29 #[v_a0] w (Rt (RP w (.bool (treeOK a0)))) := by
  obtain ⟨k, h⟩ := impl_TreeOK.eq a0 h0 h1
  exact impl_TreeOK.walk gv f_a0 h
/-! slices.Equal(()impl.Node,impl.Node) -/
theorem slices_EqualN.walk {k : Nat} {w : World} {a0 : List Nd} {a1 : List Nd} {v_a0 : Value} (f_a0 : Rd 4 encNd w v_a0 a0) {v_a1 : Value} (f_a1 : Rd 4 encNd w v_a1 a1) {r : Bool} (H : slices_EqualN.sh k a0 a1 = some r) :
    Calls Tryd.prog 62 #[v_a0, v_a1] w (Rt (RP w (.bool r))) := by
  unfold slices_EqualN.sh at H
  refine calls_of_W Tryd.func62 rfl (Nat.le_of_ble_eq_true rfl) Tryd.ntmps62 rfl ?_
  refine W_seq <| W_reg <| L_op (.plain rfl) rfl (ltb rfl) (X_assign (v := (.bool false)) rfl) <| L_nil <| thn_n <| W_seq <| W_seq <| W_reg <| L_op (.plain rfl) rfl (ltb rfl) (X_move (v := v_a0) rfl) <| L_op (.plain rfl) rfl (ltb rfl) (X_lenR Tryd.underlying39 rfl f_a0) <| L_op (.plain rfl) rfl (ltb rfl) (X_move (v := v_a1) rfl) <| L_op (.plain rfl) rfl (ltb rfl) (X_lenR Tryd.underlying39 rfl f_a1) <| L_op (.plain rfl) rfl (ltb rfl) (X_neq rfl rfl) <| L_nil <| thn_n ?_
  rcases bif_two H with ⟨q1, H⟩ | ⟨q1, H⟩
  · refine W_true (congrArg Value.bool q1) <| W_seq <| W_reg <| L_op (.plain rfl) rfl (ltb rfl) (X_assign (v := (.bool false)) rfl) <| L_nil <| thn_n <| W_ret <| thn_r <| fin_r ?_
    obtain rfl := Option.some.inj H
    exact fin1 rfl (Ext.refl w)
  · refine W_false (congrArg Value.bool q1) <| W_skip <| thn_n <| W_seq <| W_seq <| W_reg <| L_op (.plain rfl) rfl (ltb rfl) (X_move (v := v_a0) rfl) <| L_op (.plain rfl) rfl (ltb rfl) (X_lenR Tryd.underlying39 rfl f_a0) <| L_op (.plain rfl) rfl (ltb rfl) (X_move (v := (.int .i64 0)) rfl) <| L_nil <| thn_n ?_
    obtain ⟨z3, L4, C5⟩ := bind_some H
    clear H
    refine  W_cutQ (fun s0 s9 w9 => Kp [(4, 6), (13, 26)] s0 s9 ∧ Ext w w9 ∧ z3 = .inr ()) ?_ ?_
    · refine W_block <| W_loopI (fun s0 kk s9 w9 => ∃ (x13_2 : Int), Kp [(4, 6), (13, 26)] s0 s9 ∧ s9 13 = .int .i64 x13_2 ∧ Ext w w9 ∧ loopF (slices_EqualN.b1 a0 a1) kk x13_2 = some z3) k ⟨0, (Kp.refl _ _), rfl, (Ext.refl w), L4⟩ ?_
      rintro k10 s11 w12 ⟨x13_2, K13, h16, e14, L15⟩
      cases k10 with
      | zero => exact absurd L15 (by simp [loopF])
      | succ k10 =>
        obtain ⟨t17, H, S18⟩ := loopF_succ L15
        clear L15
        unfold slices_EqualN.b1 at H
        refine W_seq <| W_reg <| L_op (.plain rfl) rfl (ltb rfl) (X_lss h16 (K13 12 rfl)) <| L_nil <| thn_n <| W_seq ?_
        rcases bif_two H with ⟨q19, H⟩ | ⟨q19, H⟩
        · refine W_true (congrArg Value.bool q19) <| W_skip <| thn_n <| W_seq <| W_block <| W_seq <| W_reg <| L_op (.plain rfl) rfl (ltb rfl) (X_move (v := (.int .i64 x13_2)) h16) <| L_op (.plain rfl) rfl (ltb rfl) (X_assign (v := (.int .i64 x13_2)) rfl) <| L_nil <| thn_n <| W_seq ?_
          obtain ⟨c20, H⟩ := bif_some H
          obtain ⟨c23, H⟩ := bif_some H
          refine W_drawM [LEq v_a0, LEq (.int .i64 x13_2), LAt0 (encNd (gt a0 x13_2)), LEq (.agg (encNd (gt a0 x13_2)).toArray), LEq v_a1, LEq (.int .i64 x13_2), LAt0 (encNd (gt a1 x13_2)), LEq (.agg (encNd (gt a1 x13_2)).toArray), LEq (.bool (!decide ((gt a0 x13_2) = (gt a1 x13_2))))] (by kernel_rfl) (by kernel_rfl) ⟨LEq.mono, LEq.mono, LAt0.mono, LEq.mono, LEq.mono, LEq.mono, LAt0.mono, LEq.mono, LEq.mono, trivial⟩ ⟨?_, ?_, ?_, ?_, ?_, ?_, ?_, ?_, ?_, trivial⟩ ?_
          · intro s26 w27 e28 hf29 hd30 hu31
            exact L_op (.plain rfl) rfl (ltb rfl) (X_move (v := v_a0) ((hf29 0 rfl).trans (K13 0 rfl))) <| L_nil <| stepEnd rfl rfl (Ext.refl w27) rfl
          · intro s32 w33 e34 hf35 hd36 hu37
            exact L_op (.plain rfl) rfl (ltb rfl) (X_move (v := (.int .i64 x13_2)) (hf35 5 rfl)) <| L_nil <| stepEnd rfl rfl (Ext.refl w33) rfl
          · intro s38 w39 e40 hf41 hd42 hu43
            have d44 : s38 16 = v_a0 := (hd42 0 rfl)
            have d45 : s38 17 = (.int .i64 x13_2) := (hd42 1 rfl)
            have c46 := c20
            exact L_idx (.plain rfl) rfl (ltb rfl) rfl Tryd.underlying39 Tryd.sizeOf64 d44 (Rd.ext f_a0 (Ext.trans e14 e40)) d45 c46 <| fun p47 h48 => L_nil <| stepEnd rfl rfl (Ext.refl w39) ⟨_, rfl, h48⟩
          · intro s49 w50 e51 hf52 hd53 hu54
            obtain ⟨p55, h56, h57⟩ := (hd53 2 rfl)
            exact L_op (.plain rfl) rfl (ltb rfl) (X_loadS Tryd.isAgg64 Tryd.sizeOf64 rfl h56 h57) <| L_nil <| stepEnd rfl rfl (Ext.refl w50) rfl
          · intro s58 w59 e60 hf61 hd62 hu63
            exact L_op (.plain rfl) rfl (ltb rfl) (X_move (v := v_a1) ((hf61 1 rfl).trans (K13 1 rfl))) <| L_nil <| stepEnd rfl rfl (Ext.refl w59) rfl
          · intro s64 w65 e66 hf67 hd68 hu69
            exact L_op (.plain rfl) rfl (ltb rfl) (X_move (v := (.int .i64 x13_2)) (hf67 5 rfl)) <| L_nil <| stepEnd rfl rfl (Ext.refl w65) rfl
          · intro s70 w71 e72 hf73 hd74 hu75
            have d76 : s70 20 = v_a1 := (hd74 4 rfl)
            have d77 : s70 21 = (.int .i64 x13_2) := (hd74 5 rfl)
            have c78 := c23
            exact L_idx (.plain rfl) rfl (ltb rfl) rfl Tryd.underlying39 Tryd.sizeOf64 d76 (Rd.ext f_a1 (Ext.trans e14 e72)) d77 c78 <| fun p79 h80 => L_nil <| stepEnd rfl rfl (Ext.refl w71) ⟨_, rfl, h80⟩
          · intro s81 w82 e83 hf84 hd85 hu86
            obtain ⟨p87, h88, h89⟩ := (hd85 6 rfl)
            exact L_op (.plain rfl) rfl (ltb rfl) (X_loadS Tryd.isAgg64 Tryd.sizeOf64 rfl h88 h89) <| L_nil <| stepEnd rfl rfl (Ext.refl w82) rfl
          · intro s90 w91 e92 hf93 hd94 hu95
            have d96 : s90 19 = (.agg (encNd (gt a0 x13_2)).toArray) := (hd94 3 rfl)
            have d97 : s90 23 = (.agg (encNd (gt a1 x13_2)).toArray) := (hd94 7 rfl)
            exact L_op (.plain rfl) rfl (ltb rfl) (X_neA Eqg.t64 (Eqs.t64 (gt a0 x13_2) (gt a1 x13_2)) d96 d97) <| L_nil <| stepEnd rfl rfl (Ext.refl w91) rfl
          intro s98 w99 e100 hf101 ha102
          have K103 := Kp.ofD (kp := [(16, 25)]) rfl hf101
          have d104 : s98 24 = (.bool (!decide ((gt a0 x13_2) = (gt a1 x13_2)))) := ha102 8 rfl
          clear ha102 hf101
          refine thn_n ?_
          rcases bif_two H with ⟨q105, H⟩ | ⟨q105, H⟩
          · refine W_true (d104.trans (congrArg Value.bool q105)) <| W_seq <| W_reg <| L_op (.plain rfl) rfl (ltb rfl) (X_assign (v := (.bool false)) rfl) <| L_nil <| thn_n <| W_ret <| blk_r <| thn_r <| thn_r <| blk_r <| thn_r <| thn_r <| fin_r ?_
            obtain rfl := Option.some.inj H
            obtain rfl := Option.some.inj S18
            have H := C5
            obtain rfl := Option.some.inj H
            exact fin1 rfl (Ext.trans e14 e100)
          · refine W_false (d104.trans (congrArg Value.bool q105)) <| W_skip <| blk_n <| thn_n <| W_reg <| L_op (.plain rfl) rfl (ltb rfl) (X_add ((K103 13 rfl).trans h16) rfl) <| L_op (.plain rfl) rfl (ltb rfl) (X_move (v := (.int .i64 (IntKind.wrap .i64 (x13_2 + 1)))) rfl) <| L_nil <| thn_n ?_
            obtain rfl := Option.some.inj H
            exact ⟨_, Nat.lt_succ_self _, IntKind.wrap .i64 (x13_2 + 1), (Kp.upd (Kp.upd (Kp.cut (Kp.upd (Kp.upd (Kp.upd K13 rfl) rfl) rfl) K103 rfl) rfl) rfl), rfl, (Ext.trans e14 e100), S18⟩
        · refine W_false (congrArg Value.bool q19) <| W_exit <| thn_x <| thn_x <| blk_x <| thn_n ?_
          obtain rfl := Option.some.inj H
          obtain rfl := Option.some.inj S18
          exact ⟨(Kp.upd K13 rfl), e14, rfl⟩
    · rintro s7 w6 ⟨K8, e9, y106⟩
      rw [y106] at C5
      have H := C5
      replace H : _ = some _ := H
      refine thn_n <| W_seq <| W_reg <| L_op (.plain rfl) rfl (ltb rfl) (X_assign (v := (.bool true)) rfl) <| L_nil <| thn_n <| W_ret <| fin_r ?_
      obtain rfl := Option.some.inj H
      exact fin1 rfl e9
theorem slices_EqualN.calls {w : World} {a0 : List Nd} {a1 : List Nd} {v_a0 : Value} (f_a0 : Rd 4 encNd w v_a0 a0) {v_a1 : Value} (f_a1 : Rd 4 encNd w v_a1 a1) (h0 : a0.length ≤ 1048576) :
    Calls Tryd.prog 62 #[v_a0, v_a1] w (Rt (RP w (.bool (decide (a0 = a1))))) := by
  obtain ⟨k, h⟩ := slices_EqualN.eq a0 a1 h0
  exact slices_EqualN.walk f_a0 f_a1 h
/-! impl.SameTree -/
theorem impl_SameTree.walk {w : World} {a0 : List Nd} {a1 : List Nd} (gv : GV 0 w) {v_a0 : Value} (f_a0 : Rd 4 encNd w v_a0 a0) {v_a1 : Value} (f_a1 : Rd 4 encNd w v_a1 a1) {r : Bool} (H : impl_SameTree.sh a0 a1 = some r) :
    Calls Tryd.prog 32 #[v_a0, v_a1] w (Rt (RP w (.bool r))) := by
  unfold impl_SameTree.sh at H
  refine calls_of_W Tryd.func32 rfl (Nat.le_of_ble_eq_true rfl) Tryd.ntmps32 rfl ?_
  refine W_seq <| W_reg <| L_op (.plain rfl) rfl (ltb rfl) (X_assign (v := (.bool false)) rfl) <| L_nil <| thn_n <| W_seq <| W_reg <| L_op (.plain rfl) rfl (ltb rfl) (X_move (v := v_a0) rfl) ?_
  obtain ⟨c1, H⟩ := bif_some H
  obtain ⟨c2, H⟩ := bif_some H
  refine L_callP (.plain rfl) rfl (ltb rfl) rfl Tryd.call29 (impl_TreeOK.calls (w := w) (a0 := a0) gv f_a0 (of_decide_eq_true c1) (of_decide_eq_true c2)) rfl <| fun w3 e4 => L_op (.plain rfl) rfl (ltb rfl) (X_move (v := (.bool (treeOK a0))) rfl) ?_
  obtain ⟨z6, x7, H⟩ := bind_some H
  refine L_grpE 3 [(8, 11)] 10 (fun q => q = z6) ?_ ?_
  · rcases bif_two x7 with ⟨b4_, H⟩ | ⟨b4_, H⟩
    · refine L_op (.guard 2 true 7 rfl rfl (ltb rfl) (congrArg Value.bool b4_)) rfl (ltb rfl) (X_move (v := v_a1) rfl) ?_
      obtain ⟨c6, H⟩ := bif_some H
      obtain ⟨c7, H⟩ := bif_some H
      refine L_callP (.guard 2 true 7 rfl rfl (ltb rfl) (congrArg Value.bool b4_)) rfl (ltb rfl) rfl Tryd.call29 (impl_TreeOK.calls (w := w3) (a0 := a1) (GV.ext gv e4) (Rd.ext f_a1 e4) (of_decide_eq_true c6) (of_decide_eq_true c7)) rfl <| fun w8 e9 => L_op (.plain rfl) rfl (ltb rfl) (X_pick (b := true) (v := (.bool (treeOK a1))) (congrArg Value.bool b4_) rfl) ?_
      obtain rfl := Option.some.inj H
      exact L_nil <| thn_n ⟨(Kp.upd (Kp.upd (Kp.upd (Kp.refl _ _) rfl) rfl) rfl), ⟨_, rfl, rfl⟩, e9⟩
    · refine L_skip rfl rfl (ltb rfl) (congrArg Value.bool b4_) rfl rfl (ltb rfl) <| L_skip rfl rfl (ltb rfl) (congrArg Value.bool b4_) rfl rfl (ltb rfl) <| L_op (.plain rfl) rfl (ltb rfl) (X_pick (b := false) (v := (.bool false)) (congrArg Value.bool b4_) rfl) ?_
      obtain rfl := Option.some.inj H
      exact L_nil <| thn_n ⟨(Kp.upd (Kp.upd (Kp.upd (Kp.refl _ _) rfl) rfl) rfl), ⟨_, rfl, rfl⟩, (Ext.refl w3)⟩
  intro s12 w8 z13 K9 hq h10 e11
  rw [hq] at h10; clear hq
  refine L_op (.plain rfl) rfl (ltb rfl) (X_move (v := (.bool z6)) h10) ?_
  obtain ⟨z15, x16, H⟩ := bind_some H
  refine L_grpE 4 [(12, 16)] 15 (fun q => q = z15) ?_ ?_
  · rcases bif_two x16 with ⟨b13_, H⟩ | ⟨b13_, H⟩
    · refine L_op (.guard 6 true 11 rfl rfl (ltb rfl) (congrArg Value.bool b13_)) rfl (ltb rfl) (X_move (v := v_a0) (K9 0 rfl)) <| L_op (.guard 6 true 11 rfl rfl (ltb rfl) (congrArg Value.bool b13_)) rfl (ltb rfl) (X_move (v := v_a1) (K9 1 rfl)) ?_
      obtain ⟨c15, H⟩ := bif_some H
      refine L_callP (.guard 6 true 11 rfl rfl (ltb rfl) (congrArg Value.bool b13_)) rfl (ltb rfl) rfl Tryd.call62 (slices_EqualN.calls (w := w8) (a0 := a0) (a1 := a1) (Rd.ext f_a0 (Ext.trans e4 e11)) (Rd.ext f_a1 (Ext.trans e4 e11)) (of_decide_eq_true c15)) rfl <| fun w16 e17 => L_op (.plain rfl) rfl (ltb rfl) (X_pick (b := true) (v := (.bool (decide (a0 = a1)))) (congrArg Value.bool b13_) rfl) ?_
      obtain rfl := Option.some.inj H
      exact L_nil <| thn_n ⟨(Kp.upd (Kp.upd (Kp.upd (Kp.upd (Kp.refl _ _) rfl) rfl) rfl) rfl), ⟨_, rfl, rfl⟩, e17⟩
    · refine L_skip rfl rfl (ltb rfl) (congrArg Value.bool b13_) rfl rfl (ltb rfl) <| L_skip rfl rfl (ltb rfl) (congrArg Value.bool b13_) rfl rfl (ltb rfl) <| L_skip rfl rfl (ltb rfl) (congrArg Value.bool b13_) rfl rfl (ltb rfl) <| L_op (.plain rfl) rfl (ltb rfl) (X_pick (b := false) (v := (.bool false)) (congrArg Value.bool b13_) rfl) ?_
      obtain rfl := Option.some.inj H
      exact L_nil <| thn_n ⟨(Kp.upd (Kp.upd (Kp.upd (Kp.upd (Kp.refl _ _) rfl) rfl) rfl) rfl), ⟨_, rfl, rfl⟩, (Ext.refl w8)⟩
  intro s21 w17 z22 K18 hq h19 e20
  rw [hq] at h19; clear hq
  refine L_op (.plain rfl) rfl (ltb rfl) (X_assign (v := (.bool z15)) h19) <| L_nil <| thn_n <| W_ret <| fin_r ?_
  obtain rfl := Option.some.inj H
  exact fin1 rfl (Ext.trans (Ext.trans e4 e11) e20)
theorem impl_SameTree.calls {w : World} {a0 : List Nd} {a1 : List Nd} (gv : GV 0 w) {v_a0 : Value} (f_a0 : Rd 4 encNd w v_a0 a0) {v_a1 : Value} (f_a1 : Rd 4 encNd w v_a1 a1) (h0 : a0.length ≤ 1048576) (h1 : a1.length ≤ 1048576) (h2 : ∀ x ∈ a0, x.path.length ≤ 1048576) (h3 : ∀ x ∈ a1, x.path.length ≤ 1048576) :
    Calls Tryd.prog 32 #[v_a0, v_a1] w (Rt (RP w (.bool (sameTree a0 a1)))) := impl_SameTree.walk gv f_a0 f_a1 (impl_SameTree.eq a0 a1 h0 h1 h2 h3)
/-! laws.FnExactTreeOK -/
theorem law_TreeOK.walk {w : World} {a0 : List Nd} (gv : GV 0 w) {v_a0 : Value} (f_a0 : Rd 4 encNd w v_a0 a0) {r : Bool} (H : law_TreeOK.sh a0 = some r) :
    Calls Tryd.prog 8 #[v_a0] w (Rt (RP w (.bool r))) := by
  unfold law_TreeOK.sh at H
  refine calls_of_W Tryd.func8 rfl (Nat.le_of_ble_eq_true rfl) Tryd.ntmps8 rfl ?_
  refine W_seq <| W_reg <| L_op (.plain rfl) rfl (ltb rfl) (X_assign (v := (.bool false)) rfl) <| L_nil <| thn_n <| W_seq <| W_reg <| L_op (.plain rfl) rfl (ltb rfl) (X_assign (v := (.int .i64 1048576)) rfl) <| L_nil <| thn_n <| W_seq <| W_reg <| L_op (.plain rfl) rfl (ltb rfl) (X_move (v := v_a0) rfl) <| L_op (.plain rfl) rfl (ltb rfl) (X_move (v := (.int .i64 1048576)) rfl) ?_
  obtain ⟨c1, H⟩ := bif_some H
  obtain ⟨c2, H⟩ := bif_some H
  obtain ⟨c3, H⟩ := bif_some H
  obtain ⟨c4, H⟩ := bif_some H
  refine L_callP (.plain rfl) rfl (ltb rfl) rfl Tryd.call26 (laws_szNodeS.calls (w := w) (a0 := a0) (a1 := 1048576) f_a0 (of_decide_eq_true c1) (of_decide_eq_true c2) (of_decide_eq_true c3) (of_decide_eq_true c4)) rfl <| fun w5 e6 => L_op (.plain rfl) rfl (ltb rfl) (X_assign (v := (.int .i64 (szNdS a0 1048576))) rfl) <| L_nil <| thn_n <| W_seq <| W_seq <| W_reg <| L_op (.plain rfl) rfl (ltb rfl) (X_move (v := (.int .i64 (szNdS a0 1048576))) rfl) <| L_op (.plain rfl) rfl (ltb rfl) (X_lss rfl rfl) <| L_nil <| thn_n ?_
  rcases bif_two H with ⟨q7, H⟩ | ⟨q7, H⟩
  · refine W_true (congrArg Value.bool q7) <| W_seq <| W_reg <| L_op (.plain rfl) rfl (ltb rfl) (X_assign (v := (.bool true)) rfl) <| L_nil <| thn_n <| W_ret <| thn_r <| fin_r ?_
    obtain rfl := Option.some.inj H
    exact fin1 rfl e6
  · refine W_false (congrArg Value.bool q7) <| W_skip <| thn_n <| W_seq <| W_reg <| L_op (.plain rfl) rfl (ltb rfl) (X_move (v := v_a0) rfl) ?_
    obtain ⟨c8, H⟩ := bif_some H
    refine L_callO (.plain rfl) rfl (ltb rfl) rfl Tryd.call28 (laws_toNodeS.calls (w := w5) (a0 := a0) (Rd.ext f_a0 e6) (of_decide_eq_true c8)) rfl <| fun v11 w9 e10 o12 => ?_
    obtain ⟨c13, H⟩ := bif_some H
    refine L_callP (.plain rfl) rfl (ltb rfl) rfl Tryd.call27 (spec_TreeOK.calls (w := w9) (a0 := a0) (Own.rd o12) (of_decide_eq_true c13)) rfl <| fun w14 e15 => L_op (.plain rfl) rfl (ltb rfl) (X_assign (v := (.bool (treeOK a0))) rfl) <| L_nil <| thn_n <| W_seq <| W_reg <| L_op (.plain rfl) rfl (ltb rfl) (X_move (v := v_a0) rfl) ?_
    obtain ⟨c16, H⟩ := bif_some H
    refine L_callO (.plain rfl) rfl (ltb rfl) rfl Tryd.call28 (laws_toNodeS.calls (w := w14) (a0 := a0) (Rd.ext f_a0 (Ext.trans (Ext.trans e6 e10) e15)) (of_decide_eq_true c16)) rfl <| fun v19 w17 e18 o20 => L_op (.plain rfl) rfl (ltb rfl) (X_assign (v := v19) rfl) <| L_nil <| thn_n <| W_seq <| W_reg <| L_op (.plain rfl) rfl (ltb rfl) (X_move (v := v19) rfl) ?_
    obtain ⟨c21, H⟩ := bif_some H
    obtain ⟨c22, H⟩ := bif_some H
    refine L_callP (.plain rfl) rfl (ltb rfl) rfl Tryd.call29 (impl_TreeOK.calls (w := w17) (a0 := a0) (GV.ext gv (Ext.trans (Ext.trans (Ext.trans e6 e10) e15) e18)) (Own.rd o20) (of_decide_eq_true c21) (of_decide_eq_true c22)) rfl <| fun w23 e24 => L_op (.plain rfl) rfl (ltb rfl) (X_assign (v := (.bool (treeOK a0))) rfl) <| L_nil <| thn_n <| W_seq <| W_seq <| W_reg <| L_op (.plain rfl) rfl (ltb rfl) (X_move (v := (.bool (treeOK a0))) rfl) <| L_op (.plain rfl) rfl (ltb rfl) (X_move (v := (.bool (treeOK a0))) rfl) <| L_op (.plain rfl) rfl (ltb rfl) (X_bne Tryd.underlying4 rfl rfl) <| L_nil <| thn_n ?_
    rcases bif_two H with ⟨q25, H⟩ | ⟨q25, H⟩
    · refine W_true (congrArg Value.bool q25) <| W_seq <| W_reg <| L_op (.plain rfl) rfl (ltb rfl) (X_assign (v := (.bool false)) rfl) <| L_nil <| thn_n <| W_ret <| thn_r <| fin_r ?_
      obtain rfl := Option.some.inj H
      exact fin1 rfl (Ext.trans (Ext.trans (Ext.trans (Ext.trans e6 e10) e15) e18) e24)
    · refine W_false (congrArg Value.bool q25) <| W_skip <| thn_n <| W_seq <| W_seq <| W_reg <| L_op (.plain rfl) rfl (ltb rfl) (X_move (v := v19) rfl) <| L_op (.plain rfl) rfl (ltb rfl) (X_move (v := v_a0) rfl) ?_
      obtain ⟨c26, H⟩ := bif_some H
      refine L_callO (.plain rfl) rfl (ltb rfl) rfl Tryd.call28 (laws_toNodeS.calls (w := w23) (a0 := a0) (Rd.ext f_a0 (Ext.trans (Ext.trans (Ext.trans (Ext.trans e6 e10) e15) e18) e24)) (of_decide_eq_true c26)) rfl <| fun v29 w27 e28 o30 => ?_
      obtain ⟨c31, H⟩ := bif_some H
      refine L_callP (.plain rfl) rfl (ltb rfl) rfl Tryd.call30 (laws_eqNodeS.calls (w := w27) (a0 := a0) (a1 := a0) (Own.rd (Own.ext o20 (Ext.trans e24 e28))) (Own.rd o30) (of_decide_eq_true c31)) rfl <| fun w32 e33 => L_op (.plain rfl) rfl (ltb rfl) (X_not rfl) <| L_nil <| thn_n ?_
      rcases bif_two H with ⟨q34, H⟩ | ⟨q34, H⟩
      · refine W_true (congrArg Value.bool q34) <| W_seq <| W_reg <| L_op (.plain rfl) rfl (ltb rfl) (X_assign (v := (.bool false)) rfl) <| L_nil <| thn_n <| W_ret <| thn_r <| fin_r ?_
        obtain rfl := Option.some.inj H
        exact fin1 rfl (Ext.trans (Ext.trans (Ext.trans (Ext.trans (Ext.trans (Ext.trans e6 e10) e15) e18) e24) e28) e33)
      · refine W_false (congrArg Value.bool q34) <| W_skip <| thn_n <| W_seq <| W_reg <| L_op (.plain rfl) rfl (ltb rfl) (X_assign (v := (.bool true)) rfl) <| L_nil <| thn_n <| W_ret <| fin_r ?_
        obtain rfl := Option.some.inj H
        exact fin1 rfl (Ext.trans (Ext.trans (Ext.trans (Ext.trans (Ext.trans (Ext.trans e6 e10) e15) e18) e24) e28) e33)
theorem law_TreeOK.calls {w : World} {a0 : List Nd} (gv : GV 0 w) {v_a0 : Value} (f_a0 : Rd 4 encNd w v_a0 a0) (h0 : ∀ x ∈ a0, okNd x) (h1 : a0.length ≤ 9223372036854775807) :
    Calls Tryd.prog 8 #[v_a0] w (Rt (RP w (.bool true))) := law_TreeOK.walk gv f_a0 (law_TreeOK.eq a0 h0 h1)
/-! laws.FnExactSameTree -/
theorem law_SameTree.walk {w : World} {a0 : List Nd} {a1 : List Nd} (gv : GV 0 w) {v_a0 : Value} (f_a0 : Rd 4 encNd w v_a0 a0) {v_a1 : Value} (f_a1 : Rd 4 encNd w v_a1 a1) {r : Bool} (H : law_SameTree.sh a0 a1 = some r) :
    Calls Tryd.prog 9 #[v_a0, v_a1] w (Rt (RP w (.bool r))) := by
  unfold law_SameTree.sh at H
  refine calls_of_W Tryd.func9 rfl (Nat.le_of_ble_eq_true rfl) Tryd.ntmps9 rfl ?_
  refine W_seq <| W_reg <| L_op (.plain rfl) rfl (ltb rfl) (X_assign (v := (.bool false)) rfl) <| L_nil <| thn_n <| W_seq <| W_reg <| L_op (.plain rfl) rfl (ltb rfl) (X_assign (v := (.int .i64 1048576)) rfl) <| L_nil <| thn_n <| W_seq <| W_reg <| L_op (.plain rfl) rfl (ltb rfl) (X_move (v := v_a0) rfl) <| L_op (.plain rfl) rfl (ltb rfl) (X_move (v := (.int .i64 1048576)) rfl) ?_
  obtain ⟨c1, H⟩ := bif_some H
  obtain ⟨c2, H⟩ := bif_some H
  obtain ⟨c3, H⟩ := bif_some H
  obtain ⟨c4, H⟩ := bif_some H
  refine L_callP (.plain rfl) rfl (ltb rfl) rfl Tryd.call26 (laws_szNodeS.calls (w := w) (a0 := a0) (a1 := 1048576) f_a0 (of_decide_eq_true c1) (of_decide_eq_true c2) (of_decide_eq_true c3) (of_decide_eq_true c4)) rfl <| fun w5 e6 => L_op (.plain rfl) rfl (ltb rfl) (X_assign (v := (.int .i64 (szNdS a0 1048576))) rfl) <| L_nil <| thn_n <| W_seq <| W_seq <| W_reg <| L_op (.plain rfl) rfl (ltb rfl) (X_move (v := (.int .i64 (szNdS a0 1048576))) rfl) <| L_op (.plain rfl) rfl (ltb rfl) (X_lss rfl rfl) <| L_nil <| thn_n ?_
  rcases bif_two H with ⟨q7, H⟩ | ⟨q7, H⟩
  · refine W_true (congrArg Value.bool q7) <| W_seq <| W_reg <| L_op (.plain rfl) rfl (ltb rfl) (X_assign (v := (.bool true)) rfl) <| L_nil <| thn_n <| W_ret <| thn_r <| fin_r ?_
    obtain rfl := Option.some.inj H
    exact fin1 rfl e6
  · refine W_false (congrArg Value.bool q7) <| W_skip <| thn_n <| W_seq <| W_reg <| L_op (.plain rfl) rfl (ltb rfl) (X_move (v := v_a1) rfl) <| L_op (.plain rfl) rfl (ltb rfl) (X_move (v := (.int .i64 (szNdS a0 1048576))) rfl) ?_
    obtain ⟨c8, H⟩ := bif_some H
    obtain ⟨c9, H⟩ := bif_some H
    obtain ⟨c10, H⟩ := bif_some H
    obtain ⟨c11, H⟩ := bif_some H
    refine L_callP (.plain rfl) rfl (ltb rfl) rfl Tryd.call26 (laws_szNodeS.calls (w := w5) (a0 := a1) (a1 := (szNdS a0 1048576)) (Rd.ext f_a1 e6) (of_decide_eq_true c8) (of_decide_eq_true c9) (of_decide_eq_true c10) (of_decide_eq_true c11)) rfl <| fun w12 e13 => L_op (.plain rfl) rfl (ltb rfl) (X_assign (v := (.int .i64 (szNdS a1 (szNdS a0 1048576)))) rfl) <| L_nil <| thn_n <| W_seq <| W_seq <| W_reg <| L_op (.plain rfl) rfl (ltb rfl) (X_move (v := (.int .i64 (szNdS a1 (szNdS a0 1048576)))) rfl) <| L_op (.plain rfl) rfl (ltb rfl) (X_lss rfl rfl) <| L_nil <| thn_n ?_
    rcases bif_two H with ⟨q14, H⟩ | ⟨q14, H⟩
    · refine W_true (congrArg Value.bool q14) <| W_seq <| W_reg <| L_op (.plain rfl) rfl (ltb rfl) (X_assign (v := (.bool true)) rfl) <| L_nil <| thn_n <| W_ret <| thn_r <| fin_r ?_
      obtain rfl := Option.some.inj H
      exact fin1 rfl (Ext.trans e6 e13)
    · refine W_false (congrArg Value.bool q14) <| W_skip <| thn_n <| W_seq <| W_reg <| L_op (.plain rfl) rfl (ltb rfl) (X_move (v := v_a0) rfl) ?_
      obtain ⟨c15, H⟩ := bif_some H
      refine L_callO (.plain rfl) rfl (ltb rfl) rfl Tryd.call28 (laws_toNodeS.calls (w := w12) (a0 := a0) (Rd.ext f_a0 (Ext.trans e6 e13)) (of_decide_eq_true c15)) rfl <| fun v18 w16 e17 o19 => L_op (.plain rfl) rfl (ltb rfl) (X_move (v := v_a1) rfl) ?_
      obtain ⟨c20, H⟩ := bif_some H
      refine L_callO (.plain rfl) rfl (ltb rfl) rfl Tryd.call28 (laws_toNodeS.calls (w := w16) (a0 := a1) (Rd.ext f_a1 (Ext.trans (Ext.trans e6 e13) e17)) (of_decide_eq_true c20)) rfl <| fun v23 w21 e22 o24 => ?_
      obtain ⟨c25, H⟩ := bif_some H
      obtain ⟨c26, H⟩ := bif_some H
      obtain ⟨c27, H⟩ := bif_some H
      obtain ⟨c28, H⟩ := bif_some H
      refine L_callP (.plain rfl) rfl (ltb rfl) rfl Tryd.call31 (spec_SameTree.calls (w := w21) (a0 := a0) (a1 := a1) (Own.rd (Own.ext o19 e22)) (Own.rd o24) (of_decide_eq_true c25) (of_decide_eq_true c26) (of_decide_eq_true c27) (of_decide_eq_true c28)) rfl <| fun w29 e30 => L_op (.plain rfl) rfl (ltb rfl) (X_assign (v := (.bool (sameTree a0 a1))) rfl) <| L_nil <| thn_n <| W_seq <| W_reg <| L_op (.plain rfl) rfl (ltb rfl) (X_move (v := v_a0) rfl) ?_
      obtain ⟨c31, H⟩ := bif_some H
      refine L_callO (.plain rfl) rfl (ltb rfl) rfl Tryd.call28 (laws_toNodeS.calls (w := w29) (a0 := a0) (Rd.ext f_a0 (Ext.trans (Ext.trans (Ext.trans (Ext.trans e6 e13) e17) e22) e30)) (of_decide_eq_true c31)) rfl <| fun v34 w32 e33 o35 => L_op (.plain rfl) rfl (ltb rfl) (X_assign (v := v34) rfl) <| L_nil <| thn_n <| W_seq <| W_reg <| L_op (.plain rfl) rfl (ltb rfl) (X_move (v := v_a1) rfl) ?_
      obtain ⟨c36, H⟩ := bif_some H
      refine L_callO (.plain rfl) rfl (ltb rfl) rfl Tryd.call28 (laws_toNodeS.calls (w := w32) (a0 := a1) (Rd.ext f_a1 (Ext.trans (Ext.trans (Ext.trans (Ext.trans (Ext.trans e6 e13) e17) e22) e30) e33)) (of_decide_eq_true c36)) rfl <| fun v39 w37 e38 o40 => L_op (.plain rfl) rfl (ltb rfl) (X_assign (v := v39) rfl) <| L_nil <| thn_n <| W_seq <| W_reg <| L_op (.plain rfl) rfl (ltb rfl) (X_move (v := v34) rfl) <| L_op (.plain rfl) rfl (ltb rfl) (X_move (v := v39) rfl) ?_
      obtain ⟨c41, H⟩ := bif_some H
      obtain ⟨c42, H⟩ := bif_some H
      obtain ⟨c43, H⟩ := bif_some H
      obtain ⟨c44, H⟩ := bif_some H
      refine L_callP (.plain rfl) rfl (ltb rfl) rfl Tryd.call32 (impl_SameTree.calls (w := w37) (a0 := a0) (a1 := a1) (GV.ext gv (Ext.trans (Ext.trans (Ext.trans (Ext.trans (Ext.trans (Ext.trans e6 e13) e17) e22) e30) e33) e38)) (Own.rd (Own.ext o35 e38)) (Own.rd o40) (of_decide_eq_true c41) (of_decide_eq_true c42) (of_decide_eq_true c43) (of_decide_eq_true c44)) rfl <| fun w45 e46 => L_op (.plain rfl) rfl (ltb rfl) (X_assign (v := (.bool (sameTree a0 a1))) rfl) <| L_nil <| thn_n <| W_seq <| W_seq <| W_reg <| L_op (.plain rfl) rfl (ltb rfl) (X_move (v := (.bool (sameTree a0 a1))) rfl) <| L_op (.plain rfl) rfl (ltb rfl) (X_move (v := (.bool (sameTree a0 a1))) rfl) <| L_op (.plain rfl) rfl (ltb rfl) (X_bne Tryd.underlying4 rfl rfl) <| L_nil <| thn_n ?_
      rcases bif_two H with ⟨q47, H⟩ | ⟨q47, H⟩
      · refine W_true (congrArg Value.bool q47) <| W_seq <| W_reg <| L_op (.plain rfl) rfl (ltb rfl) (X_assign (v := (.bool false)) rfl) <| L_nil <| thn_n <| W_ret <| thn_r <| fin_r ?_
        obtain rfl := Option.some.inj H
        exact fin1 rfl (Ext.trans (Ext.trans (Ext.trans (Ext.trans (Ext.trans (Ext.trans (Ext.trans e6 e13) e17) e22) e30) e33) e38) e46)
      · refine W_false (congrArg Value.bool q47) <| W_skip <| thn_n <| W_seq <| W_seq <| W_reg <| L_op (.plain rfl) rfl (ltb rfl) (X_move (v := v34) rfl) <| L_op (.plain rfl) rfl (ltb rfl) (X_move (v := v_a0) rfl) ?_
        obtain ⟨c48, H⟩ := bif_some H
        refine L_callO (.plain rfl) rfl (ltb rfl) rfl Tryd.call28 (laws_toNodeS.calls (w := w45) (a0 := a0) (Rd.ext f_a0 (Ext.trans (Ext.trans (Ext.trans (Ext.trans (Ext.trans (Ext.trans (Ext.trans e6 e13) e17) e22) e30) e33) e38) e46)) (of_decide_eq_true c48)) rfl <| fun v51 w49 e50 o52 => ?_
        obtain ⟨c53, H⟩ := bif_some H
        refine L_callP (.plain rfl) rfl (ltb rfl) rfl Tryd.call30 (laws_eqNodeS.calls (w := w49) (a0 := a0) (a1 := a0) (Own.rd (Own.ext o35 (Ext.trans (Ext.trans e38 e46) e50))) (Own.rd o52) (of_decide_eq_true c53)) rfl <| fun w54 e55 => L_op (.plain rfl) rfl (ltb rfl) (X_not rfl) <| L_nil <| thn_n ?_
        rcases bif_two H with ⟨q56, H⟩ | ⟨q56, H⟩
        · refine W_true (congrArg Value.bool q56) <| W_seq <| W_reg <| L_op (.plain rfl) rfl (ltb rfl) (X_assign (v := (.bool false)) rfl) <| L_nil <| thn_n <| W_ret <| thn_r <| fin_r ?_
          obtain rfl := Option.some.inj H
          exact fin1 rfl (Ext.trans (Ext.trans (Ext.trans (Ext.trans (Ext.trans (Ext.trans (Ext.trans (Ext.trans (Ext.trans e6 e13) e17) e22) e30) e33) e38) e46) e50) e55)
        · refine W_false (congrArg Value.bool q56) <| W_skip <| thn_n <| W_seq <| W_seq <| W_reg <| L_op (.plain rfl) rfl (ltb rfl) (X_move (v := v39) rfl) <| L_op (.plain rfl) rfl (ltb rfl) (X_move (v := v_a1) rfl) ?_
          obtain ⟨c57, H⟩ := bif_some H
          refine L_callO (.plain rfl) rfl (ltb rfl) rfl Tryd.call28 (laws_toNodeS.calls (w := w54) (a0 := a1) (Rd.ext f_a1 (Ext.trans (Ext.trans (Ext.trans (Ext.trans (Ext.trans (Ext.trans (Ext.trans (Ext.trans (Ext.trans e6 e13) e17) e22) e30) e33) e38) e46) e50) e55)) (of_decide_eq_true c57)) rfl <| fun v60 w58 e59 o61 => ?_
          obtain ⟨c62, H⟩ := bif_some H
          refine L_callP (.plain rfl) rfl (ltb rfl) rfl Tryd.call30 (laws_eqNodeS.calls (w := w58) (a0 := a1) (a1 := a1) (Own.rd (Own.ext o40 (Ext.trans (Ext.trans (Ext.trans e46 e50) e55) e59))) (Own.rd o61) (of_decide_eq_true c62)) rfl <| fun w63 e64 => L_op (.plain rfl) rfl (ltb rfl) (X_not rfl) <| L_nil <| thn_n ?_
          rcases bif_two H with ⟨q65, H⟩ | ⟨q65, H⟩
          · refine W_true (congrArg Value.bool q65) <| W_seq <| W_reg <| L_op (.plain rfl) rfl (ltb rfl) (X_assign (v := (.bool false)) rfl) <| L_nil <| thn_n <| W_ret <| thn_r <| fin_r ?_
            obtain rfl := Option.some.inj H
            exact fin1 rfl (Ext.trans (Ext.trans (Ext.trans (Ext.trans (Ext.trans (Ext.trans (Ext.trans (Ext.trans (Ext.trans (Ext.trans (Ext.trans e6 e13) e17) e22) e30) e33) e38) e46) e50) e55) e59) e64)
          · refine W_false (congrArg Value.bool q65) <| W_skip <| thn_n <| W_seq <| W_reg <| L_op (.plain rfl) rfl (ltb rfl) (X_assign (v := (.bool true)) rfl) <| L_nil <| thn_n <| W_ret <| fin_r ?_
            obtain rfl := Option.some.inj H
            exact fin1 rfl (Ext.trans (Ext.trans (Ext.trans (Ext.trans (Ext.trans (Ext.trans (Ext.trans (Ext.trans (Ext.trans (Ext.trans (Ext.trans e6 e13) e17) e22) e30) e33) e38) e46) e50) e55) e59) e64)
theorem law_SameTree.calls {w : World} {a0 : List Nd} {a1 : List Nd} (gv : GV 0 w) {v_a0 : Value} (f_a0 : Rd 4 encNd w v_a0 a0) {v_a1 : Value} (f_a1 : Rd 4 encNd w v_a1 a1) (h0 : ∀ x ∈ a0, okNd x) (h1 : a0.length ≤ 9223372036854775807) (h2 : ∀ x ∈ a1, okNd x) (h3 : a1.length ≤ 9223372036854775807) :
    Calls Tryd.prog 9 #[v_a0, v_a1] w (Rt (RP w (.bool true))) := law_SameTree.walk gv f_a0 f_a1 (law_SameTree.eq a0 a1 h0 h1 h2 h3)
end Go.Proofs.YtilogldgepaeiaaDoor
