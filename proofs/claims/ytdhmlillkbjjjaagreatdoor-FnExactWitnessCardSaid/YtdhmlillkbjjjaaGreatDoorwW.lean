/- The walks, by program (wip/tools). -/
import Derived.Test.YtdhmlillkbjjjaaGreatDoorProg
import Derived.Test.YtdhmlillkbjjjaaGreatDoorKI
import Derived.Test.YtdhmlillkbjjjaaGreatDoorwWA
set_option linter.unusedVariables false
set_option linter.unusedSimpArgs false
set_option maxRecDepth 10000
namespace Go.Proofs.YtdhmlillkbjjjaaGreatDoor
open Go.UL Go.RowKit
/-! laws.heldNodeS -/
abbrev qK.e1 (x1_1 : Int) := (IntKind.wrap .i64 ((IntKind.wrap .i64 (x1_1 + 1)) + 1))
theorem qK.walk {k : Nat} {w : World} {a0 : List Nd} {a1 : Int} {v_a0 : Value} (f_a0 : Rd 4 yv w v_a0 a0) {r : Int} (H : qK.sh k a0 a1 = some r) :
  Calls Tryz.prog 55 #[v_a0, .int .i64 a1] w (Rt (RP w (.int .i64 r))) := by
 unfold qK.sh at H
 refine qp Tryz.func55 rfl (Nat.le_of_ble_eq_true rfl) Tryz.ntmps55 rfl ?_
 refine wr <| lp rfl (xa (.int .i64 0) rfl) <| nx <| qj <| wr <| lp rfl (xa (.int .i64 0) rfl) <| nx ?_
 obtain ⟨z3, L4, C5⟩ := bind_some H
 clear H
 refine  vT (fun s0 sQ wQ => ∃ (x1_6 : Int), Kp [(1, 2), (4, 50)] s0 sQ ∧ sQ 1 = .int .i64 x1_6 ∧ Ext w wQ ∧ z3 = .inr x1_6) ?_ ?_
 ·refine qH <| vy (fun s0 kk sQ wQ => ∃ (x1_1 : Int) (x5_2 : Int), Kp [(1, 2), (4, 50)] s0 sQ ∧ sQ 1 = .int .i64 x1_1 ∧ sQ 5 = .int .i64 x5_2 ∧ Ext w wQ ∧ qr (qK.b1 a0) kk (x1_1, x5_2) = some z3) k ⟨a1, 0, kz, rfl, rfl, er, L4⟩ ?_
  rintro k11 s12 w13 ⟨x1_1, x5_2, K14, h17, h18, e15, L16⟩
  cases k11 with
  | zero => exact absurd L16 (by simp [qr])
  | succ k11 =>
   obtain ⟨t19, H, S20⟩ := qO L16
   clear L16
   unfold qK.b1 at H
   refine qj <| wr <| lp rfl (qg h18) <| lp rfl (xm v_a0 (K14 0 rfl)) <| lp rfl (vf Tryz.underlying29 rfl (Rd.ext f_a0 e15)) <| lp rfl (vI rfl rfl) <| nx ?_
   rcases qf H with ⟨q21, H⟩ | ⟨q21, H⟩
   ·refine qq (cb q21) <| qv <| qe <| qj <| qH <| qj <| wr <| lp rfl (xm v_a0 (K14 0 rfl)) <| lp rfl (qg h18) ?_
    obtain ⟨c22, H⟩ := qa H
    refine vF (.plain rfl) rfl (ltb rfl) rfl Tryz.underlying29 Tryz.sizeOf91 rfl (Rd.ext f_a0 e15) rfl c22 <| fun p23 h24 => lp rfl (qc Tryz.underlying91 rfl Tryz.sizeOf3 rfl rfl) <| lp rfl (yZ Tryz.isAgg3 (j := 0) h24 rfl rfl) <| lp rfl (qg h17) <| lp rfl (jJ rfl rfl) <| nx ?_
    rcases qf H with ⟨q25, H⟩ | ⟨q25, H⟩
    ·refine qq (cb q25) <| wr <| lp rfl (xa (.int .i64 (-1)) rfl) <| nx <| qu <| qk <| qU <| qk <| qk <| qU <| qk <| qk <| qy ?_
     obtain rfl := si H
     obtain rfl := si S20
     have H := C5
     obtain rfl := si H
     exact qT rfl e15
    ·refine qh (cb q25) <| qv <| qe <| wr <| lp rfl (qg h17) <| lp rfl (vE rfl rfl) <| lp rfl (xa (.int .i64 (IntKind.wrap .i64 (x1_1 + 1))) rfl) <| nx <| qj <| qj ?_
     obtain ⟨c26, H⟩ := qa H
     obtain ⟨c29, H⟩ := qa H
     refine Yv [LEq v_a0, LEq (.int .i64 x5_2), yD (yv (gt a0 x5_2)), LAt 1 (yv (gt a0 x5_2)), LEq (S ((gt a0 x5_2).path)), LEq (.int .i64 (IntKind.wrap .i64 (x1_1 + 1))), LEq (S (yn (IntKind.wrap .i64 (x1_1 + 1)))), LEq (.bool (!decide (((gt a0 x5_2).path) = (yn (IntKind.wrap .i64 (x1_1 + 1))))))] (by kernel_rfl) (by kernel_rfl) ⟨qm, qm, yD.mono, LAt.mono, qm, qm, qm, qm, trivial⟩ ⟨?_, ?_, ?_, ?_, ?_, ?_, ?_, ?_, trivial⟩ ?_
     ·exact fun s x e f d u => lp rfl (xm v_a0 ((f 0 rfl).trans (K14 0 rfl))) <| se rfl rfl
     ·exact fun s x e f d u => lp rfl (xm (.int .i64 x5_2) ((f 5 rfl).trans h18)) <| se rfl rfl
     ·exact fun s x e f d u => vF (.plain rfl) rfl (ltb rfl) rfl Tryz.underlying29 Tryz.sizeOf91 (d 0 rfl) (Rd.ext f_a0 (e15.t e)) (d 1 rfl) c26 <| fun p33 h34 => se rfl ⟨_, rfl, h34⟩
     ·intro s x e f d u
      obtain ⟨p35, h36, h37⟩ := (d 2 rfl)
      exact lp rfl (qc Tryz.underlying91 rfl Tryz.sizeOf9 rfl h36) <| se rfl ⟨_, rfl, h37⟩
     ·intro s x e f d u
      obtain ⟨p38, h39, h40⟩ := (d 3 rfl)
      exact lp rfl (yZ Tryz.isAgg9 (j := 1) h40 h39 rfl) <| se rfl rfl
     ·exact fun s x e f d u => lp rfl (xm (.int .i64 (IntKind.wrap .i64 (x1_1 + 1))) (f 1 rfl)) <| se rfl rfl
     ·exact fun s x e f d u => lc rfl rfl Tryz.call112 (qV.calls (w := x) (a0 := IntKind.wrap .i64 (x1_1 + 1)) (od c29)) (vu (d 5 rfl) rfl) <| fun w42 e43 => sx rfl e43 rfl
     ·exact fun s x e f d u => lp rfl (Qo (d 4 rfl) (d 6 rfl)) <| se rfl rfl
     intro s44 w45 e46 hf47 ha48
     have K49 := Kp.ofD (kp := [(21, 29)]) rfl hf47
     have d50 : s44 28 = (.bool (!decide (((gt a0 x5_2).path) = (yn (IntKind.wrap .i64 (x1_1 + 1)))))) := ha48 7 rfl
     clear ha48 hf47
     refine qe ?_
     rcases qf H with ⟨q51, H⟩ | ⟨q51, H⟩
     ·refine qq (d50.trans (cb q51)) <| wr <| lp rfl (xa (.int .i64 (-1)) rfl) <| nx <| qu <| qk <| qU <| qk <| qk <| qU <| qk <| qk <| qy ?_
      obtain rfl := si H
      obtain rfl := si S20
      have H := C5
      obtain rfl := si H
      exact qT rfl (e15.t e46)
     ·refine qh (d50.trans (cb q51)) <| qv <| qe <| wr <| lp rfl (xm (.int .i64 (IntKind.wrap .i64 (x1_1 + 1))) (K49 1 rfl)) <| lp rfl (vE rfl rfl) <| lp rfl (xa (.int .i64 (qK.e1 x1_1)) rfl) <| nx <| qj <| qj ?_
      obtain ⟨c52, H⟩ := qa H
      obtain ⟨c55, H⟩ := qa H
      refine Yv [LEq v_a0, LEq (.int .i64 x5_2), yD (yv (gt a0 x5_2)), LAt 2 (yv (gt a0 x5_2)), LEq (S ((gt a0 x5_2).body)), LEq (.int .i64 (qK.e1 x1_1)), LEq (S (yn (qK.e1 x1_1))), LEq (.bool (!decide (((gt a0 x5_2).body) = (yn (qK.e1 x1_1)))))] (by kernel_rfl) (by kernel_rfl) ⟨qm, qm, yD.mono, LAt.mono, qm, qm, qm, qm, trivial⟩ ⟨?_, ?_, ?_, ?_, ?_, ?_, ?_, ?_, trivial⟩ ?_
      ·exact fun s x e f d u => lp rfl (xm v_a0 ((f 0 rfl).trans ((K49 0 rfl).trans (K14 0 rfl)))) <| se rfl rfl
      ·exact fun s x e f d u => lp rfl (xm (.int .i64 x5_2) ((f 5 rfl).trans ((K49 5 rfl).trans h18))) <| se rfl rfl
      ·exact fun s x e f d u => vF (.plain rfl) rfl (ltb rfl) rfl Tryz.underlying29 Tryz.sizeOf91 (d 0 rfl) (Rd.ext f_a0 ((e15.t e46).t e)) (d 1 rfl) c52 <| fun p59 h60 => se rfl ⟨_, rfl, h60⟩
      ·intro s x e f d u
       obtain ⟨p61, h62, h63⟩ := (d 2 rfl)
       exact lp rfl (qc Tryz.underlying91 rfl Tryz.sizeOf9 rfl h62) <| se rfl ⟨_, rfl, h63⟩
      ·intro s x e f d u
       obtain ⟨p64, h65, h66⟩ := (d 3 rfl)
       exact lp rfl (yZ Tryz.isAgg9 (j := 2) h66 h65 rfl) <| se rfl rfl
      ·exact fun s x e f d u => lp rfl (xm (.int .i64 (qK.e1 x1_1)) (f 1 rfl)) <| se rfl rfl
      ·exact fun s x e f d u => lc rfl rfl Tryz.call112 (qV.calls (w := x) (a0 := IntKind.wrap .i64 ((IntKind.wrap .i64 (x1_1 + 1)) + 1)) (od c55)) (vu (d 5 rfl) rfl) <| fun w68 e69 => sx rfl e69 rfl
      ·exact fun s x e f d u => lp rfl (Qo (d 4 rfl) (d 6 rfl)) <| se rfl rfl
      intro s70 w71 e72 hf73 ha74
      have K75 := Kp.ofD (kp := [(31, 39)]) rfl hf73
      have d76 : s70 38 = (.bool (!decide (((gt a0 x5_2).body) = (yn (qK.e1 x1_1))))) := ha74 7 rfl
      clear ha74 hf73
      refine qe ?_
      rcases qf H with ⟨q77, H⟩ | ⟨q77, H⟩
      ·refine qq (d76.trans (cb q77)) <| wr <| lp rfl (xa (.int .i64 (-1)) rfl) <| nx <| qu <| qk <| qU <| qk <| qk <| qU <| qk <| qk <| qy ?_
       obtain rfl := si H
       obtain rfl := si S20
       have H := C5
       obtain rfl := si H
       exact qT rfl ((e15.t e46).t e72)
      ·refine qh (d76.trans (cb q77)) <| qv <| qe <| wr <| lp rfl (xm (.int .i64 (qK.e1 x1_1)) (K75 1 rfl)) <| lp rfl (vE rfl rfl) <| lp rfl (qC rfl) <| nx <| qj <| wr <| lp rfl (xm v_a0 ((K75 0 rfl).trans ((K49 0 rfl).trans (K14 0 rfl)))) <| lp rfl (xm (.int .i64 x5_2) ((K75 5 rfl).trans ((K49 5 rfl).trans h18))) ?_
       obtain ⟨c78, H⟩ := qa H
       refine vF (.plain rfl) rfl (ltb rfl) rfl Tryz.underlying29 Tryz.sizeOf91 rfl (Rd.ext f_a0 ((e15.t e46).t e72)) rfl c78 <| fun p79 h80 => lp rfl (qc Tryz.underlying91 rfl Tryz.sizeOf3 rfl rfl) <| lp rfl (yZ Tryz.isAgg3 (j := 3) h80 rfl rfl) <| lp rfl (qg rfl) <| lp rfl (jJ rfl rfl) <| nx ?_
       rcases qf H with ⟨q81, H⟩ | ⟨q81, H⟩
       ·refine qq (cb q81) <| wr <| lp rfl (xa (.int .i64 (-1)) rfl) <| nx <| qu <| qk <| qU <| qk <| qk <| qU <| qk <| qk <| qy ?_
        obtain rfl := si H
        obtain rfl := si S20
        have H := C5
        obtain rfl := si H
        exact qT rfl ((e15.t e46).t e72)
       ·refine qh (cb q81) <| qv <| qe <| qQ <| lp rfl (qg rfl) <| lp rfl (vE rfl rfl) <| lp rfl (qC rfl) <| vL <| yq <| qe <| qQ <| lp rfl (xm (.int .i64 x5_2) ((K75 5 rfl).trans ((K49 5 rfl).trans h18))) <| lp rfl (vE rfl rfl) <| lp rfl (xa (.int .i64 (IntKind.wrap .i64 (x5_2 + 1))) rfl) <| nx ?_
        obtain rfl := si H
        exact ⟨_, Nat.lt_succ_self _, IntKind.wrap .i64 ((IntKind.wrap .i64 ((qK.e1 x1_1) + 1)) + 1), IntKind.wrap .i64 (x5_2 + 1), (ku8 (ku8 (Kp.cut (ku3 (Kp.cut (ku2 (ku4 (ku8 K14 rfl) rfl) rfl) K49 rfl) rfl) K75 rfl) rfl) rfl), rfl, rfl, ((e15.t e46).t e72), S20⟩
   ·refine qh (cb q21) <| vY <| vg <| vg <| yM <| qe ?_
    obtain rfl := si H
    obtain rfl := si S20
    exact ⟨x1_1, (ku4 K14 rfl), h17, e15, rfl⟩
 ·rintro s8 w7 ⟨x1_6, K9, h82, e10, y83⟩
  rw [y83] at C5
  have H := C5
  replace H : _ = some _ := H
  refine qe <| wr <| lp rfl (qg h82) <| lp rfl (xa (.int .i64 x1_6) rfl) <| nx <| qu <| qy ?_
  obtain rfl := si H
  exact qT rfl e10
theorem qK.calls {w : World} {a0 : List Nd} {a1 : Int} {v_a0 : Value} (f_a0 : Rd 4 yv w v_a0 a0) (h0 : a0.length ≤ 1152921504606846976) (h1 : (0 : Int) ≤ a1) (h2 : (a1 : Int) ≤ 4611686018427387904 - 4 * (a0.length : Int)) :
  Calls Tryz.prog 55 #[v_a0, .int .i64 a1] w (Rt (RP w (.int .i64 (Ve a0 a1)))) := by
 obtain ⟨k, h⟩ := qK.eq a0 a1 h0 h1 h2
 exact qK.walk f_a0 h
/-! impl.paths -/
theorem qZ.calls {w : World} {a0 : List (List Rec)} (gv : GV 0 w) {v_a0 : Value} (f_a0 : Rd2 5 ql w v_a0 a0) (h0 : a0.length ≤ 5) (h1 : ∀ l ∈ a0, l.length ≤ 1048576) (h2 : ∀ l ∈ a0, ∀ x ∈ l, x.path.length ≤ 1048576) :
  Calls Tryz.prog 79 #[v_a0] w (Rt (RO 9 1 yu w (vC a0))) := by
 obtain ⟨k, H⟩ := qZ.eq a0 h0 h1 h2
 generalize (vC a0) = r at H ⊢
 unfold qZ.sh at H
 refine qp Tryz.func79 rfl (Nat.le_of_ble_eq_true rfl) Tryz.ntmps79 rfl ?_
 refine wr <| lp rfl (xa (.slice none 0 0) rfl) <| nx <| wr <| jg (.plain rfl) rfl (ltb rfl) rfl Tryz.underlying44 Tryz.sizeOf9 Tryz.zeroValue9 rfl rfl rfl (vs := []) rfl (vM rfl) <| fun b1 w2 z3 z4 e5 k6 => lp rfl (xa (.slice (some ⟨b1, 0, none⟩) 0 0) rfl) <| nx <| qj <| wr <| lp rfl (xm v_a0 rfl) <| lp rfl (X_lenR2 Tryz.underlying23 rfl (Rd2.ext f_a0 e5)) <| lp rfl (xm (.int .i64 0) rfl) <| nx ?_
 obtain ⟨z10, L11, C12⟩ := bind_some H
 clear H
 refine  vT (fun s0 sQ wQ => ∃ (x3_13 : List (List UInt8)) (v14 : Value), Kp [(3, 4), (5, 6), (7, 8), (11, 28)] s0 sQ ∧ sQ 3 = v14 ∧ Ow 9 1 yu w2.heap.size wQ v14 x3_13 ∧ Ext w2 wQ ∧ z10 = .inr x3_13) ?_ ?_
 ·refine qH <| vy (fun s0 kk sQ wQ => ∃ (x3_7 : List (List UInt8)) (v8 : Value) (x11_9 : Int), Kp [(3, 4), (5, 6), (7, 8), (11, 28)] s0 sQ ∧ sQ 3 = v8 ∧ Ow 9 1 yu w2.heap.size wQ v8 x3_7 ∧ sQ 11 = .int .i64 x11_9 ∧ Ext w2 wQ ∧ qr (qZ.b1 k a0) kk (x3_7, x11_9) = some z10) k ⟨([] : List (List UInt8)), (.slice (some ⟨b1, 0, none⟩) 0 0), 0, kz, rfl, (Ow.zero), rfl, er, L11⟩ ?_
  rintro k19 s20 w21 ⟨x3_7, v8, x11_9, K22, h25, h26, h27, e23, L24⟩
  cases k19 with
  | zero => exact absurd L24 (by simp [qr])
  | succ k19 =>
   obtain ⟨t28, H, S29⟩ := qO L24
   clear L24
   unfold qZ.b1 at H
   refine wr <| lp rfl (vI h27 (K22 10 rfl)) <| nx <| qj ?_
   rcases qf H with ⟨q30, H⟩ | ⟨q30, H⟩
   ·refine qq (cb q30) <| qv <| qe <| qj <| qH <| wr ?_
    obtain ⟨c31, H⟩ := qa H
    refine L_idx2o (.plain rfl) rfl (ltb rfl) rfl Tryz.underlying23 Tryz.sizeOf35 (K22 9 rfl) f_a0 (e5.t e23) h27 c31 <| fun p32 v34 h33 h35 => lp rfl (yW Tryz.isAgg35 rfl h33 rfl) <| lp rfl (xa v34 rfl) <| nx <| wr <| lp rfl (xm v34 rfl) <| lp rfl (vf Tryz.underlying35 rfl (Rd.ext h35 (e5.t e23))) <| lp rfl (xm (.int .i64 0) rfl) <| nx ?_
    obtain ⟨z39, L40, C41⟩ := bind_some H
    clear H
    refine  vT (fun s0 sQ wQ => ∃ (x3_42 : List (List UInt8)) (v43 : Value), Kp [(3, 4), (7, 8), (17, 27)] s0 sQ ∧ sQ 3 = v43 ∧ Ow 9 1 yu w2.heap.size wQ v43 x3_42 ∧ Ext w2 wQ ∧ z39 = .inr x3_42) ?_ ?_
    ·refine qH <| vy (fun s0 kk sQ wQ => ∃ (x3_36 : List (List UInt8)) (v37 : Value) (x17_38 : Int), Kp [(3, 4), (7, 8), (17, 27)] s0 sQ ∧ sQ 3 = v37 ∧ Ow 9 1 yu w2.heap.size wQ v37 x3_36 ∧ sQ 17 = .int .i64 x17_38 ∧ Ext w2 wQ ∧ qr (qZ.b2 a0 x11_9) kk (x3_36, x17_38) = some z39) k ⟨x3_7, v8, 0, kz, h25, h26, rfl, e23, L40⟩ ?_
     rintro k48 s49 w50 ⟨x3_36, v37, x17_38, K51, h54, h55, h56, e52, L53⟩
     cases k48 with
     | zero => exact absurd L53 (by simp [qr])
     | succ k48 =>
      obtain ⟨t57, H, S58⟩ := qO L53
      clear L53
      unfold qZ.b2 at H
      refine wr <| lp rfl (vI h56 (K51 16 rfl)) <| nx <| qj ?_
      rcases qf H with ⟨q59, H⟩ | ⟨q59, H⟩
      ·refine qq (cb q59) <| qv <| qe <| qj <| qH <| wr ?_
       obtain ⟨c60, H⟩ := qa H
       refine vF (.plain rfl) rfl (ltb rfl) rfl Tryz.underlying35 Tryz.sizeOf52 (K51 15 rfl) (Rd.ext h35 (e5.t e52)) h56 c60 <| fun p61 h62 => lp rfl (vN Tryz.isAgg52 Tryz.sizeOf52 rfl rfl h62) <| j7 (.plain rfl) rfl (ltb rfl) rfl Tryz.zeroValue52 <| fun b63 w64 z65 z66 e67 k68 => yk (.plain rfl) rfl rfl Tryz.sizeOf52 rfl rfl rfl rfl rfl k68 <| fun w69 h70 k71 => nx <| qQ <| lp rfl (qg h54) <| lp rfl (qc Tryz.underlying52 rfl Tryz.sizeOf9 rfl rfl) <| lp rfl (qA Tryz.isAgg9 k71 rfl rfl) <| jg (.plain rfl) rfl (ltb rfl) rfl Tryz.underlying44 Tryz.sizeOf9 Tryz.zeroValue9 rfl rfl rfl (vs := [(S ((gt (gt a0 x11_9) x17_38).path))]) rfl (vM rfl) <| fun b72 w73 z74 z75 e76 k77 => ?_
       obtain ⟨c78, H⟩ := qa H
       refine Qm (enc := yu) (.plain rfl) rfl (ltb rfl) rfl El.t44 rfl rfl (Ow.ext h55 (Ext.trans (Below.trans e67 (Wr.below h70 (Nat.le_of_eq z65))) e76)) (Ow.rd (Ow.new (xs := [(gt (gt a0 x11_9) x17_38).path]) (sz := 1) (enc := yu) (base := w69.heap.size) k77 (Nat.le_of_eq z74) rfl (fun _ _ => by rfl) (Nat.le_of_ble_eq_true rfl))) (XG _) (od c78) (((e52.t (Below.trans e67 (Wr.below h70 (Nat.le_of_eq z65)))).t e76)).size <| fun v79 w80 o81 z82 g83 => lp rfl (xa v79 rfl) <| vL <| yq <| qe <| qQ <| lp rfl (vE h56 rfl) <| lp rfl (xm (.int .i64 (IntKind.wrap .i64 (x17_38 + 1))) rfl) <| nx ?_
       obtain rfl := si H
       exact ⟨_, Nat.lt_succ_self _, x3_36 ++ ([(gt (gt a0 x11_9) x17_38).path] : List (List UInt8)), v79, IntKind.wrap .i64 (x17_38 + 1), (ku4 (ku8 K51 rfl) rfl), rfl, o81, rfl, (g83 _ ((e52.t (Below.trans e67 (Wr.below h70 (Nat.le_of_eq z65)))).t e76)), S58⟩
      ·refine qh (cb q59) <| vY <| vg <| vg <| yM <| qe ?_
       obtain rfl := si H
       obtain rfl := si S58
       exact ⟨x3_36, v37, (ku1 K51 rfl), h54, h55, e52, rfl⟩
    ·rintro s45 w44 ⟨x3_42, v43, K46, h84, h85, e47, y86⟩
     rw [y86] at C41
     have H := C41
     replace H : _ = some _ := H
     refine yq <| qe <| qQ <| lp rfl (vE ((K46 11 rfl).trans h27) rfl) <| lp rfl (xm (.int .i64 (IntKind.wrap .i64 (x11_9 + 1))) rfl) <| nx ?_
     obtain rfl := si H
     exact ⟨_, Nat.lt_succ_self _, x3_42, v43, IntKind.wrap .i64 (x11_9 + 1), (ku2 (Kp.cut (ku3 (ku4 K22 rfl) rfl) K46 rfl) rfl), h84, h85, rfl, e47, S29⟩
   ·refine qh (cb q30) <| vY <| vg <| vg <| yM <| qe ?_
    obtain rfl := si H
    obtain rfl := si S29
    exact ⟨x3_7, v8, (ku1 K22 rfl), h25, h26, e23, rfl⟩
 ·rintro s16 w15 ⟨x3_13, v14, K17, h87, h88, e18, y89⟩
  rw [y89] at C12
  have H := C12
  replace H : _ = some _ := H
  refine qe <| wr <| lp rfl (qg h87) ?_
  obtain ⟨c90, H⟩ := qa H
  obtain ⟨c91, H⟩ := qa H
  refine QY (.plain rfl) rfl (ltb rfl) rfl Tryz.call136 (Jv.calls (w := w15) h88 (GV.ext gv (e5.t e18)) (GV.pos (GV.ext gv e5)) (od c90) (od c91)) rfl <| fun _ w92 A93 => ?_
  obtain ⟨rfl, B94, ys95, p96, q97, o98⟩ := A93
  refine nx <| wr <| lp rfl (qg h87) <| QY (.plain rfl) rfl (ltb rfl) rfl Tryz.call137 (JR.calls (w := w92) o98 p96 q97) rfl <| fun v103 w99 A100 => ?_
  obtain ⟨B101, o102⟩ := A100
  refine lp rfl (xa v103 rfl) <| nx <| qu <| qy ?_
  obtain rfl := si H
  exact YB rfl (e5.t (B101 _ (B94 _ e18))) o102 (e5).size
/-! spec.l00Digits, by text -/
theorem V0.calls {w : World} {a0 : Int} (h0 : False) : Calls Tryz.prog 200 #[.int .i64 a0] w (Rt (RP w (S ([] : List UInt8)))) := h0.elim

/-! spec.l00Digits -/
abbrev qW.e1 (a0 : Int) := ([IntKind.wrap .u8 (IntKind.wrap .i64 (48 + (a0.tmod 10)))] : List Int)
theorem qW.walk {w : World} {a0 : Int} {r : List UInt8} (H : qW.sh a0 = some r) :
  Calls Tryz.prog 200 #[.int .i64 a0] w (Rt (RP w (S r))) := by
 unfold qW.sh at H
 refine qp Tryz.func200 rfl (Nat.le_of_ble_eq_true rfl) Tryz.ntmps200 rfl ?_
 refine wr <| lp rfl (xa (S ([] : List UInt8)) rfl) <| nx <| qj <| wr <| lp rfl (xm (.int .i64 a0) rfl) <| lp rfl (yp rfl rfl) <| nx ?_
 rcases qf H with ⟨q1, H⟩ | ⟨q1, H⟩
 ·refine qq (cb q1) <| wr <| lp rfl (qC rfl) <| nx <| qu <| qk <| qy ?_
  obtain rfl := si H
  exact qT rfl er
 ·refine qh (cb q1) <| qv <| qe <| qj <| wr <| lp rfl (xm (.int .i64 a0) rfl) <| lp rfl (vI rfl rfl) <| nx ?_
  rcases qf H with ⟨q2, H⟩ | ⟨q2, H⟩
  ·refine qq (cb q2) <| wr <| lp rfl (xm (.int .i64 a0) rfl) <| lp rfl (X_neg rfl) ?_
   obtain ⟨c3, H⟩ := qa H
   refine lc rfl rfl Tryz.call200 (V0.calls (w := w) (a0 := IntKind.wrap .i64 (0 - a0)) (od c3)) rfl <| fun w4 e5 => ?_
   obtain ⟨c6, H⟩ := qa H
   refine lp rfl (VX rfl rfl (od c6)) <| lp rfl (xa (S (([45] : List UInt8) ++ ([] : List UInt8))) rfl) <| nx <| qu <| qk <| qy ?_
   obtain rfl := si H
   exact qT rfl e5
  ·refine qh (cb q2) <| qv <| qe <| qj <| wr <| lp rfl (xm (.int .i64 a0) rfl) <| lp rfl (vI rfl rfl) <| nx ?_
   rcases qf H with ⟨q7, H⟩ | ⟨q7, H⟩
   ·refine qq (cb q7) <| wr <| lp rfl (xm (.int .i64 a0) rfl) <| lp rfl (vE rfl rfl) <| lp rfl (Q2 Tryz.underlying3 Tryz.underlying5 rfl) <| jg (.plain rfl) rfl (ltb rfl) rfl Tryz.underlying22 Tryz.sizeOf5 Tryz.zeroValue5 rfl rfl rfl (vs := [(.int .u8 (IntKind.wrap .u8 (IntKind.wrap .i64 (48 + a0))))]) rfl (vM rfl) <| fun b8 w9 z10 z11 e12 k13 => lp rfl (Yl Tryz.underlying22 Tryz.underlying5 Tryz.underlying9 rfl (Ow.rd (Ow.new (xs := [IntKind.wrap .u8 (IntKind.wrap .i64 (48 + a0))]) (sz := 1) (enc := (Go.UL.encI .u8)) (base := w.heap.size) k13 (Nat.le_of_eq z10) rfl (fun _ _ => by rfl) (Nat.le_of_ble_eq_true rfl)))) <| lp rfl (qC rfl) <| nx <| qu <| qk <| qy ?_
    obtain rfl := si H
    exact qT rfl e12
   ·refine qh (cb q7) <| qv <| qe <| qj ?_
    obtain ⟨c14, H⟩ := qa H
    obtain ⟨c23, H⟩ := qa H
    refine Yv [LEq (.int .i64 a0), LEq (.int .i64 (IntKind.wrap .i64 (a0.tdiv 10))), LEq (S ([] : List UInt8)), LEq (.int .i64 a0), LEq (.int .i64 (a0.tmod 10)), LEq (.int .i64 (IntKind.wrap .i64 (48 + (a0.tmod 10)))), LEq (.int .u8 (IntKind.wrap .u8 (IntKind.wrap .i64 (48 + (a0.tmod 10))))), LRd 1 (Go.UL.encI .u8) (qW.e1 a0), LEq (S (yA (qW.e1 a0))), LEq (S (([] : List UInt8) ++ (yA (qW.e1 a0)))), LEq (S (([] : List UInt8) ++ (yA (qW.e1 a0))))] (by kernel_rfl) (by kernel_rfl) ⟨qm, qm, qm, qm, qm, qm, qm, LRd.mono, qm, qm, qm, trivial⟩ ⟨?_, ?_, ?_, ?_, ?_, ?_, ?_, ?_, ?_, ?_, ?_, trivial⟩ ?_
    ·exact fun s x e f d u => lp rfl (xm (.int .i64 a0) (f 0 rfl)) <| se rfl rfl
    ·exact fun s x e f d u => lp rfl (X_quo (d 0 rfl) rfl (by decide)) <| se rfl rfl
    ·exact fun s x e f d u => lc rfl rfl Tryz.call200 (V0.calls (w := x) (a0 := IntKind.wrap .i64 (a0.tdiv 10)) (od c14)) (vu (d 1 rfl) rfl) <| fun w25 e26 => sx rfl e26 rfl
    ·exact fun s x e f d u => lp rfl (xm (.int .i64 a0) (f 0 rfl)) <| se rfl rfl
    ·exact fun s x e f d u => lp rfl (X_rem (d 3 rfl) rfl (by decide)) <| se rfl rfl
    ·exact fun s x e f d u => lp rfl (vE rfl (d 4 rfl)) <| se rfl rfl
    ·exact fun s x e f d u => lp rfl (Q2 Tryz.underlying3 Tryz.underlying5 (d 5 rfl)) <| se rfl rfl
    ·exact fun s x e f d u => jg (.plain rfl) rfl (ltb rfl) rfl Tryz.underlying22 Tryz.sizeOf5 Tryz.zeroValue5 rfl rfl rfl (vs := [(.int .u8 (IntKind.wrap .u8 (IntKind.wrap .i64 (48 + (a0.tmod 10)))))]) (vu (d 6 rfl) rfl) (vM rfl) <| fun b27 w28 z29 z30 e31 k32 => sx rfl e31 (Ow.rd (Ow.new (xs := [IntKind.wrap .u8 (IntKind.wrap .i64 (48 + (a0.tmod 10)))]) (sz := 1) (enc := (Go.UL.encI .u8)) (base := x.heap.size) k32 (Nat.le_of_eq z29) rfl (fun _ _ => by rfl) (Nat.le_of_ble_eq_true rfl)))
    ·intro s x e f d u
     have d33 : Rd 1 (Go.UL.encI .u8) x (s 25) (qW.e1 a0) := (d 7 rfl)
     exact lp rfl (Yl Tryz.underlying22 Tryz.underlying5 Tryz.underlying9 rfl d33) <| se rfl rfl
    ·exact fun s x e f d u => lp rfl (VX (d 2 rfl) (d 8 rfl) (od c23)) <| se rfl rfl
    ·exact fun s x e f d u => lp rfl (qC (d 9 rfl)) <| se rfl rfl
    intro s35 w36 e37 hf38 ha39
    have K40 := Kp.ofD (kp := [(2, 3), (18, 28)]) rfl hf38
    have d41 : s35 2 = (S (([] : List UInt8) ++ (yA (qW.e1 a0)))) := ha39 10 rfl
    clear ha39 hf38
    refine qe <| qu <| qy ?_
    obtain rfl := si H
    exact qT d41 e37
theorem qW.calls {w : World} {a0 : Int} (h0 : (0 : Int) ≤ a0) (h1 : (a0 : Int) < 10) :
  Calls Tryz.prog 200 #[.int .i64 a0] w (Rt (RP w (S (yQ a0.toNat)))) := qW.walk (qW.eq a0 h0 h1)
/-! spec.l00Digits -/
abbrev vc.e1 (a0 : Int) := ([IntKind.wrap .u8 (IntKind.wrap .i64 (48 + (a0.tmod 10)))] : List Int)
theorem vc.walk {w : World} {a0 : Int} {r : List UInt8} (H : vc.sh a0 = some r) :
  Calls Tryz.prog 200 #[.int .i64 a0] w (Rt (RP w (S r))) := by
 unfold vc.sh at H
 refine qp Tryz.func200 rfl (Nat.le_of_ble_eq_true rfl) Tryz.ntmps200 rfl ?_
 refine wr <| lp rfl (xa (S ([] : List UInt8)) rfl) <| nx <| qj <| wr <| lp rfl (xm (.int .i64 a0) rfl) <| lp rfl (yp rfl rfl) <| nx ?_
 rcases qf H with ⟨q1, H⟩ | ⟨q1, H⟩
 ·refine qq (cb q1) <| wr <| lp rfl (qC rfl) <| nx <| qu <| qk <| qy ?_
  obtain rfl := si H
  exact qT rfl er
 ·refine qh (cb q1) <| qv <| qe <| qj <| wr <| lp rfl (xm (.int .i64 a0) rfl) <| lp rfl (vI rfl rfl) <| nx ?_
  rcases qf H with ⟨q2, H⟩ | ⟨q2, H⟩
  ·refine qq (cb q2) <| wr <| lp rfl (xm (.int .i64 a0) rfl) <| lp rfl (X_neg rfl) ?_
   obtain ⟨c3, H⟩ := qa H
   obtain ⟨c4, H⟩ := qa H
   refine lc rfl rfl Tryz.call200 (qW.calls (w := w) (a0 := IntKind.wrap .i64 (0 - a0)) (od c3) (od c4)) rfl <| fun w5 e6 => ?_
   obtain ⟨c7, H⟩ := qa H
   refine lp rfl (VX rfl rfl (od c7)) <| lp rfl (qC rfl) <| nx <| qu <| qk <| qy ?_
   obtain rfl := si H
   exact qT rfl e6
  ·refine qh (cb q2) <| qv <| qe <| qj <| wr <| lp rfl (xm (.int .i64 a0) rfl) <| lp rfl (vI rfl rfl) <| nx ?_
   rcases qf H with ⟨q8, H⟩ | ⟨q8, H⟩
   ·refine qq (cb q8) <| wr <| lp rfl (xm (.int .i64 a0) rfl) <| lp rfl (vE rfl rfl) <| lp rfl (Q2 Tryz.underlying3 Tryz.underlying5 rfl) <| jg (.plain rfl) rfl (ltb rfl) rfl Tryz.underlying22 Tryz.sizeOf5 Tryz.zeroValue5 rfl rfl rfl (vs := [(.int .u8 (IntKind.wrap .u8 (IntKind.wrap .i64 (48 + a0))))]) rfl (vM rfl) <| fun b9 w10 z11 z12 e13 k14 => lp rfl (Yl Tryz.underlying22 Tryz.underlying5 Tryz.underlying9 rfl (Ow.rd (Ow.new (xs := [IntKind.wrap .u8 (IntKind.wrap .i64 (48 + a0))]) (sz := 1) (enc := (Go.UL.encI .u8)) (base := w.heap.size) k14 (Nat.le_of_eq z11) rfl (fun _ _ => by rfl) (Nat.le_of_ble_eq_true rfl)))) <| lp rfl (qC rfl) <| nx <| qu <| qk <| qy ?_
    obtain rfl := si H
    exact qT rfl e13
   ·refine qh (cb q8) <| qv <| qe <| qj ?_
    obtain ⟨c15, H⟩ := qa H
    obtain ⟨c16, H⟩ := qa H
    obtain ⟨c25, H⟩ := qa H
    refine Yv [LEq (.int .i64 a0), LEq (.int .i64 (IntKind.wrap .i64 (a0.tdiv 10))), LEq (S (yQ (IntKind.wrap .i64 (a0.tdiv 10)).toNat)), LEq (.int .i64 a0), LEq (.int .i64 (a0.tmod 10)), LEq (.int .i64 (IntKind.wrap .i64 (48 + (a0.tmod 10)))), LEq (.int .u8 (IntKind.wrap .u8 (IntKind.wrap .i64 (48 + (a0.tmod 10))))), LRd 1 (Go.UL.encI .u8) (vc.e1 a0), LEq (S (yA (vc.e1 a0))), LEq (S ((yQ (IntKind.wrap .i64 (a0.tdiv 10)).toNat) ++ (yA (vc.e1 a0)))), LEq (S ((yQ (IntKind.wrap .i64 (a0.tdiv 10)).toNat) ++ (yA (vc.e1 a0))))] (by kernel_rfl) (by kernel_rfl) ⟨qm, qm, qm, qm, qm, qm, qm, LRd.mono, qm, qm, qm, trivial⟩ ⟨?_, ?_, ?_, ?_, ?_, ?_, ?_, ?_, ?_, ?_, ?_, trivial⟩ ?_
    ·exact fun s x e f d u => lp rfl (xm (.int .i64 a0) (f 0 rfl)) <| se rfl rfl
    ·exact fun s x e f d u => lp rfl (X_quo (d 0 rfl) rfl (by decide)) <| se rfl rfl
    ·exact fun s x e f d u => lc rfl rfl Tryz.call200 (qW.calls (w := x) (a0 := IntKind.wrap .i64 (a0.tdiv 10)) (od c15) (od c16)) (vu (d 1 rfl) rfl) <| fun w28 e29 => sx rfl e29 rfl
    ·exact fun s x e f d u => lp rfl (xm (.int .i64 a0) (f 0 rfl)) <| se rfl rfl
    ·exact fun s x e f d u => lp rfl (X_rem (d 3 rfl) rfl (by decide)) <| se rfl rfl
    ·exact fun s x e f d u => lp rfl (vE rfl (d 4 rfl)) <| se rfl rfl
    ·exact fun s x e f d u => lp rfl (Q2 Tryz.underlying3 Tryz.underlying5 (d 5 rfl)) <| se rfl rfl
    ·exact fun s x e f d u => jg (.plain rfl) rfl (ltb rfl) rfl Tryz.underlying22 Tryz.sizeOf5 Tryz.zeroValue5 rfl rfl rfl (vs := [(.int .u8 (IntKind.wrap .u8 (IntKind.wrap .i64 (48 + (a0.tmod 10)))))]) (vu (d 6 rfl) rfl) (vM rfl) <| fun b30 w31 z32 z33 e34 k35 => sx rfl e34 (Ow.rd (Ow.new (xs := [IntKind.wrap .u8 (IntKind.wrap .i64 (48 + (a0.tmod 10)))]) (sz := 1) (enc := (Go.UL.encI .u8)) (base := x.heap.size) k35 (Nat.le_of_eq z32) rfl (fun _ _ => by rfl) (Nat.le_of_ble_eq_true rfl)))
    ·intro s x e f d u
     have d36 : Rd 1 (Go.UL.encI .u8) x (s 25) (vc.e1 a0) := (d 7 rfl)
     exact lp rfl (Yl Tryz.underlying22 Tryz.underlying5 Tryz.underlying9 rfl d36) <| se rfl rfl
    ·exact fun s x e f d u => lp rfl (VX (d 2 rfl) (d 8 rfl) (od c25)) <| se rfl rfl
    ·exact fun s x e f d u => lp rfl (qC (d 9 rfl)) <| se rfl rfl
    intro s38 w39 e40 hf41 ha42
    have K43 := Kp.ofD (kp := [(2, 3), (18, 28)]) rfl hf41
    have d44 : s38 2 = (S ((yQ (IntKind.wrap .i64 (a0.tdiv 10)).toNat) ++ (yA (vc.e1 a0)))) := ha42 10 rfl
    clear ha42 hf41
    refine qe <| qu <| qy ?_
    obtain rfl := si H
    exact qT d44 e40
theorem vc.calls {w : World} {a0 : Int} (h0 : (0 : Int) ≤ a0) (h1 : (a0 : Int) < 100) :
  Calls Tryz.prog 200 #[.int .i64 a0] w (Rt (RP w (S (yQ a0.toNat)))) := vc.walk (vc.eq a0 h0 h1)
/-! spec.l05First -/
abbrev qF.e1 (a0 : List Rec) (a1 : List Rec) (x7_13 : Int) := ((decide (x7_13 < (a0.length : Int))) && (decide (x7_13 < (a1.length : Int))))
theorem qF.walk {k : Nat} {w : World} {a0 : List Rec} {a1 : List Rec} {v_a0 : Value} (f_a0 : Rd 5 ql w v_a0 a0) {v_a1 : Value} (f_a1 : Rd 5 ql w v_a1 a1) {r : Rec × Rec × Bool} (H : qF.sh k a0 a1 = some r) :
  Calls Tryz.prog 143 #[v_a0, v_a1] w (Rt (RP w (.tuple #[.agg (ql r.1).toArray, .agg (ql r.2.1).toArray, .bool r.2.2]))) := by
 unfold qF.sh at H
 refine JK Tryz.func143 rfl (Nat.le_of_ble_eq_true rfl) Tryz.ntmps143 ?_
 refine wr <| j7 (.plain rfl) rfl (ltb rfl) rfl Tryz.zeroValue52 <| fun b1 w2 z3 z4 e5 k6 => j7 (.plain rfl) rfl (ltb rfl) rfl Tryz.zeroValue52 <| fun b7 w8 z9 z10 e11 k12 => lp rfl (xa (.bool false) rfl) <| nx <| wr <| lp rfl (xa (.int .i64 0) rfl) <| nx <| qj ?_
 obtain ⟨z14, L15, C16⟩ := bind_some H
 clear H
 refine  vT (fun s0 sQ wQ => ∃ (x7_17 : Int), Kp [(7, 31)] s0 sQ ∧ sQ 7 = .int .i64 x7_17 ∧ Ext w8 wQ ∧ z14 = .inr x7_17) ?_ ?_
 ·refine qH <| vy (fun s0 kk sQ wQ => ∃ (x7_13 : Int), Kp [(7, 31)] s0 sQ ∧ sQ 7 = .int .i64 x7_13 ∧ Ext w8 wQ ∧ qr (qF.b1 a0 a1) kk x7_13 = some z14) k ⟨0, kz, rfl, er, L15⟩ ?_
  rintro k22 s23 w24 ⟨x7_13, K25, h28, e26, L27⟩
  cases k22 with
  | zero => exact absurd L27 (by simp [qr])
  | succ k22 =>
   obtain ⟨t29, H, S30⟩ := qO L27
   clear L27
   unfold qF.b1 at H
   refine qj <| qj ?_
   obtain ⟨c31, H⟩ := qa H
   obtain ⟨c34, H⟩ := qa H
   refine Yv [LEq (.int .i64 x7_13), LEq v_a0, LEq (.int .i64 (a0.length : Int)), LEq (.bool (decide (x7_13 < (a0.length : Int)))), LEq (.bool (decide (x7_13 < (a0.length : Int)))), LIf (decide (x7_13 < (a0.length : Int))) (LEq (.int .i64 x7_13)), LIf (decide (x7_13 < (a0.length : Int))) (LEq v_a1), LIf (decide (x7_13 < (a0.length : Int))) (LEq (.int .i64 (a1.length : Int))), LIf (decide (x7_13 < (a0.length : Int))) (LEq (.bool (decide (x7_13 < (a1.length : Int))))), LEq (.bool (qF.e1 a0 a1 x7_13)), LEq (.bool (qF.e1 a0 a1 x7_13)), LIf (qF.e1 a0 a1 x7_13) (LEq v_a0), LIf (qF.e1 a0 a1 x7_13) (LEq (.int .i64 x7_13)), LIf (qF.e1 a0 a1 x7_13) (yD (ql (gt a0 x7_13))), LIf (qF.e1 a0 a1 x7_13) (LEq (.agg (ql (gt a0 x7_13)).toArray)), LIf (qF.e1 a0 a1 x7_13) (LEq v_a1), LIf (qF.e1 a0 a1 x7_13) (LEq (.int .i64 x7_13)), LIf (qF.e1 a0 a1 x7_13) (yD (ql (gt a1 x7_13))), LIf (qF.e1 a0 a1 x7_13) (LEq (.agg (ql (gt a1 x7_13)).toArray)), LIf (qF.e1 a0 a1 x7_13) (LEq (.bool (decide ((gt a0 x7_13) = (gt a1 x7_13))))), LEq (.bool ((qF.e1 a0 a1 x7_13) && (decide ((gt a0 x7_13) = (gt a1 x7_13)))))] (by kernel_rfl) (by kernel_rfl) ⟨qm, qm, qm, qm, qm, lm, lm, lm, lm, qm, qm, lm, lm, (LIf.mono yD.mono), lm, lm, lm, (LIf.mono yD.mono), lm, lm, qm, trivial⟩ ⟨?_, ?_, ?_, ?_, ?_, ?_, ?_, ?_, ?_, ?_, ?_, ?_, ?_, ?_, ?_, ?_, ?_, ?_, ?_, ?_, ?_, trivial⟩ ?_
   ·exact fun s x e f d u => lp rfl (xm (.int .i64 x7_13) ((f 7 rfl).trans h28)) <| se rfl rfl
   ·exact fun s x e f d u => lp rfl (xm v_a0 ((f 0 rfl).trans (K25 0 rfl))) <| se rfl rfl
   ·exact fun s x e f d u => lp rfl (vf Tryz.underlying35 (d 1 rfl) (Rd.ext f_a0 (((e5.t e11).t e26).t e))) <| se rfl rfl
   ·exact fun s x e f d u => lp rfl (vI (d 0 rfl) (d 2 rfl)) <| se rfl rfl
   ·exact fun s x e f d u => lp rfl (qg (d 3 rfl)) <| se rfl rfl
   ·exact fun s x e f d u => gT rfl rfl rfl rfl (d 4 rfl) rfl fun b t => lt t rfl rfl (xm (.int .i64 x7_13) ((f 7 rfl).trans h28)) <| sg rfl rfl b rfl
   ·exact fun s x e f d u => gT rfl rfl rfl rfl (d 4 rfl) rfl fun b t => lt t rfl rfl (xm v_a1 ((f 1 rfl).trans (K25 1 rfl))) <| sg rfl rfl b rfl
   ·exact fun s x e f d u => gT rfl rfl rfl rfl (d 4 rfl) rfl fun b t => lt t rfl rfl (vf Tryz.underlying35 ((d 6 rfl).1 b) (Rd.ext f_a1 (((e5.t e11).t e26).t e))) <| sg rfl rfl b rfl
   ·exact fun s x e f d u => gT rfl rfl rfl rfl (d 4 rfl) rfl fun b t => lt t rfl rfl (vI ((d 5 rfl).1 b) ((d 7 rfl).1 b)) <| sg rfl rfl b rfl
   ·exact fun s x e f d u => lp rfl (j4 (d 4 rfl) rfl fun h => ((d 8 rfl).1 h)) <| se rfl rfl
   ·exact fun s x e f d u => lp rfl (qg (d 9 rfl)) <| se rfl rfl
   ·exact fun s x e f d u => gT rfl rfl rfl rfl (d 10 rfl) rfl fun b t => lt t rfl rfl (xm v_a0 ((f 0 rfl).trans (K25 0 rfl))) <| sg rfl rfl b rfl
   ·exact fun s x e f d u => gT rfl rfl rfl rfl (d 10 rfl) rfl fun b t => lt t rfl rfl (xm (.int .i64 x7_13) ((f 7 rfl).trans h28)) <| sg rfl rfl b rfl
   ·exact fun s x e f d u => gT rfl rfl rfl rfl (d 10 rfl) rfl fun b t => vF t rfl (ltb rfl) rfl Tryz.underlying35 Tryz.sizeOf52 ((d 11 rfl).1 b) (Rd.ext f_a0 (((e5.t e11).t e26).t e)) ((d 12 rfl).1 b) (yY b c31) <| fun p38 h39 => sg rfl rfl b ⟨_, rfl, h39⟩
   ·intro s x e f d u
    refine gT rfl rfl rfl rfl (d 10 rfl) rfl fun b t => ?_
    obtain ⟨p40, h41, h42⟩ := ((d 13 rfl).1 b)
    exact lt t rfl rfl (vN Tryz.isAgg52 Tryz.sizeOf52 rfl h41 h42) <| sg rfl rfl b rfl
   ·exact fun s x e f d u => gT rfl rfl rfl rfl (d 10 rfl) rfl fun b t => lt t rfl rfl (xm v_a1 ((f 1 rfl).trans (K25 1 rfl))) <| sg rfl rfl b rfl
   ·exact fun s x e f d u => gT rfl rfl rfl rfl (d 10 rfl) rfl fun b t => lt t rfl rfl (xm (.int .i64 x7_13) ((f 7 rfl).trans h28)) <| sg rfl rfl b rfl
   ·exact fun s x e f d u => gT rfl rfl rfl rfl (d 10 rfl) rfl fun b t => vF t rfl (ltb rfl) rfl Tryz.underlying35 Tryz.sizeOf52 ((d 15 rfl).1 b) (Rd.ext f_a1 (((e5.t e11).t e26).t e)) ((d 16 rfl).1 b) (yY b c34) <| fun p44 h45 => sg rfl rfl b ⟨_, rfl, h45⟩
   ·intro s x e f d u
    refine gT rfl rfl rfl rfl (d 10 rfl) rfl fun b t => ?_
    obtain ⟨p46, h47, h48⟩ := ((d 17 rfl).1 b)
    exact lt t rfl rfl (vN Tryz.isAgg52 Tryz.sizeOf52 rfl h47 h48) <| sg rfl rfl b rfl
   ·exact fun s x e f d u => gT rfl rfl rfl rfl (d 10 rfl) rfl fun b t => lt t rfl rfl (X_eqA Eqg.t52 (Eqs.t52 (gt a0 x7_13) (gt a1 x7_13)) ((d 14 rfl).1 b) ((d 18 rfl).1 b)) <| sg rfl rfl b rfl
   ·exact fun s x e f d u => lp rfl (j4 (d 10 rfl) rfl fun h => ((d 19 rfl).1 h)) <| se rfl rfl
   intro s49 w50 e51 hf52 ha53
   have K54 := Kp.ofD (kp := [(8, 29)]) rfl hf52
   have d55 : s49 28 = (.bool ((qF.e1 a0 a1 x7_13) && (decide ((gt a0 x7_13) = (gt a1 x7_13))))) := ha53 20 rfl
   clear ha53 hf52
   refine qe ?_
   rcases qf H with ⟨q56, H⟩ | ⟨q56, H⟩
   ·refine qq (d55.trans (cb q56)) <| qv <| qe <| qH <| qQ <| lp rfl (xm (.int .i64 x7_13) ((K54 7 rfl).trans h28)) <| lp rfl (vE rfl rfl) <| lp rfl (xa (.int .i64 (IntKind.wrap .i64 (x7_13 + 1))) rfl) <| vL <| yq <| qe ?_
    obtain rfl := si H
    exact ⟨_, Nat.lt_succ_self _, IntKind.wrap .i64 (x7_13 + 1), (ku3 (Kp.cut K25 K54 rfl) rfl), rfl, (e26.t e51), S30⟩
   ·refine qh (d55.trans (cb q56)) <| vY <| vg <| vg <| yM <| qe ?_
    obtain rfl := si H
    obtain rfl := si S30
    exact ⟨x7_13, (Kp.cut K25 K54 rfl), ((K54 7 rfl).trans h28), (e26.t e51), rfl⟩
 ·rintro s19 w18 ⟨x7_17, K20, h57, e21, y58⟩
  rw [y58] at C16
  have H := C16
  replace H : _ = some _ := H
  refine qe <| qj <| qH <| wr <| lp rfl (qg h57) <| lp rfl (xm v_a0 (K20 0 rfl)) <| lp rfl (vf Tryz.underlying35 rfl (Rd.ext f_a0 ((e5.t e11).t e21))) <| lp rfl (yp rfl rfl) <| lp rfl (xm (.bool (decide (x7_17 = (a0.length : Int)))) rfl) <| yR 5 [(37, 42)] 41 (.bool ((decide (x7_17 = (a0.length : Int))) && (decide (x7_17 = (a1.length : Int))))) ?_ ?_
  ·rcases qw (decide (x7_17 = (a0.length : Int))) with b58_ | b58_
   ·exact lg rfl rfl rfl rfl (cb b58_) (qg h57) <| lg rfl rfl rfl rfl (cb b58_) (xm v_a1 (K20 1 rfl)) <| lg rfl rfl rfl rfl (cb b58_) (vf Tryz.underlying35 rfl (Rd.ext f_a1 ((e5.t e11).t e21))) <| lg rfl rfl rfl rfl (cb b58_) (yp rfl rfl) <| lp rfl (qE (b := true) (v := (.bool (decide (x7_17 = (a1.length : Int))))) (cb b58_) rfl) <| nx ⟨(ku1 (ku4 kz rfl) rfl), (Qg b58_), er⟩
   ·exact ls rfl rfl rfl (cb b58_) rfl <| ls rfl rfl rfl (cb b58_) rfl <| ls rfl rfl rfl (cb b58_) rfl <| ls rfl rfl rfl (cb b58_) rfl <| lp rfl (qE (b := false) (v := (.bool false)) (cb b58_) rfl) <| nx ⟨(ku1 (ku4 kz rfl) rfl), (Qd b58_), er⟩
  intro s64 w60 K61 h62 e63
  refine lp rfl (qC h62) <| nx ?_
  rcases qf H with ⟨q65, H⟩ | ⟨q65, H⟩
  ·refine qq (cb q65) <| wr <| lp rfl (jR (vs := []) (pl := #[(0, 1), (1, 1), (2, 1), (3, 1), (4, 1)]) Tryz.underlying52 Tryz.zeroValue52 rfl (fun _ => by kernel_rfl) rfl rfl rfl) <| lp rfl (jR (vs := []) (pl := #[(0, 1), (1, 1), (2, 1), (3, 1), (4, 1)]) Tryz.underlying52 Tryz.zeroValue52 rfl (fun _ => by kernel_rfl) rfl rfl rfl) <| yk (.plain rfl) rfl rfl Tryz.sizeOf52 ((K61 4 rfl).trans (K20 4 rfl)) rfl rfl rfl rfl (Blk.ext k6 ((e11.t e21).t e63)) <| fun w66 h67 k68 => yk (.plain rfl) rfl rfl Tryz.sizeOf52 ((K61 5 rfl).trans (K20 5 rfl)) rfl rfl rfl rfl (Wr.blk h67 (Blk.ext k12 (e21.t e63)) (fun e9 => by have e8 : b7 = b1 := e9; clear e9; have h9 := Blk.lt k6; have h8 := z9; omega)) <| fun w69 h70 k71 => lp rfl (xa (.bool false) rfl) <| nx <| qu <| qU <| qk <| Jo ?_
   obtain rfl := si H
   exact XU rfl ((K61 4 rfl).trans (K20 4 rfl)) (Wr.blk h70 k68 (fun e9 => by have e8 : b1 = b7 := e9; clear e9; have h9 := Blk.lt k6; have h8 := z9; omega)) Tryz.isAgg52 Tryz.sizeOf52 rfl ((K61 5 rfl).trans (K20 5 rfl)) k71 rfl rfl (Below.trans (Below.trans (((e5.t e11).t e21).t e63) (Wr.below h67 (Nat.le_of_eq z3))) (Wr.below h70 (Nat.le_trans e5.size (Nat.le_of_eq z9))))
  ·refine qh (cb q65) <| wr <| lp rfl (xm (.int .i64 x7_17) ((K61 7 rfl).trans h57)) <| lp rfl (xm v_a0 ((K61 0 rfl).trans (K20 0 rfl))) <| lp rfl (vf Tryz.underlying35 rfl (Rd.ext f_a0 (((e5.t e11).t e21).t e63))) <| lp rfl (yp rfl rfl) <| lp rfl (xa (.bool (decide (x7_17 = (a0.length : Int)))) rfl) <| nx ?_
   rcases qf H with ⟨q72, H⟩ | ⟨q72, H⟩
   ·refine qq (cb q72) <| qj ?_
    obtain ⟨c73, H⟩ := qa H
    refine Xt 6 [(fun v => LEq (.agg #[(.int .i64 0), (S ([] : List UInt8)), (S ([] : List UInt8)), (.int .i64 0), (.bool false)]) v w), (fun v => LEq v_a1 v w), (fun v => LEq (.int .i64 x7_17) v w), (fun v => yD (ql (gt a1 x7_17)) v w), (fun v => LEq (.agg (ql (gt a1 x7_17)).toArray) v w), (fun _ => True)] 5 #[(.int .i64 0), (S ([] : List UInt8)), (S ([] : List UInt8)), (.int .i64 0), (.bool false)] (by kernel_rfl) (by kernel_rfl) (by kernel_rfl) (by kernel_rfl) (Blk.ext k6 ((e11.t e21).t e63)) ⟨?_, ?_, ?_, ?_, ?_, ?_, trivial⟩ ?_
    ·intro s x e f d u h
     exact lp rfl (jR (vs := []) (pl := #[(0, 1), (1, 1), (2, 1), (3, 1), (4, 1)]) Tryz.underlying52 Tryz.zeroValue52 rfl (fun _ => by kernel_rfl) rfl rfl rfl) <| bV rfl rfl er rfl
    ·intro s x e f d u h
     exact lp rfl (xm v_a1 ((f 1 rfl).trans ((K61 1 rfl).trans (K20 1 rfl)))) <| bV rfl rfl er rfl
    ·intro s x e f d u h
     exact lp rfl (xm (.int .i64 x7_17) ((f 7 rfl).trans ((K61 7 rfl).trans h57))) <| bV rfl rfl er rfl
    ·intro s x e f d u h
     exact vF (.plain rfl) rfl (ltb rfl) rfl Tryz.underlying35 Tryz.sizeOf52 (d 1 rfl rfl) f_a1 (d 2 rfl rfl) c73 <| fun p77 h78 => bV rfl rfl er ⟨_, rfl, h78⟩
    ·intro s x e f d u h
     obtain ⟨p79, h80, h81⟩ := (d 3 rfl rfl)
     exact lp rfl (vN Tryz.isAgg52 Tryz.sizeOf52 rfl h80 (At.ext h81 (Ext.gr (((e5.t e11).t e21).t e63) e (Nat.le_of_eq z3)))) <| bV rfl rfl er rfl
    ·intro s x e f d u h
     exact yk (.plain rfl) rfl rfl Tryz.sizeOf52 ((f 4 rfl).trans ((K61 4 rfl).trans (K20 4 rfl))) (d 0 rfl rfl) rfl rfl rfl (h rfl) <| fun w82 h83 k84 => bS rfl h83 k84
    intro s85 w86 g87 hf88 ha89 k90
    have K91 := Kp.ofD (kp := [(49, 54)]) rfl hf88
    have d92 : s85 53 = (.agg (ql (gt a1 x7_17)).toArray) := ha89 4 rfl rfl
    clear ha89 hf88
    refine yk (.plain rfl) rfl rfl Tryz.sizeOf52 ((K91 5 rfl).trans ((K61 5 rfl).trans (K20 5 rfl))) d92 rfl rfl rfl (Gr.blk g87 (Blk.ext k12 (e21.t e63)) (Or.inl (Nat.le_trans (Nat.le_trans (Blk.lt k6) (Nat.le_refl _)) (Nat.le_of_eq z9)))) <| fun w93 h94 k95 => lp rfl (xa (.bool true) rfl) <| nx <| qu <| qU <| qk <| Jo ?_
    obtain rfl := si H
    exact XU rfl ((K91 4 rfl).trans ((K61 4 rfl).trans (K20 4 rfl))) (Wr.blk h94 k90 (fun e9 => by have e8 : b1 = b7 := e9; clear e9; have h9 := Blk.lt k6; have h8 := z9; omega)) Tryz.isAgg52 Tryz.sizeOf52 rfl ((K91 5 rfl).trans ((K61 5 rfl).trans (K20 5 rfl))) k95 rfl rfl (Below.trans (Ext.gr (((e5.t e11).t e21).t e63) g87 (Nat.le_of_eq z3)) (Wr.below h94 (Nat.le_trans e5.size (Nat.le_of_eq z9))))
   ·refine qh (cb q72) <| qj ?_
    obtain ⟨c96, H⟩ := qa H
    obtain ⟨c99, H⟩ := qa H
    obtain ⟨c102, H⟩ := qa H
    obtain ⟨c103, H⟩ := qa H
    refine Yv [LEq (.int .i64 x7_17), LEq v_a1, LEq (.int .i64 (a1.length : Int)), LEq (.bool (decide (x7_17 = (a1.length : Int)))), LEq (.bool (decide (x7_17 = (a1.length : Int)))), LIf (!(decide (x7_17 = (a1.length : Int)))) (LEq v_a0), LIf (!(decide (x7_17 = (a1.length : Int)))) (LEq (.int .i64 x7_17)), LIf (!(decide (x7_17 = (a1.length : Int)))) (yD (ql (gt a0 x7_17))), LIf (!(decide (x7_17 = (a1.length : Int)))) (LAt 1 (ql (gt a0 x7_17))), LIf (!(decide (x7_17 = (a1.length : Int)))) (LEq (S ((gt a0 x7_17).path))), LIf (!(decide (x7_17 = (a1.length : Int)))) (LEq v_a1), LIf (!(decide (x7_17 = (a1.length : Int)))) (LEq (.int .i64 x7_17)), LIf (!(decide (x7_17 = (a1.length : Int)))) (yD (ql (gt a1 x7_17))), LIf (!(decide (x7_17 = (a1.length : Int)))) (LAt 1 (ql (gt a1 x7_17))), LIf (!(decide (x7_17 = (a1.length : Int)))) (LEq (S ((gt a1 x7_17).path))), LIf (!(decide (x7_17 = (a1.length : Int)))) (LEq (.bool (vo (cut 47 ((gt a0 x7_17).path)) (cut 47 ((gt a1 x7_17).path))))), LEq (.bool ((decide (x7_17 = (a1.length : Int))) || (vo (cut 47 ((gt a0 x7_17).path)) (cut 47 ((gt a1 x7_17).path))))), LEq (.bool ((decide (x7_17 = (a1.length : Int))) || (vo (cut 47 ((gt a0 x7_17).path)) (cut 47 ((gt a1 x7_17).path)))))] (by kernel_rfl) (by kernel_rfl) ⟨qm, qm, qm, qm, qm, lm, lm, (LIf.mono yD.mono), (LIf.mono LAt.mono), lm, lm, lm, (LIf.mono yD.mono), (LIf.mono LAt.mono), lm, lm, qm, qm, trivial⟩ ⟨?_, ?_, ?_, ?_, ?_, ?_, ?_, ?_, ?_, ?_, ?_, ?_, ?_, ?_, ?_, ?_, ?_, ?_, trivial⟩ ?_
    ·exact fun s x e f d u => lp rfl (xm (.int .i64 x7_17) ((f 7 rfl).trans ((K61 7 rfl).trans h57))) <| se rfl rfl
    ·exact fun s x e f d u => lp rfl (xm v_a1 ((f 1 rfl).trans ((K61 1 rfl).trans (K20 1 rfl)))) <| se rfl rfl
    ·exact fun s x e f d u => lp rfl (vf Tryz.underlying35 (d 1 rfl) (Rd.ext f_a1 ((((e5.t e11).t e21).t e63).t e))) <| se rfl rfl
    ·exact fun s x e f d u => lp rfl (yp (d 0 rfl) (d 2 rfl)) <| se rfl rfl
    ·exact fun s x e f d u => lp rfl (qg (d 3 rfl)) <| se rfl rfl
    ·exact fun s x e f d u => gF rfl rfl rfl rfl (d 4 rfl) rfl fun b t => lt t rfl rfl (xm v_a0 ((f 0 rfl).trans ((K61 0 rfl).trans (K20 0 rfl)))) <| sg rfl rfl b rfl
    ·exact fun s x e f d u => gF rfl rfl rfl rfl (d 4 rfl) rfl fun b t => lt t rfl rfl (xm (.int .i64 x7_17) ((f 7 rfl).trans ((K61 7 rfl).trans h57))) <| sg rfl rfl b rfl
    ·exact fun s x e f d u => gF rfl rfl rfl rfl (d 4 rfl) rfl fun b t => vF t rfl (ltb rfl) rfl Tryz.underlying35 Tryz.sizeOf52 ((d 5 rfl).1 (vD (yF b))) (Rd.ext f_a0 ((((e5.t e11).t e21).t e63).t e)) ((d 6 rfl).1 (vD (yF b))) (yY b c96) <| fun p107 h108 => sg rfl rfl b ⟨_, rfl, h108⟩
    ·intro s x e f d u
     refine gF rfl rfl rfl rfl (d 4 rfl) rfl fun b t => ?_
     obtain ⟨p109, h110, h111⟩ := ((d 7 rfl).1 (vD (yF b)))
     exact lt t rfl rfl (qc Tryz.underlying52 rfl Tryz.sizeOf9 rfl h110) <| sg rfl rfl b ⟨_, rfl, h111⟩
    ·intro s x e f d u
     refine gF rfl rfl rfl rfl (d 4 rfl) rfl fun b t => ?_
     obtain ⟨p112, h113, h114⟩ := ((d 8 rfl).1 (vD (yF b)))
     exact lt t rfl rfl (yZ Tryz.isAgg9 (j := 1) h114 h113 rfl) <| sg rfl rfl b rfl
    ·exact fun s x e f d u => gF rfl rfl rfl rfl (d 4 rfl) rfl fun b t => lt t rfl rfl (xm v_a1 ((f 1 rfl).trans ((K61 1 rfl).trans (K20 1 rfl)))) <| sg rfl rfl b rfl
    ·exact fun s x e f d u => gF rfl rfl rfl rfl (d 4 rfl) rfl fun b t => lt t rfl rfl (xm (.int .i64 x7_17) ((f 7 rfl).trans ((K61 7 rfl).trans h57))) <| sg rfl rfl b rfl
    ·exact fun s x e f d u => gF rfl rfl rfl rfl (d 4 rfl) rfl fun b t => vF t rfl (ltb rfl) rfl Tryz.underlying35 Tryz.sizeOf52 ((d 10 rfl).1 (vD (yF b))) (Rd.ext f_a1 ((((e5.t e11).t e21).t e63).t e)) ((d 11 rfl).1 (vD (yF b))) (yY b c99) <| fun p116 h117 => sg rfl rfl b ⟨_, rfl, h117⟩
    ·intro s x e f d u
     refine gF rfl rfl rfl rfl (d 4 rfl) rfl fun b t => ?_
     obtain ⟨p118, h119, h120⟩ := ((d 12 rfl).1 (vD (yF b)))
     exact lt t rfl rfl (qc Tryz.underlying52 rfl Tryz.sizeOf9 rfl h119) <| sg rfl rfl b ⟨_, rfl, h120⟩
    ·intro s x e f d u
     refine gF rfl rfl rfl rfl (d 4 rfl) rfl fun b t => ?_
     obtain ⟨p121, h122, h123⟩ := ((d 13 rfl).1 (vD (yF b)))
     exact lt t rfl rfl (yZ Tryz.isAgg9 (j := 1) h123 h122 rfl) <| sg rfl rfl b rfl
    ·exact fun s x e f d u => gF rfl rfl rfl rfl (d 4 rfl) rfl fun b t => jf t rfl (ltb rfl) rfl Tryz.call153 (vt.calls (w := x) (a0 := (gt a0 x7_17).path) (a1 := (gt a1 x7_17).path) (od (yY b c102)) (od (yY b c103))) (vu ((d 9 rfl).1 (vD (yF b))) (vu ((d 14 rfl).1 (vD (yF b))) rfl)) <| fun w126 e127 => sgx rfl rfl b e127 rfl
    ·exact fun s x e f d u => lp rfl (Y9 (d 4 rfl) rfl fun h => ((d 15 rfl).1 (vD h))) <| se rfl rfl
    ·exact fun s x e f d u => lp rfl (qC (d 16 rfl)) <| se rfl rfl
    intro s128 w129 e130 hf131 ha132
    have K133 := Kp.ofD (kp := [(54, 72)]) rfl hf131
    have d134 : s128 54 = (.bool ((decide (x7_17 = (a1.length : Int))) || (vo (cut 47 ((gt a0 x7_17).path)) (cut 47 ((gt a1 x7_17).path))))) := ha132 17 rfl
    clear ha132 hf131
    refine qe ?_
    rcases qf H with ⟨q135, H⟩ | ⟨q135, H⟩
    ·refine qq (d134.trans (cb q135)) <| wr <| lp rfl (xm v_a0 ((K133 0 rfl).trans ((K61 0 rfl).trans (K20 0 rfl)))) <| lp rfl (xm (.int .i64 x7_17) ((K133 7 rfl).trans ((K61 7 rfl).trans h57))) ?_
     obtain ⟨c136, H⟩ := qa H
     refine vF (.plain rfl) rfl (ltb rfl) rfl Tryz.underlying35 Tryz.sizeOf52 rfl (Rd.ext f_a0 ((((e5.t e11).t e21).t e63).t e130)) rfl c136 <| fun p137 h138 => lp rfl (vN Tryz.isAgg52 Tryz.sizeOf52 rfl rfl h138) <| lp rfl (jR (vs := []) (pl := #[(0, 1), (1, 1), (2, 1), (3, 1), (4, 1)]) Tryz.underlying52 Tryz.zeroValue52 rfl (fun _ => by kernel_rfl) rfl rfl rfl) <| yk (.plain rfl) rfl rfl Tryz.sizeOf52 ((K133 4 rfl).trans ((K61 4 rfl).trans (K20 4 rfl))) rfl rfl rfl rfl (Blk.ext k6 (((e11.t e21).t e63).t e130)) <| fun w139 h140 k141 => yk (.plain rfl) rfl rfl Tryz.sizeOf52 ((K133 5 rfl).trans ((K61 5 rfl).trans (K20 5 rfl))) rfl rfl rfl rfl (Wr.blk h140 (Blk.ext k12 ((e21.t e63).t e130)) (fun e9 => by have e8 : b7 = b1 := e9; clear e9; have h9 := Blk.lt k6; have h8 := z9; omega)) <| fun w142 h143 k144 => lp rfl (xa (.bool true) rfl) <| nx <| qu <| qU <| qk <| Jo ?_
     obtain rfl := si H
     exact XU rfl ((K133 4 rfl).trans ((K61 4 rfl).trans (K20 4 rfl))) (Wr.blk h143 k141 (fun e9 => by have e8 : b1 = b7 := e9; clear e9; have h9 := Blk.lt k6; have h8 := z9; omega)) Tryz.isAgg52 Tryz.sizeOf52 rfl ((K133 5 rfl).trans ((K61 5 rfl).trans (K20 5 rfl))) k144 rfl rfl (Below.trans (Below.trans ((((e5.t e11).t e21).t e63).t e130) (Wr.below h140 (Nat.le_of_eq z3))) (Wr.below h143 (Nat.le_trans e5.size (Nat.le_of_eq z9))))
    ·refine qh (d134.trans (cb q135)) <| qj ?_
     obtain ⟨c145, H⟩ := qa H
     obtain ⟨c148, H⟩ := qa H
     obtain ⟨c151, H⟩ := qa H
     obtain ⟨c152, H⟩ := qa H
     refine Yv [LEq v_a1, LEq (.int .i64 x7_17), yD (ql (gt a1 x7_17)), LAt 1 (ql (gt a1 x7_17)), LEq (S ((gt a1 x7_17).path)), LEq v_a0, LEq (.int .i64 x7_17), yD (ql (gt a0 x7_17)), LAt 1 (ql (gt a0 x7_17)), LEq (S ((gt a0 x7_17).path)), LEq (.bool (vo (cut 47 ((gt a1 x7_17).path)) (cut 47 ((gt a0 x7_17).path)))), LEq (.bool (vo (cut 47 ((gt a1 x7_17).path)) (cut 47 ((gt a0 x7_17).path))))] (by kernel_rfl) (by kernel_rfl) ⟨qm, qm, yD.mono, LAt.mono, qm, qm, qm, yD.mono, LAt.mono, qm, qm, qm, trivial⟩ ⟨?_, ?_, ?_, ?_, ?_, ?_, ?_, ?_, ?_, ?_, ?_, ?_, trivial⟩ ?_
     ·exact fun s x e f d u => lp rfl (xm v_a1 ((f 1 rfl).trans ((K133 1 rfl).trans ((K61 1 rfl).trans (K20 1 rfl))))) <| se rfl rfl
     ·exact fun s x e f d u => lp rfl (xm (.int .i64 x7_17) ((f 7 rfl).trans ((K133 7 rfl).trans ((K61 7 rfl).trans h57)))) <| se rfl rfl
     ·exact fun s x e f d u => vF (.plain rfl) rfl (ltb rfl) rfl Tryz.underlying35 Tryz.sizeOf52 (d 0 rfl) (Rd.ext f_a1 (((((e5.t e11).t e21).t e63).t e130).t e)) (d 1 rfl) c145 <| fun p156 h157 => se rfl ⟨_, rfl, h157⟩
     ·intro s x e f d u
      obtain ⟨p158, h159, h160⟩ := (d 2 rfl)
      exact lp rfl (qc Tryz.underlying52 rfl Tryz.sizeOf9 rfl h159) <| se rfl ⟨_, rfl, h160⟩
     ·intro s x e f d u
      obtain ⟨p161, h162, h163⟩ := (d 3 rfl)
      exact lp rfl (yZ Tryz.isAgg9 (j := 1) h163 h162 rfl) <| se rfl rfl
     ·exact fun s x e f d u => lp rfl (xm v_a0 ((f 0 rfl).trans ((K133 0 rfl).trans ((K61 0 rfl).trans (K20 0 rfl))))) <| se rfl rfl
     ·exact fun s x e f d u => lp rfl (xm (.int .i64 x7_17) ((f 7 rfl).trans ((K133 7 rfl).trans ((K61 7 rfl).trans h57)))) <| se rfl rfl
     ·exact fun s x e f d u => vF (.plain rfl) rfl (ltb rfl) rfl Tryz.underlying35 Tryz.sizeOf52 (d 5 rfl) (Rd.ext f_a0 (((((e5.t e11).t e21).t e63).t e130).t e)) (d 6 rfl) c148 <| fun p165 h166 => se rfl ⟨_, rfl, h166⟩
     ·intro s x e f d u
      obtain ⟨p167, h168, h169⟩ := (d 7 rfl)
      exact lp rfl (qc Tryz.underlying52 rfl Tryz.sizeOf9 rfl h168) <| se rfl ⟨_, rfl, h169⟩
     ·intro s x e f d u
      obtain ⟨p170, h171, h172⟩ := (d 8 rfl)
      exact lp rfl (yZ Tryz.isAgg9 (j := 1) h172 h171 rfl) <| se rfl rfl
     ·exact fun s x e f d u => lc rfl rfl Tryz.call153 (vt.calls (w := x) (a0 := (gt a1 x7_17).path) (a1 := (gt a0 x7_17).path) (od c151) (od c152)) (vu (d 4 rfl) (vu (d 9 rfl) rfl)) <| fun w175 e176 => sx rfl e176 rfl
     ·exact fun s x e f d u => lp rfl (qC (d 10 rfl)) <| se rfl rfl
     intro s177 w178 e179 hf180 ha181
     have K182 := Kp.ofD (kp := [(77, 89)]) rfl hf180
     have d183 : s177 77 = (.bool (vo (cut 47 ((gt a1 x7_17).path)) (cut 47 ((gt a0 x7_17).path)))) := ha181 11 rfl
     clear ha181 hf180
     refine qe ?_
     rcases qf H with ⟨q184, H⟩ | ⟨q184, H⟩
     ·refine qq (d183.trans (cb q184)) <| qj ?_
      obtain ⟨c185, H⟩ := qa H
      refine Xt 6 [(fun v => LEq (.agg #[(.int .i64 0), (S ([] : List UInt8)), (S ([] : List UInt8)), (.int .i64 0), (.bool false)]) v w), (fun v => LEq v_a1 v w), (fun v => LEq (.int .i64 x7_17) v w), (fun v => yD (ql (gt a1 x7_17)) v w), (fun v => LEq (.agg (ql (gt a1 x7_17)).toArray) v w), (fun _ => True)] 5 #[(.int .i64 0), (S ([] : List UInt8)), (S ([] : List UInt8)), (.int .i64 0), (.bool false)] (by kernel_rfl) (by kernel_rfl) (by kernel_rfl) (by kernel_rfl) (Blk.ext k6 ((((e11.t e21).t e63).t e130).t e179)) ⟨?_, ?_, ?_, ?_, ?_, ?_, trivial⟩ ?_
      ·intro s x e f d u h
       exact lp rfl (jR (vs := []) (pl := #[(0, 1), (1, 1), (2, 1), (3, 1), (4, 1)]) Tryz.underlying52 Tryz.zeroValue52 rfl (fun _ => by kernel_rfl) rfl rfl rfl) <| bV rfl rfl er rfl
      ·intro s x e f d u h
       exact lp rfl (xm v_a1 ((f 1 rfl).trans ((K182 1 rfl).trans ((K133 1 rfl).trans ((K61 1 rfl).trans (K20 1 rfl)))))) <| bV rfl rfl er rfl
      ·intro s x e f d u h
       exact lp rfl (xm (.int .i64 x7_17) ((f 7 rfl).trans ((K182 7 rfl).trans ((K133 7 rfl).trans ((K61 7 rfl).trans h57))))) <| bV rfl rfl er rfl
      ·intro s x e f d u h
       exact vF (.plain rfl) rfl (ltb rfl) rfl Tryz.underlying35 Tryz.sizeOf52 (d 1 rfl rfl) f_a1 (d 2 rfl rfl) c185 <| fun p189 h190 => bV rfl rfl er ⟨_, rfl, h190⟩
      ·intro s x e f d u h
       obtain ⟨p191, h192, h193⟩ := (d 3 rfl rfl)
       exact lp rfl (vN Tryz.isAgg52 Tryz.sizeOf52 rfl h192 (At.ext h193 (Ext.gr (((((e5.t e11).t e21).t e63).t e130).t e179) e (Nat.le_of_eq z3)))) <| bV rfl rfl er rfl
      ·intro s x e f d u h
       exact yk (.plain rfl) rfl rfl Tryz.sizeOf52 ((f 4 rfl).trans ((K182 4 rfl).trans ((K133 4 rfl).trans ((K61 4 rfl).trans (K20 4 rfl))))) (d 0 rfl rfl) rfl rfl rfl (h rfl) <| fun w194 h195 k196 => bS rfl h195 k196
      intro s197 w198 g199 hf200 ha201 k202
      have K203 := Kp.ofD (kp := [(89, 94)]) rfl hf200
      have d204 : s197 93 = (.agg (ql (gt a1 x7_17)).toArray) := ha201 4 rfl rfl
      clear ha201 hf200
      refine yk (.plain rfl) rfl rfl Tryz.sizeOf52 ((K203 5 rfl).trans ((K182 5 rfl).trans ((K133 5 rfl).trans ((K61 5 rfl).trans (K20 5 rfl))))) d204 rfl rfl rfl (Gr.blk g199 (Blk.ext k12 (((e21.t e63).t e130).t e179)) (Or.inl (Nat.le_trans (Nat.le_trans (Blk.lt k6) (Nat.le_refl _)) (Nat.le_of_eq z9)))) <| fun w205 h206 k207 => lp rfl (xa (.bool true) rfl) <| nx <| qu <| qU <| qk <| Jo ?_
      obtain rfl := si H
      exact XU rfl ((K203 4 rfl).trans ((K182 4 rfl).trans ((K133 4 rfl).trans ((K61 4 rfl).trans (K20 4 rfl))))) (Wr.blk h206 k202 (fun e9 => by have e8 : b1 = b7 := e9; clear e9; have h9 := Blk.lt k6; have h8 := z9; omega)) Tryz.isAgg52 Tryz.sizeOf52 rfl ((K203 5 rfl).trans ((K182 5 rfl).trans ((K133 5 rfl).trans ((K61 5 rfl).trans (K20 5 rfl))))) k207 rfl rfl (Below.trans (Ext.gr (((((e5.t e11).t e21).t e63).t e130).t e179) g199 (Nat.le_of_eq z3)) (Wr.below h206 (Nat.le_trans e5.size (Nat.le_of_eq z9))))
     ·refine qh (d183.trans (cb q184)) <| qv <| yq <| qe <| qj ?_
      obtain ⟨c208, H⟩ := qa H
      obtain ⟨c211, H⟩ := qa H
      refine Xt 9 [(fun v => LEq v_a0 v w), (fun v => LEq (.int .i64 x7_17) v w), (fun v => yD (ql (gt a0 x7_17)) v w), (fun v => LEq (.agg (ql (gt a0 x7_17)).toArray) v w), (fun v => LEq v_a1 v w), (fun v => LEq (.int .i64 x7_17) v w), (fun v => yD (ql (gt a1 x7_17)) v w), (fun v => LEq (.agg (ql (gt a1 x7_17)).toArray) v w), (fun _ => True)] 8 (ql (gt a0 x7_17)).toArray (by kernel_rfl) (by kernel_rfl) (by kernel_rfl) (by kernel_rfl) (Blk.ext k6 ((((e11.t e21).t e63).t e130).t e179)) ⟨?_, ?_, ?_, ?_, ?_, ?_, ?_, ?_, ?_, trivial⟩ ?_
      ·intro s x e f d u h
       exact lp rfl (xm v_a0 ((f 0 rfl).trans ((K182 0 rfl).trans ((K133 0 rfl).trans ((K61 0 rfl).trans (K20 0 rfl)))))) <| bV rfl rfl er rfl
      ·intro s x e f d u h
       exact lp rfl (xm (.int .i64 x7_17) ((f 7 rfl).trans ((K182 7 rfl).trans ((K133 7 rfl).trans ((K61 7 rfl).trans h57))))) <| bV rfl rfl er rfl
      ·intro s x e f d u h
       exact vF (.plain rfl) rfl (ltb rfl) rfl Tryz.underlying35 Tryz.sizeOf52 (d 0 rfl rfl) f_a0 (d 1 rfl rfl) c208 <| fun p215 h216 => bV rfl rfl er ⟨_, rfl, h216⟩
      ·intro s x e f d u h
       obtain ⟨p217, h218, h219⟩ := (d 2 rfl rfl)
       exact lp rfl (vN Tryz.isAgg52 Tryz.sizeOf52 rfl h218 (At.ext h219 (Ext.gr (((((e5.t e11).t e21).t e63).t e130).t e179) e (Nat.le_of_eq z3)))) <| bV rfl rfl er rfl
      ·intro s x e f d u h
       exact lp rfl (xm v_a1 ((f 1 rfl).trans ((K182 1 rfl).trans ((K133 1 rfl).trans ((K61 1 rfl).trans (K20 1 rfl)))))) <| bV rfl rfl er rfl
      ·intro s x e f d u h
       exact lp rfl (xm (.int .i64 x7_17) ((f 7 rfl).trans ((K182 7 rfl).trans ((K133 7 rfl).trans ((K61 7 rfl).trans h57))))) <| bV rfl rfl er rfl
      ·intro s x e f d u h
       exact vF (.plain rfl) rfl (ltb rfl) rfl Tryz.underlying35 Tryz.sizeOf52 (d 4 rfl rfl) f_a1 (d 5 rfl rfl) c211 <| fun p221 h222 => bV rfl rfl er ⟨_, rfl, h222⟩
      ·intro s x e f d u h
       obtain ⟨p223, h224, h225⟩ := (d 6 rfl rfl)
       exact lp rfl (vN Tryz.isAgg52 Tryz.sizeOf52 rfl h224 (At.ext h225 (Ext.gr (((((e5.t e11).t e21).t e63).t e130).t e179) e (Nat.le_of_eq z3)))) <| bV rfl rfl er rfl
      ·intro s x e f d u h
       exact yk (.plain rfl) rfl rfl Tryz.sizeOf52 ((f 4 rfl).trans ((K182 4 rfl).trans ((K133 4 rfl).trans ((K61 4 rfl).trans (K20 4 rfl))))) (d 3 rfl rfl) rfl rfl rfl (h rfl) <| fun w226 h227 k228 => bS rfl h227 k228
      intro s229 w230 g231 hf232 ha233 k234
      have K235 := Kp.ofD (kp := [(94, 102)]) rfl hf232
      have d236 : s229 101 = (.agg (ql (gt a1 x7_17)).toArray) := ha233 7 rfl rfl
      clear ha233 hf232
      refine yk (.plain rfl) rfl rfl Tryz.sizeOf52 ((K235 5 rfl).trans ((K182 5 rfl).trans ((K133 5 rfl).trans ((K61 5 rfl).trans (K20 5 rfl))))) d236 rfl rfl rfl (Gr.blk g231 (Blk.ext k12 (((e21.t e63).t e130).t e179)) (Or.inl (Nat.le_trans (Nat.le_trans (Blk.lt k6) (Nat.le_refl _)) (Nat.le_of_eq z9)))) <| fun w237 h238 k239 => lp rfl (xa (.bool true) rfl) <| nx <| qu <| Jo ?_
      obtain rfl := si H
      exact XU rfl ((K235 4 rfl).trans ((K182 4 rfl).trans ((K133 4 rfl).trans ((K61 4 rfl).trans (K20 4 rfl))))) (Wr.blk h238 k234 (fun e9 => by have e8 : b1 = b7 := e9; clear e9; have h9 := Blk.lt k6; have h8 := z9; omega)) Tryz.isAgg52 Tryz.sizeOf52 rfl ((K235 5 rfl).trans ((K182 5 rfl).trans ((K133 5 rfl).trans ((K61 5 rfl).trans (K20 5 rfl))))) k239 rfl rfl (Below.trans (Ext.gr (((((e5.t e11).t e21).t e63).t e130).t e179) g231 (Nat.le_of_eq z3)) (Wr.below h238 (Nat.le_trans e5.size (Nat.le_of_eq z9))))
theorem qF.calls {w : World} {a0 : List Rec} {a1 : List Rec} {v_a0 : Value} (f_a0 : Rd 5 ql w v_a0 a0) {v_a1 : Value} (f_a1 : Rd 5 ql w v_a1 a1) (h0 : (qo a0).2 = 0) (h1 : (qo a1).2 = 0) :
  Calls Tryz.prog 143 #[v_a0, v_a1] w (Rt (RP w (.tuple #[.agg (ql ((qS a0 a1).1)).toArray, .agg (ql ((qS a0 a1).2.1)).toArray, .bool ((qS a0 a1).2.2)]))) := by
 obtain ⟨k, h⟩ := qF.eq a0 a1 h0 h1
 exact qF.walk f_a0 f_a1 h
/-! spec.l05Chain -/
theorem vi.calls {w : World} {a0 : List UInt8} (h0 : qz a0 = true) :
  Calls Tryz.prog 144 #[S a0] w (Rt (RO 91 4 yv w (jI a0))) := by
 obtain ⟨k, H⟩ := vi.eq a0 h0
 generalize (jI a0) = r at H ⊢
 unfold vi.sh at H
 refine qp Tryz.func144 rfl (Nat.le_of_ble_eq_true rfl) Tryz.ntmps144 rfl ?_
 refine wr <| lp rfl (xa (.slice none 0 0) rfl) <| nx <| wr <| lp rfl (xm (S a0) rfl) <| lp rfl (jR (vs := [(0, (.int .i64 1)), (1, (S a0))]) (pl := #[(0, 1), (1, 1), (2, 1), (3, 1)]) Tryz.underlying91 Tryz.zeroValue91 rfl (fun _ => by kernel_rfl) rfl rfl rfl) <| jg (.plain rfl) rfl (ltb rfl) rfl Tryz.underlying29 Tryz.sizeOf91 Tryz.zeroValue91 rfl rfl rfl (vs := [(.agg #[(.int .i64 1), (S a0), (S ([] : List UInt8)), (.int .i64 0)])]) rfl (vM rfl) <| fun b1 w2 z3 z4 e5 k6 => lp rfl (xa (.slice (some ⟨b1, 0, none⟩) 1 1) rfl) <| nx <| qj <| wr <| lp rfl (xm (S a0) rfl) ?_
 obtain ⟨c7, H⟩ := qa H
 refine lc rfl rfl Tryz.call154 (qY.calls (w := w2) (a0 := a0) (od c7)) rfl <| fun w8 e9 => lp rfl (xa (S (qd a0)) rfl) <| nx ?_
 obtain ⟨z13, L14, C15⟩ := bind_some H
 clear H
 refine  vT (fun s0 sQ wQ => ∃ (x3_16 : List Nd) (v17 : Value), Kp [(3, 5), (10, 19)] s0 sQ ∧ sQ 3 = v17 ∧ Ow 91 4 yv w.heap.size wQ v17 x3_16 ∧ Ext w8 wQ ∧ z13 = .inr x3_16) ?_ ?_
 ·refine qH <| vy (fun s0 kk sQ wQ => ∃ (x3_10 : List Nd) (v11 : Value) (x4_12 : List UInt8), Kp [(3, 5), (10, 19)] s0 sQ ∧ sQ 3 = v11 ∧ Ow 91 4 yv w.heap.size wQ v11 x3_10 ∧ sQ 4 = S x4_12 ∧ Ext w8 wQ ∧ qr (vi.b1) kk (x3_10, x4_12) = some z13) k ⟨([(⟨1, a0, ([] : List UInt8), 0⟩ : Nd)] : List Nd), (.slice (some ⟨b1, 0, none⟩) 1 1), (qd a0), kz, rfl, (Ow.ext (Ow.new (xs := [(⟨1, a0, ([] : List UInt8), 0⟩ : Nd)]) (sz := 4) (enc := yv) (base := w.heap.size) k6 (Nat.le_of_eq z3) rfl (fun _ _ => by rfl) (Nat.le_of_ble_eq_true rfl)) e9), rfl, er, L14⟩ ?_
  rintro k22 s23 w24 ⟨x3_10, v11, x4_12, K25, h28, h29, h30, e26, L27⟩
  cases k22 with
  | zero => exact absurd L27 (by simp [qr])
  | succ k22 =>
   obtain ⟨t31, H, S32⟩ := qO L27
   clear L27
   unfold vi.b1 at H
   refine qj <| wr <| lp rfl (qg h30) <| lp rfl (Qo rfl rfl) <| nx ?_
   rcases qf H with ⟨q33, H⟩ | ⟨q33, H⟩
   ·refine qq (cb q33) <| qv <| qe <| qj <| qH <| qQ <| lp rfl (qg h30) <| lp rfl (jR (vs := [(0, (.int .i64 3)), (1, (S x4_12))]) (pl := #[(0, 1), (1, 1), (2, 1), (3, 1)]) Tryz.underlying91 Tryz.zeroValue91 rfl (fun _ => by kernel_rfl) rfl rfl rfl) <| jg (.plain rfl) rfl (ltb rfl) rfl Tryz.underlying29 Tryz.sizeOf91 Tryz.zeroValue91 rfl rfl rfl (vs := [(.agg #[(.int .i64 3), (S x4_12), (S ([] : List UInt8)), (.int .i64 0)])]) rfl (vM rfl) <| fun b34 w35 z36 z37 e38 k39 => lp rfl (qg h28) ?_
    obtain ⟨c40, H⟩ := qa H
    refine Qm (enc := yv) (.plain rfl) rfl (ltb rfl) rfl El.t29 rfl rfl (Ow.new (xs := [(⟨3, x4_12, ([] : List UInt8), 0⟩ : Nd)]) (sz := 4) (enc := yv) (base := w24.heap.size) k39 (Nat.le_of_eq z36) rfl (fun _ _ => by rfl) (Nat.le_of_ble_eq_true rfl)) (Ow.rd (Ow.ext h29 e38)) (Xh _) (od c40) (e38).size <| fun v41 w42 o43 z44 g45 => lp rfl (xa v41 rfl) <| vL <| yq <| qe <| qQ <| lp rfl (qg h30) ?_
    obtain ⟨c46, H⟩ := qa H
    refine lc rfl rfl Tryz.call154 (qY.calls (w := w42) (a0 := x4_12) (od c46)) rfl <| fun w47 e48 => lp rfl (xa (S (qd x4_12)) rfl) <| nx ?_
    obtain rfl := si H
    exact ⟨_, Nat.lt_succ_self _, ([(⟨3, x4_12, ([] : List UInt8), 0⟩ : Nd)] : List Nd) ++ x3_10, v41, (qd x4_12), (ku3 (ku8 K25 rfl) rfl), rfl, (Ow.base (Ow.ext o43 e48) ((e5.t e9).t e26).size), rfl, ((e26.t (g45 _ e38)).t e48), S32⟩
   ·refine qh (cb q33) <| vY <| vg <| vg <| yM <| qe ?_
    obtain rfl := si H
    obtain rfl := si S32
    exact ⟨x3_10, v11, (ku2 K25 rfl), h28, h29, e26, rfl⟩
 ·rintro s19 w18 ⟨x3_16, v17, K20, h49, h50, e21, y51⟩
  rw [y51] at C15
  have H := C15
  replace H : _ = some _ := H
  refine qe <| wr <| lp rfl (qg h49) <| lp rfl (xa v17 rfl) <| nx <| qu <| qy ?_
  obtain rfl := si H
  exact YB rfl ((e5.t e9).t e21) h50 (er).size
/-! spec.l05Fresh -/
theorem ya.calls {w : World} {a0 : List Rec} {a1 : List Rec} {a2 : List UInt8} {v_a0 : Value} (f_a0 : Rd 5 ql w v_a0 a0) {v_a1 : Value} (f_a1 : Rd 5 ql w v_a1 a1) (h0 : a0.length ≤ 16) (h1 : a1.length ≤ 16) (h2 : qz a2 = true) :
  Calls Tryz.prog 145 #[v_a0, v_a1, S a2] w (Rt (RP w (S (nmP a2 (Vj a0 a1 a2))))) := by
 obtain ⟨k, H⟩ := ya.eq a0 a1 a2 h0 h1 h2
 generalize (nmP a2 (Vj a0 a1 a2)) = r at H ⊢
 unfold ya.sh at H
 refine qp Tryz.func145 rfl (Nat.le_of_ble_eq_true rfl) Tryz.ntmps145 rfl ?_
 refine wr <| lp rfl (xa (S ([] : List UInt8)) rfl) <| nx <| wr <| lp rfl (xa (.int .i64 0) rfl) <| nx ?_
 obtain ⟨z2, L3, C4⟩ := bind_some H
 clear H
 refine  vT (fun s0 sQ wQ => ∃ (x6_5 : List UInt8), Kp [(6, 27)] s0 sQ ∧ sQ 6 = S x6_5 ∧ Ext w wQ ∧ z2 = .inr x6_5) ?_ ?_
 ·refine qH <| vy (fun s0 kk sQ wQ => ∃ (x7_1 : Int), Kp [(6, 27)] s0 sQ ∧ sQ 7 = .int .i64 x7_1 ∧ Ext w wQ ∧ qr (ya.b1 a0 a1 a2) kk x7_1 = some z2) k ⟨0, kz, rfl, er, L3⟩ ?_
  rintro k10 s11 w12 ⟨x7_1, K13, h16, e14, L15⟩
  cases k10 with
  | zero => exact absurd L15 (by simp [qr])
  | succ k10 =>
   obtain ⟨t17, H, S18⟩ := qO L15
   clear L15
   unfold ya.b1 at H
   refine qj <| qH <| wr <| lp rfl (xm (S a2) (K13 2 rfl)) <| lp rfl (qg h16) ?_
   obtain ⟨c19, H⟩ := qa H
   obtain ⟨c20, H⟩ := qa H
   refine lc rfl rfl Tryz.call200 (vc.calls (w := w12) (a0 := x7_1) (od c19) (od c20)) rfl <| fun w21 e22 => ?_
   obtain ⟨c23, H⟩ := qa H
   refine lp rfl (VX rfl rfl (od c23)) ?_
   obtain ⟨c24, H⟩ := qa H
   obtain ⟨c25, H⟩ := qa H
   refine lc rfl rfl Tryz.call199 (jG.calls (w := w21) (a0 := a2) (a1 := ([122] : List UInt8) ++ (yQ x7_1.toNat)) (od c24) (od c25)) rfl <| fun w26 e27 => lp rfl (xa (S (jc a2 (([122] : List UInt8) ++ (yQ x7_1.toNat)))) rfl) <| nx <| wr <| lp rfl (xm v_a0 (K13 0 rfl)) <| lp rfl (xm (S (jc a2 (([122] : List UInt8) ++ (yQ x7_1.toNat)))) rfl) ?_
   obtain ⟨c28, H⟩ := qa H
   refine lc rfl rfl Tryz.call162 (vZ.calls (w := w26) (a0 := a0) (a1 := (jc a2 (([122] : List UInt8) ++ (yQ x7_1.toNat)))) (Rd.ext f_a0 ((e14.t e22).t e27)) (od c28)) rfl <| fun w29 e30 => lp rfl (vI rfl rfl) <| lp rfl (qg rfl) ?_
   obtain ⟨z32, x33, H⟩ := bind_some H
   refine Ql 5 [(21, 26)] 25 (fun q => q = z32) ?_ ?_
   ·rcases qf x33 with ⟨b30_, H⟩ | ⟨b30_, H⟩
    ·refine lg rfl rfl rfl rfl (cb b30_) (xm v_a1 (K13 1 rfl)) <| lg rfl rfl rfl rfl (cb b30_) (xm (S (jc a2 (([122] : List UInt8) ++ (yQ x7_1.toNat)))) rfl) ?_
     obtain ⟨c32, H⟩ := qa H
     refine jf (tg rfl rfl rfl (cb b30_)) rfl (ltb rfl) rfl Tryz.call162 (vZ.calls (w := w29) (a0 := a1) (a1 := (jc a2 (([122] : List UInt8) ++ (yQ x7_1.toNat)))) (Rd.ext f_a1 (((e14.t e22).t e27).t e30)) (od c32)) rfl <| fun w33 e34 => lg rfl rfl rfl rfl (cb b30_) (vI rfl rfl) <| lp rfl (qE (b := true) (v := (.bool (decide ((qJ a1 (jc a2 (([122] : List UInt8) ++ (yQ x7_1.toNat)))) < 0)))) (cb b30_) rfl) ?_
     obtain rfl := si H
     exact nx ⟨(ku1 (ku4 kz rfl) rfl), ⟨_, rfl, rfl⟩, e34⟩
    ·refine ls rfl rfl rfl (cb b30_) rfl <| ls rfl rfl rfl (cb b30_) rfl <| ls rfl rfl rfl (cb b30_) rfl <| ls rfl rfl rfl (cb b30_) rfl <| lp rfl (qE (b := false) (v := (.bool false)) (cb b30_) rfl) ?_
     obtain rfl := si H
     exact nx ⟨(ku1 (ku4 kz rfl) rfl), ⟨_, rfl, rfl⟩, er⟩
   intro s38 w34 z39 K35 hq h36 e37
   rw [hq] at h36; clear hq
   refine nx ?_
   rcases qf H with ⟨q40, H⟩ | ⟨q40, H⟩
   ·refine qq (h36.trans (cb q40)) <| wr <| lp rfl (xm (S (jc a2 (([122] : List UInt8) ++ (yQ x7_1.toNat)))) (K35 8 rfl)) <| lp rfl (xa (S (jc a2 (([122] : List UInt8) ++ (yQ x7_1.toNat)))) rfl) <| nx <| qu <| qU <| qk <| qk <| qU <| qk <| qy ?_
    obtain rfl := si H
    obtain rfl := si S18
    have H := C4
    obtain rfl := si H
    exact qT rfl ((((e14.t e22).t e27).t e30).t e37)
   ·refine qh (h36.trans (cb q40)) <| qv <| yq <| qe <| qQ <| lp rfl (xm (.int .i64 x7_1) ((K35 7 rfl).trans h16)) <| lp rfl (vE rfl rfl) <| lp rfl (xa (.int .i64 (IntKind.wrap .i64 (x7_1 + 1))) rfl) <| nx ?_
    obtain rfl := si H
    exact ⟨_, Nat.lt_succ_self _, IntKind.wrap .i64 (x7_1 + 1), (ku3 (Kp.cut (ku3 (ku8 K13 rfl) rfl) K35 rfl) rfl), rfl, ((((e14.t e22).t e27).t e30).t e37), S18⟩
 ·rintro s7 w6 ⟨x6_5, K8, h41, e9, y42⟩
  rw [y42] at C4
  have H := C4
  replace H : _ = some _ := H
  refine fin_n ?_
  obtain rfl := si H
  exact qT h41 e9
/-! spec.l05Witness -/
theorem yc.walk {w : World} {a0 : List Rec} {a1 : List Rec} {v_a0 : Value} (f_a0 : Rd 5 ql w v_a0 a0) {v_a1 : Value} (f_a1 : Rd 5 ql w v_a1 a1) {r : List Nd × Bool} (H : yc.sh a0 a1 = some r) :
  Calls Tryz.prog 84 #[v_a0, v_a1] w (Rt (RT 91 4 yv w r.1 (.bool r.2))) := by
 unfold yc.sh at H
 refine qp Tryz.func84 rfl (Nat.le_of_ble_eq_true rfl) Tryz.ntmps84 rfl ?_
 refine wr <| lp rfl (xa (.slice none 0 0) rfl) <| lp rfl (xa (.bool false) rfl) <| nx <| wr <| lp rfl (xm v_a0 rfl) ?_
 obtain ⟨c1, H⟩ := qa H
 obtain ⟨c2, H⟩ := qa H
 refine vG (.plain rfl) rfl (ltb rfl) rfl Tryz.call76 (vv.calls (w := w) (a0 := a0) f_a0 (od c1) (od c2)) rfl <| fun v5 w3 e4 o6 => lp rfl (xa v5 rfl) <| nx <| wr <| lp rfl (xm v_a1 rfl) ?_
 obtain ⟨c7, H⟩ := qa H
 obtain ⟨c8, H⟩ := qa H
 refine vG (.plain rfl) rfl (ltb rfl) rfl Tryz.call76 (vv.calls (w := w3) (a0 := a1) (Rd.ext f_a1 e4) (od c7) (od c8)) rfl <| fun v11 w9 e10 o12 => lp rfl (xa v11 rfl) <| nx <| wr <| lp rfl (xm v5 rfl) <| lp rfl (xm v11 rfl) ?_
 obtain ⟨c13, H⟩ := qa H
 obtain ⟨c14, H⟩ := qa H
 refine lc rfl rfl Tryz.call143 (qF.calls (w := w9) (a0 := (qb a0)) (a1 := (qb a1)) (Ow.rd (Ow.ext o6 e10)) (Ow.rd o12) (od c13) (od c14)) rfl <| fun w15 e16 => lp rfl (qg rfl) <| lp rfl (vR (v := (.agg (ql ((qS (qb a0) (qb a1)).1)).toArray)) rfl rfl) <| lp rfl (vR (v := (.agg (ql ((qS (qb a0) (qb a1)).2.1)).toArray)) rfl rfl) <| lp rfl (vR (v := (.bool ((qS (qb a0) (qb a1)).2.2))) rfl rfl) <| j7 (.plain rfl) rfl (ltb rfl) rfl Tryz.zeroValue52 <| fun b17 w18 z19 z20 e21 k22 => j7 (.plain rfl) rfl (ltb rfl) rfl Tryz.zeroValue52 <| fun b23 w24 z25 z26 e27 k28 => yk (.plain rfl) rfl rfl Tryz.sizeOf52 rfl rfl rfl rfl rfl (Blk.ext k22 e27) <| fun w29 h30 k31 => yk (.plain rfl) rfl rfl Tryz.sizeOf52 rfl rfl rfl rfl rfl (Wr.blk h30 k28 (fun e9 => by have e8 : b23 = b17 := e9; clear e9; have h9 := Blk.lt k22; have h8 := z25; omega)) <| fun w32 h33 k34 => lp rfl (xa (.bool ((qS (qb a0) (qb a1)).2.2)) rfl) <| nx <| qj <| qH <| wr <| lp rfl (xm (.bool ((qS (qb a0) (qb a1)).2.2)) rfl) <| lp rfl (jh rfl) <| lp rfl (xa (.bool (!((qS (qb a0) (qb a1)).2.2))) rfl) <| nx ?_
 rcases qf H with ⟨q35, H⟩ | ⟨q35, H⟩
 ·refine qq (cb q35) <| wr <| jg (.plain rfl) rfl (ltb rfl) rfl Tryz.underlying29 Tryz.sizeOf91 Tryz.zeroValue91 rfl rfl rfl (vs := []) rfl (vM rfl) <| fun b36 w37 z38 z39 e40 k41 => lp rfl (xa (.slice (some ⟨b36, 0, none⟩) 0 0) rfl) <| lp rfl (xa (.bool false) rfl) <| nx <| qu <| qU <| qk <| qy ?_
  obtain rfl := si H
  exact Vd rfl rfl ((((e4.t e10).t e16).t (Below.trans (Below.trans (e21.t e27) (Wr.below h30 (Nat.le_of_eq z19))) (Wr.below h33 (Nat.le_trans e21.size (Nat.le_of_eq z25))))).t e40) (Ow.zero (base := w.heap.size)) (Nat.le_refl _)
 ·refine qh (cb q35) <| wr <| lp rfl (qc Tryz.underlying52 rfl Tryz.sizeOf3 rfl rfl) <| lp rfl (qA Tryz.isAgg3 (Wr.blk h33 k31 (fun e9 => by have e8 : b17 = b23 := e9; clear e9; have h9 := Blk.lt k22; have h8 := z25; omega)) rfl rfl) <| lp rfl (yp rfl rfl) <| lp rfl (xm (.bool (decide ((((qS (qb a0) (qb a1)).1).kind) = 4))) rfl) <| yR 4 [(29, 33)] 32 (.bool ((decide ((((qS (qb a0) (qb a1)).1).kind) = 4)) && (decide ((((qS (qb a0) (qb a1)).2.1).kind) = 0)))) ?_ ?_
  ·rcases qw (decide ((((qS (qb a0) (qb a1)).1).kind) = 4)) with b41_ | b41_
   ·exact lg rfl rfl rfl rfl (cb b41_) (qc Tryz.underlying52 rfl Tryz.sizeOf3 rfl rfl) <| lg rfl rfl rfl rfl (cb b41_) (qA Tryz.isAgg3 k34 rfl rfl) <| lg rfl rfl rfl rfl (cb b41_) (yp rfl rfl) <| lp rfl (qE (b := true) (v := (.bool (decide ((((qS (qb a0) (qb a1)).2.1).kind) = 0)))) (cb b41_) rfl) <| nx ⟨(ku4 kz rfl), (Qg b41_), er⟩
   ·exact ls rfl rfl rfl (cb b41_) rfl <| ls rfl rfl rfl (cb b41_) rfl <| ls rfl rfl rfl (cb b41_) rfl <| lp rfl (qE (b := false) (v := (.bool false)) (cb b41_) rfl) <| nx ⟨(ku4 kz rfl), (Qd b41_), er⟩
  intro s47 w43 K44 h45 e46
  refine lp rfl (qC h45) <| nx ?_
  rcases qf H with ⟨q48, H⟩ | ⟨q48, H⟩
  ·refine qq (cb q48) <| wr <| lp rfl (qc Tryz.underlying52 rfl Tryz.sizeOf9 rfl (K44 6 rfl)) <| lp rfl (qA Tryz.isAgg9 (Blk.ext (Wr.blk h33 k31 (fun e9 => by have e8 : b17 = b23 := e9; clear e9; have h9 := Blk.lt k22; have h8 := z25; omega)) e46) rfl rfl) ?_
   obtain ⟨c49, H⟩ := qa H
   refine vG (.plain rfl) rfl (ltb rfl) rfl Tryz.call144 (vi.calls (w := w43) (a0 := ((qS (qb a0) (qb a1)).1).path) (od c49)) rfl <| fun v52 w50 e51 o53 => lp rfl (xa v52 rfl) <| lp rfl (xa (.bool true) rfl) <| nx <| qu <| qU <| qk <| qy ?_
   obtain rfl := si H
   exact Vd rfl rfl (((((e4.t e10).t e16).t (Below.trans (Below.trans (e21.t e27) (Wr.below h30 (Nat.le_of_eq z19))) (Wr.below h33 (Nat.le_trans e21.size (Nat.le_of_eq z25))))).t e46).t e51) o53 (((((e4.t e10).t e16).t (Below.trans (Below.trans (e21.t e27) (Wr.below h30 (Nat.le_of_eq z19))) (Wr.below h33 (Nat.le_trans e21.size (Nat.le_of_eq z25))))).t e46)).size
  ·refine qh (cb q48) <| wr <| lp rfl (qc Tryz.underlying52 rfl Tryz.sizeOf3 rfl (K44 7 rfl)) <| lp rfl (qA Tryz.isAgg3 (Blk.ext k34 e46) rfl rfl) <| lp rfl (yp rfl rfl) <| lp rfl (xm (.bool (decide ((((qS (qb a0) (qb a1)).2.1).kind) = 4))) rfl) <| yR 4 [(41, 45)] 44 (.bool ((decide ((((qS (qb a0) (qb a1)).2.1).kind) = 4)) && (decide ((((qS (qb a0) (qb a1)).1).kind) = 0)))) ?_ ?_
   ·rcases qw (decide ((((qS (qb a0) (qb a1)).2.1).kind) = 4)) with b53_ | b53_
    ·exact lg rfl rfl rfl rfl (cb b53_) (qc Tryz.underlying52 rfl Tryz.sizeOf3 rfl (K44 6 rfl)) <| lg rfl rfl rfl rfl (cb b53_) (qA Tryz.isAgg3 (Blk.ext (Wr.blk h33 k31 (fun e9 => by have e8 : b17 = b23 := e9; clear e9; have h9 := Blk.lt k22; have h8 := z25; omega)) e46) rfl rfl) <| lg rfl rfl rfl rfl (cb b53_) (yp rfl rfl) <| lp rfl (qE (b := true) (v := (.bool (decide ((((qS (qb a0) (qb a1)).1).kind) = 0)))) (cb b53_) rfl) <| nx ⟨(ku4 kz rfl), (Qg b53_), er⟩
    ·exact ls rfl rfl rfl (cb b53_) rfl <| ls rfl rfl rfl (cb b53_) rfl <| ls rfl rfl rfl (cb b53_) rfl <| lp rfl (qE (b := false) (v := (.bool false)) (cb b53_) rfl) <| nx ⟨(ku4 kz rfl), (Qd b53_), er⟩
   intro s59 w55 K56 h57 e58
   refine lp rfl (qC h57) <| nx ?_
   rcases qf H with ⟨q60, H⟩ | ⟨q60, H⟩
   ·refine qq (cb q60) <| wr <| lp rfl (qc Tryz.underlying52 rfl Tryz.sizeOf9 rfl ((K56 7 rfl).trans (K44 7 rfl))) <| lp rfl (qA Tryz.isAgg9 (Blk.ext k34 (e46.t e58)) rfl rfl) ?_
    obtain ⟨c61, H⟩ := qa H
    refine vG (.plain rfl) rfl (ltb rfl) rfl Tryz.call144 (vi.calls (w := w55) (a0 := ((qS (qb a0) (qb a1)).2.1).path) (od c61)) rfl <| fun v64 w62 e63 o65 => lp rfl (xa v64 rfl) <| lp rfl (xa (.bool true) rfl) <| nx <| qu <| qU <| qk <| qy ?_
    obtain rfl := si H
    exact Vd rfl rfl ((((((e4.t e10).t e16).t (Below.trans (Below.trans (e21.t e27) (Wr.below h30 (Nat.le_of_eq z19))) (Wr.below h33 (Nat.le_trans e21.size (Nat.le_of_eq z25))))).t e46).t e58).t e63) o65 ((((((e4.t e10).t e16).t (Below.trans (Below.trans (e21.t e27) (Wr.below h30 (Nat.le_of_eq z19))) (Wr.below h33 (Nat.le_trans e21.size (Nat.le_of_eq z25))))).t e46).t e58)).size
   ·refine qh (cb q60) <| wr <| lp rfl (qc Tryz.underlying52 rfl Tryz.sizeOf3 rfl ((K56 6 rfl).trans (K44 6 rfl))) <| lp rfl (qA Tryz.isAgg3 (Blk.ext (Wr.blk h33 k31 (fun e9 => by have e8 : b17 = b23 := e9; clear e9; have h9 := Blk.lt k22; have h8 := z25; omega)) (e46.t e58)) rfl rfl) <| lp rfl (yp rfl rfl) <| lp rfl (xm (.bool (decide ((((qS (qb a0) (qb a1)).1).kind) = 3))) rfl) <| yR 4 [(53, 57)] 56 (.bool ((decide ((((qS (qb a0) (qb a1)).1).kind) = 3)) && (decide ((((qS (qb a0) (qb a1)).2.1).kind) = 3)))) ?_ ?_
    ·rcases qw (decide ((((qS (qb a0) (qb a1)).1).kind) = 3)) with b65_ | b65_
     ·exact lg rfl rfl rfl rfl (cb b65_) (qc Tryz.underlying52 rfl Tryz.sizeOf3 rfl ((K56 7 rfl).trans (K44 7 rfl))) <| lg rfl rfl rfl rfl (cb b65_) (qA Tryz.isAgg3 (Blk.ext k34 (e46.t e58)) rfl rfl) <| lg rfl rfl rfl rfl (cb b65_) (yp rfl rfl) <| lp rfl (qE (b := true) (v := (.bool (decide ((((qS (qb a0) (qb a1)).2.1).kind) = 3)))) (cb b65_) rfl) <| nx ⟨(ku4 kz rfl), (Qg b65_), er⟩
     ·exact ls rfl rfl rfl (cb b65_) rfl <| ls rfl rfl rfl (cb b65_) rfl <| ls rfl rfl rfl (cb b65_) rfl <| lp rfl (qE (b := false) (v := (.bool false)) (cb b65_) rfl) <| nx ⟨(ku4 kz rfl), (Qd b65_), er⟩
    intro s71 w67 K68 h69 e70
    refine lp rfl (qg h69) <| yR 6 [(58, 64)] 63 (.bool (((decide ((((qS (qb a0) (qb a1)).1).kind) = 3)) && (decide ((((qS (qb a0) (qb a1)).2.1).kind) = 3))) && (decide ((((qS (qb a0) (qb a1)).1).mode) = (((qS (qb a0) (qb a1)).2.1).mode))))) ?_ ?_
    ·rcases qw ((decide ((((qS (qb a0) (qb a1)).1).kind) = 3)) && (decide ((((qS (qb a0) (qb a1)).2.1).kind) = 3))) with b71_ | b71_
     ·exact lg rfl rfl rfl rfl (cb b71_) (qc Tryz.underlying52 rfl Tryz.sizeOf3 rfl ((K68 6 rfl).trans ((K56 6 rfl).trans (K44 6 rfl)))) <| lg rfl rfl rfl rfl (cb b71_) (qA Tryz.isAgg3 (Blk.ext (Wr.blk h33 k31 (fun e9 => by have e8 : b17 = b23 := e9; clear e9; have h9 := Blk.lt k22; have h8 := z25; omega)) ((e46.t e58).t e70)) rfl rfl) <| lg rfl rfl rfl rfl (cb b71_) (qc Tryz.underlying52 rfl Tryz.sizeOf3 rfl ((K68 7 rfl).trans ((K56 7 rfl).trans (K44 7 rfl)))) <| lg rfl rfl rfl rfl (cb b71_) (qA Tryz.isAgg3 (Blk.ext k34 ((e46.t e58).t e70)) rfl rfl) <| lg rfl rfl rfl rfl (cb b71_) (yp rfl rfl) <| lp rfl (qE (b := true) (v := (.bool (decide ((((qS (qb a0) (qb a1)).1).mode) = (((qS (qb a0) (qb a1)).2.1).mode))))) (cb b71_) rfl) <| nx ⟨(ku2 (ku4 kz rfl) rfl), (Qg b71_), er⟩
     ·exact ls rfl rfl rfl (cb b71_) rfl <| ls rfl rfl rfl (cb b71_) rfl <| ls rfl rfl rfl (cb b71_) rfl <| ls rfl rfl rfl (cb b71_) rfl <| ls rfl rfl rfl (cb b71_) rfl <| lp rfl (qE (b := false) (v := (.bool false)) (cb b71_) rfl) <| nx ⟨(ku2 (ku4 kz rfl) rfl), (Qd b71_), er⟩
    intro s77 w73 K74 h75 e76
    refine lp rfl (qC h75) <| nx ?_
    rcases qf H with ⟨q78, H⟩ | ⟨q78, H⟩
    ·refine qq (cb q78) <| wr <| lp rfl (xm v5 ((K74 0 rfl).trans ((K68 0 rfl).trans ((K56 0 rfl).trans (K44 0 rfl))))) <| lp rfl (xm v11 ((K74 1 rfl).trans ((K68 1 rfl).trans ((K56 1 rfl).trans (K44 1 rfl))))) <| lp rfl (qc Tryz.underlying52 rfl Tryz.sizeOf9 rfl ((K74 6 rfl).trans ((K68 6 rfl).trans ((K56 6 rfl).trans (K44 6 rfl))))) <| lp rfl (qA Tryz.isAgg9 (Blk.ext (Wr.blk h33 k31 (fun e9 => by have e8 : b17 = b23 := e9; clear e9; have h9 := Blk.lt k22; have h8 := z25; omega)) (((e46.t e58).t e70).t e76)) rfl rfl) ?_
     obtain ⟨c79, H⟩ := qa H
     obtain ⟨c80, H⟩ := qa H
     obtain ⟨c81, H⟩ := qa H
     obtain ⟨z84, x85, H⟩ := bind_some H
     replace x85 := si x85
     refine lc rfl rfl Tryz.call145 (ya.calls (w := w73) (a0 := (qb a0)) (a1 := (qb a1)) (a2 := ((qS (qb a0) (qb a1)).1).path) (Ow.rd (Ow.ext o6 ((((((e10.t e16).t (Below.trans (Below.trans (e21.t e27) (Wr.below h30 (Nat.le_of_eq z19))) (Wr.below h33 (Nat.le_trans e21.size (Nat.le_of_eq z25))))).t e46).t e58).t e70).t e76))) (Ow.rd (Ow.ext o12 (((((e16.t (Below.trans (Below.trans (e21.t e27) (Wr.below h30 (Nat.le_of_eq z19))) (Wr.below h33 (Nat.le_trans e21.size (Nat.le_of_eq z25))))).t e46).t e58).t e70).t e76))) (od c79) (od c80) (od c81)) rfl <| fun w82 e83 => ?_
     obtain ⟨c86, H⟩ := qa H
     refine vG (.plain rfl) rfl (ltb rfl) rfl Tryz.call144 (vi.calls (w := w82) (a0 := z84) (od c86)) (vu (congrArg S x85) rfl) <| fun v89 w87 e88 o90 => lp rfl (xa v89 rfl) <| lp rfl (xa (.bool true) rfl) <| nx <| qu <| qU <| qk <| qy ?_
     obtain rfl := si H
     exact Vd rfl rfl (((((((((e4.t e10).t e16).t (Below.trans (Below.trans (e21.t e27) (Wr.below h30 (Nat.le_of_eq z19))) (Wr.below h33 (Nat.le_trans e21.size (Nat.le_of_eq z25))))).t e46).t e58).t e70).t e76).t e83).t e88) o90 (((((((((e4.t e10).t e16).t (Below.trans (Below.trans (e21.t e27) (Wr.below h30 (Nat.le_of_eq z19))) (Wr.below h33 (Nat.le_trans e21.size (Nat.le_of_eq z25))))).t e46).t e58).t e70).t e76).t e83)).size
    ·refine qh (cb q78) <| qv <| yq <| qe <| wr <| jg (.plain rfl) rfl (ltb rfl) rfl Tryz.underlying29 Tryz.sizeOf91 Tryz.zeroValue91 rfl rfl rfl (vs := []) rfl (vM rfl) <| fun b91 w92 z93 z94 e95 k96 => lp rfl (xa (.slice (some ⟨b91, 0, none⟩) 0 0) rfl) <| lp rfl (xa (.bool true) rfl) <| nx <| qu <| qy ?_
     obtain rfl := si H
     exact Vd rfl rfl ((((((((e4.t e10).t e16).t (Below.trans (Below.trans (e21.t e27) (Wr.below h30 (Nat.le_of_eq z19))) (Wr.below h33 (Nat.le_trans e21.size (Nat.le_of_eq z25))))).t e46).t e58).t e70).t e76).t e95) (Ow.zero (base := w.heap.size)) (Nat.le_refl _)
theorem yc.calls {w : World} {a0 : List Rec} {a1 : List Rec} {v_a0 : Value} (f_a0 : Rd 5 ql w v_a0 a0) {v_a1 : Value} (f_a1 : Rd 5 ql w v_a1 a1) (h0 : (qo a0).2 = 0) (h1 : (qo a1).2 = 0) :
  Calls Tryz.prog 84 #[v_a0, v_a1] w (Rt (RT 91 4 yv w ((VY a0 a1).1) (.bool ((VY a0 a1).2)))) := yc.walk f_a0 f_a1 (yc.eq a0 a1 h0 h1)
/-! spec.Witness -/
theorem yP.walk {w : World} {a0 : List Rec} {a1 : List Rec} {v_a0 : Value} (f_a0 : Rd 5 ql w v_a0 a0) {v_a1 : Value} (f_a1 : Rd 5 ql w v_a1 a1) {r : List Nd × Int} (H : yP.sh a0 a1 = some r) :
  Calls Tryz.prog 23 #[v_a0, v_a1] w (Rt (RT 91 4 yv w r.1 (.int .i64 r.2))) := by
 unfold yP.sh at H
 refine qp Tryz.func23 rfl (Nat.le_of_ble_eq_true rfl) Tryz.ntmps23 rfl ?_
 refine wr <| lp rfl (xa (.slice none 0 0) rfl) <| lp rfl (xa (.int .i64 0) rfl) <| nx <| qj <| wr <| lp rfl (xm v_a0 rfl) <| lp rfl (vf Tryz.underlying35 rfl f_a0) <| lp rfl (VE rfl rfl) <| lp rfl (xm (.bool (decide (4096 < (a0.length : Int)))) rfl) <| yR 4 [(12, 16)] 15 (.bool ((decide (4096 < (a0.length : Int))) || (decide (4096 < (a1.length : Int))))) ?_ ?_
 ·rcases qw (decide (4096 < (a0.length : Int))) with b0_ | b0_
  ·exact ls rfl rfl rfl (cb b0_) rfl <| ls rfl rfl rfl (cb b0_) rfl <| ls rfl rfl rfl (cb b0_) rfl <| lp rfl (qE (b := true) (v := (.bool true)) (cb b0_) rfl) <| nx ⟨(ku4 kz rfl), (Jn b0_), er⟩
  ·exact lg rfl rfl rfl rfl (cb b0_) (xm v_a1 rfl) <| lg rfl rfl rfl rfl (cb b0_) (vf Tryz.underlying35 rfl f_a1) <| lg rfl rfl rfl rfl (cb b0_) (VE rfl rfl) <| lp rfl (qE (b := false) (v := (.bool (decide (4096 < (a1.length : Int))))) (cb b0_) rfl) <| nx ⟨(ku4 kz rfl), (Y4 b0_), er⟩
 intro s6 w2 K3 h4 e5
 refine nx ?_
 rcases qf H with ⟨q7, H⟩ | ⟨q7, H⟩
 ·refine qq (h4.trans (cb q7)) <| wr <| jg (.plain rfl) rfl (ltb rfl) rfl Tryz.underlying29 Tryz.sizeOf91 Tryz.zeroValue91 rfl rfl rfl (vs := []) rfl (vM rfl) <| fun b8 w9 z10 z11 e12 k13 => lp rfl (xa (.slice (some ⟨b8, 0, none⟩) 0 0) rfl) <| lp rfl (xa (.int .i64 2) rfl) <| nx <| qu <| qk <| qy ?_
  obtain rfl := si H
  exact Vd rfl rfl (e5.t e12) (Ow.zero (base := w.heap.size)) (Nat.le_refl _)
 ·refine qh (h4.trans (cb q7)) <| qv <| qe <| qj <| wr <| lp rfl (xm v_a0 (K3 0 rfl)) ?_
  obtain ⟨c14, H⟩ := qa H
  obtain ⟨c15, H⟩ := qa H
  refine lc rfl rfl Tryz.call74 (jS.calls (w := w2) (a0 := a0) (Rd.ext f_a0 e5) (od c14) (od c15)) rfl <| fun w16 e17 => lp rfl (jh rfl) <| lp rfl (xm (.bool (!(decide ((qo a0).2 = 0)))) rfl) ?_
  obtain ⟨z19, x20, H⟩ := bind_some H
  refine Ql 4 [(21, 25)] 24 (fun q => q = z19) ?_ ?_
  ·rcases qf x20 with ⟨b17_, H⟩ | ⟨b17_, H⟩
   ·refine ls rfl rfl rfl (cb b17_) rfl <| ls rfl rfl rfl (cb b17_) rfl <| ls rfl rfl rfl (cb b17_) rfl <| lp rfl (qE (b := true) (v := (.bool true)) (cb b17_) rfl) ?_
    obtain rfl := si H
    exact nx ⟨(ku4 kz rfl), ⟨_, rfl, rfl⟩, er⟩
   ·refine lg rfl rfl rfl rfl (cb b17_) (xm v_a1 (K3 1 rfl)) ?_
    obtain ⟨c19, H⟩ := qa H
    obtain ⟨c20, H⟩ := qa H
    refine jf (tg rfl rfl rfl (cb b17_)) rfl (ltb rfl) rfl Tryz.call74 (jS.calls (w := w16) (a0 := a1) (Rd.ext f_a1 (e5.t e17)) (od c19) (od c20)) rfl <| fun w21 e22 => lg rfl rfl rfl rfl (cb b17_) (jh rfl) <| lp rfl (qE (b := false) (v := (.bool (!(decide ((qo a1).2 = 0))))) (cb b17_) rfl) ?_
    obtain rfl := si H
    exact nx ⟨(ku4 kz rfl), ⟨_, rfl, rfl⟩, e22⟩
  intro s25 w21 z26 K22 hq h23 e24
  rw [hq] at h23; clear hq
  refine nx ?_
  rcases qf H with ⟨q27, H⟩ | ⟨q27, H⟩
  ·refine qq (h23.trans (cb q27)) <| wr <| jg (.plain rfl) rfl (ltb rfl) rfl Tryz.underlying29 Tryz.sizeOf91 Tryz.zeroValue91 rfl rfl rfl (vs := []) rfl (vM rfl) <| fun b28 w29 z30 z31 e32 k33 => lp rfl (xa (.slice (some ⟨b28, 0, none⟩) 0 0) rfl) <| lp rfl (xa (.int .i64 1) rfl) <| nx <| qu <| qk <| qy ?_
   obtain rfl := si H
   exact Vd rfl rfl (((e5.t e17).t e24).t e32) (Ow.zero (base := w.heap.size)) (Nat.le_refl _)
  ·refine qh (h23.trans (cb q27)) <| qv <| qe <| wr <| lp rfl (xm v_a0 ((K22 0 rfl).trans (K3 0 rfl))) <| lp rfl (xm v_a1 ((K22 1 rfl).trans (K3 1 rfl))) ?_
   obtain ⟨c34, H⟩ := qa H
   obtain ⟨c35, H⟩ := qa H
   refine JY (.plain rfl) rfl (ltb rfl) rfl Tryz.call84 (yc.calls (w := w21) (a0 := a0) (a1 := a1) (Rd.ext f_a0 ((e5.t e17).t e24)) (Rd.ext f_a1 ((e5.t e17).t e24)) (od c34) (od c35)) rfl <| fun v38 w36 e37 o39 => lp rfl (xm (.tuple #[v38, (.bool ((VY a0 a1).2))]) rfl) <| lp rfl (vR (v := v38) rfl rfl) <| lp rfl (vR (v := (.bool ((VY a0 a1).2))) rfl rfl) <| lp rfl (xa v38 rfl) <| lp rfl (xa (.bool ((VY a0 a1).2)) rfl) <| nx <| qj <| wr <| lp rfl (xm (.bool ((VY a0 a1).2)) rfl) <| lp rfl (jh rfl) <| nx ?_
   rcases qf H with ⟨q40, H⟩ | ⟨q40, H⟩
   ·refine qq (cb q40) <| wr <| jg (.plain rfl) rfl (ltb rfl) rfl Tryz.underlying29 Tryz.sizeOf91 Tryz.zeroValue91 rfl rfl rfl (vs := []) rfl (vM rfl) <| fun b41 w42 z43 z44 e45 k46 => lp rfl (xa (.slice (some ⟨b41, 0, none⟩) 0 0) rfl) <| lp rfl (xa (.int .i64 18) rfl) <| nx <| qu <| qk <| qy ?_
    obtain rfl := si H
    exact Vd rfl rfl ((((e5.t e17).t e24).t e37).t e45) (Ow.zero (base := w.heap.size)) (Nat.le_refl _)
   ·refine qh (cb q40) <| qv <| qe <| wr <| lp rfl (xm v38 rfl) <| lp rfl (xa v38 rfl) <| lp rfl (xa (.int .i64 0) rfl) <| nx <| qu <| qy ?_
    obtain rfl := si H
    exact Vd rfl rfl (((e5.t e17).t e24).t e37) o39 (((e5.t e17).t e24)).size
theorem yP.calls {w : World} {a0 : List Rec} {a1 : List Rec} {v_a0 : Value} (f_a0 : Rd 5 ql w v_a0 a0) {v_a1 : Value} (f_a1 : Rd 5 ql w v_a1 a1) (h0 : a0.length ≤ 1048576) (h1 : a1.length ≤ 1048576) (h2 : ∀ x ∈ a0, x.path.length ≤ 1048576) (h3 : ∀ x ∈ a1, x.path.length ≤ 1048576) :
  Calls Tryz.prog 23 #[v_a0, v_a1] w (Rt (RT 91 4 yv w ((qt a0 a1).1) (.int .i64 ((qt a0 a1).2)))) := yP.walk f_a0 f_a1 (yP.eq a0 a1 h0 h1 h2 h3)
/-! impl.fileAt, by text -/
theorem JH.calls {w : World} {a0 : List UInt8} (h0 : qz a0 = true) :
    Calls Tryz.prog 81 #[S a0] w (Rt (RO 91 4 yv w (jI a0))) := by
  letI : Inhabited Value := ⟨undef⟩
  have hlp := j9 h0
  have hla := XP a0
  refine callsIn_wide.1 (YC (n := 3) Tryz.func81 rfl (Nat.le_of_ble_eq_true rfl) Tryz.ntmps81 ?_)
  refine Vu <| Vy <| jn vp rfl rfl rfl (ltb rfl) (qC (v := .slice none 0 0) rfl) <| Vx <| Vu <| Vy <| LI_lit vp rfl rfl rfl (ltb rfl) rfl Tryz.underlying29 Tryz.sizeOf91 Tryz.zeroValue91 rfl rfl rfl (vs := []) rfl (vM rfl) <| fun b6 w1 z1 z1' e1 k1 => LI_alloc vp rfl rfl rfl (ltb rfl) rfl Tryz.zeroValue29 <| fun b3 w2 z2 z2' e2 k2 =>
    Xd vp rfl rfl rfl Tryz.sizeOf29 rfl rfl rfl k2 (ltb rfl) <| fun w3 hw3 k3 => Vx ?_
  have hb3 : w.heap.size ≤ b3 := by have := e1.size; omega
  have e3 : Ext w w3 := Ext.wr (e1.t e2) hw3 hb3 (Nat.le_refl _)
  have k3' : Blk w3 b3 #[.slice (some ⟨b6, 0, none⟩) 0 0] 29 := k3
  refine Vu <| Vu <| Vy <| jn vp rfl rfl rfl (ltb rfl) (qg (v := S a0) rfl) <| X1 vp (vs := #[S a0]) rfl rfl (ltb rfl) rfl Tryz.call141 (vd.calls (w := w3) (a0 := a0) (by omega)) rfl <| fun v8 w4 hA4 => ?_
  obtain ⟨e4, o8⟩ := hA4
  have hR8 : Rd 1 QU w4 v8 ((vx a0).map S) := Rd.toV (Ow.rd o8)
  obtain ⟨A8, c8, hv8⟩ := hR8.shape
  have hall : ∀ i, i < ((vx a0).map S).length → ((vx a0).map S).getD i undef = S ((vx a0).getD i []) := by
    intro i hi
    have hi2 : i < (vx a0).length := by simpa using hi
    simp only [List.getD_eq_getElem?_getD, List.getElem?_map, List.getElem?_eq_getElem hi2, Option.map_some, Option.getD_some]
  have hlv : ((vx a0).map S).length = (vx a0).length := by simp
  have hRV : ∀ W, Ow 9 1 yu w3.heap.size W v8 (vx a0) → Rd 1 QU W v8 ((vx a0).map S) := fun W h => Rd.toV (Ow.rd h)
  generalize (vx a0).map S = vs at hR8 hv8 hall hlv hRV
  refine X1 vp (vs := #[v8]) rfl rfl (ltb rfl) rfl Tryz.call140 (JC.calls hv8) rfl <| fun u w5 hA5 => ?_
  obtain ⟨e5, b8, hb8, k8, rfl⟩ := hA5
  refine Vx ?_
  have h35 : Ext w3 w5 := Ext.trans e4 e5
  have eA : Ext w w5 := Ext.trans e3 h35
  have k35 := k3'.ext h35
  have l3 := k3'.lt
  have l35 := k35.lt
  have l8 := k8.lt
  have hne : b8 ≠ b3 := by have := e4.size; omega
  refine Y6 <| WI_range (n := 3) (α := Fin vs.length) (by omega) (gf := 197) rfl Tryz.call197
    (Yu.stops (w0 := w5) (v := v8) (b0 := b8) (vs := vs) (by omega) (Kp := fun W W' => (Blk W b8 #[v8] 44 ∧ Ow 9 1 yu w3.heap.size W v8 (vx a0)) → (Blk W' b8 #[v8] 44 ∧ Ow 9 1 yu w3.heap.size W' v8 (vx a0))) (H := fun W => Blk W b8 #[v8] 44 ∧ Ow 9 1 yu w3.heap.size W v8 (vx a0)) (fun W h => ⟨k8.ext h, (o8.ext e5).ext h⟩) (fun _ _ h k => k h) (fun W h => h.1) (fun W h => hRV W h.2) (n := 3 - 1))
    (fun h k q => k (h q)) (fun W l o o' hl ho hc _ q => ⟨Blk.grow q.1 (grownBy_putObj' W l o') (B := w5.heap.size) (fun r e => by cases e; exact ⟨hl, o, ho, hc⟩), q.2.grow (grownBy_putObj' W l o') (fun r e => by cases e; exact ⟨o, ho, hc⟩)⟩) (Below.refl _ _) (fun _ => rfl)
    (fun pre W => ∃ v, Blk W b3 #[v] 29 ∧ Ow 91 4 yv w5.heap.size W v (pre.map fun i : Fin vs.length => (⟨3, (vx a0).getD i.val [], [], 0⟩ : Nd)) ∧ Ext w W ∧ w5.heap.size ≤ W.heap.size)
    (fun c pre W => False)
    ?_ (fun c s W W' row hs => hs.elim) ⟨_, k35, Ow.zero, eA, Nat.le_refl _⟩
    (fun i => upd (upd (upd (upd (upd (upd (upd (upd (upd (fun t => (#[S a0] : Array Value).getD t undef) 2 (.slice none 0 0)) 6 (.slice (some ⟨b6, 0, none⟩) 0 0)) 3 (.pointer (some ⟨b3, 0, none⟩))) 7 (S a0)) 8 v8) 9 (.func (.func 197) #[] #[.pointer (some ⟨b8, 0, none⟩)])) 10 (.int .i64 (i.val : Int))) 11 (vs.getD i.val undef)) 5 (vs.getD i.val undef))
    ?_ ?_ ?_ ?_ ?_
  · rintro s W W' row ⟨v, h1, h2, h3, h4⟩ hg hr
    exact ⟨v, h1.grow hg hr, h2.grow hg fun r e => (hr r e).2, h3.grow hg eA.size hr, Nat.le_trans h4 hg.size⟩
  · intro hf x
    exact XD (by decide) (XD (by decide) (XD (by decide) hf))
  · intro l x W a K ha hK
    refine ⟨_, ha.two 10 11 (by decide) (by decide) (.int .i64 (x.val : Int)) (vs.getD x.val undef), ?_⟩
    exact Vy <| jn (Qv l) rfl rfl rfl (ltb rfl) (qC rfl) <| Vx hK
  · rintro l pre x W ⟨v, kW, oW, eW, sW⟩ hlen
    obtain ⟨q, hq⟩ : ∃ q, (vx a0).getD x.val [] = q := ⟨_, rfl⟩
    have hu : vs.getD x.val undef = S q := by rw [hall x.val x.isLt, hq]
    refine Y6 <| Vy <| jn (Qv l) rfl rfl rfl (ltb rfl) (qA (v := v) Tryz.isAgg29 kW rfl rfl) <| jn (Qv l) rfl rfl rfl (ltb rfl) (qg (v := S q) hu) <|
      jn (Qv l) rfl rfl rfl (ltb rfl) (jR (vs := [(0, .int .i64 3), (1, S q)]) (pl := #[(0, 1), (1, 1), (2, 1), (3, 1)]) Tryz.underlying91 Tryz.zeroValue91 rfl (fun _ => by kernel_rfl) rfl rfl rfl) <|
      LI_lit (Qv l) rfl rfl rfl (ltb rfl) rfl Tryz.underlying29 Tryz.sizeOf91 Tryz.zeroValue91 rfl rfl rfl (vs := [.agg #[.int .i64 3, S q, S [], .int .i64 0]]) rfl (vM rfl) <| fun b15 w15 z15 z15' e15 k15 => ?_
    refine GT (enc := yv) (base := w5.heap.size) (Qv l) rfl rfl rfl (ltb rfl) rfl El.t29 rfl rfl (oW.ext e15) (Ow.rd (Ow.new (xs := [(⟨3, q, [], 0⟩ : Nd)]) (sz := 4) (enc := yv) (base := W.heap.size) k15 (Nat.le_of_eq z15) rfl (fun _ _ => rfl) (Nat.le_of_ble_eq_true rfl))) (Xh _) (by simp only [List.length_map, List.length_cons, List.length_nil]; omega) (Nat.le_trans sW e15.size) <| fun v16 w16 o16 g16 kp16 => ?_
    have B16 : Below w5.heap.size w15 w16 := g16 _ (Below.refl _ _)
    have kB : ∀ {b : Nat} {cs : Array Value} {T : TypeId}, b < w5.heap.size → Blk w15 b cs T → Blk w16 b cs T := fun hb h => by
      unfold Blk at h ⊢
      rw [B16.block _ hb]; exact h
    have k16 := kB l35 (kW.ext e15)
    refine Xd (Qv l) rfl rfl rfl Tryz.sizeOf29 rfl rfl (by obtain ⟨A9, c9, e9⟩ := o16.rd.shape; rw [e9]; rfl) k16 (ltb rfl) <| fun w17 hw17 k17 => Vx ?_
    have e16 : Ext w w16 := Below.trans (Ext.trans eW e15) (B16.mono eA.size)
    refine ⟨((GN e15).trans kp16).trans (keeps_wr hw17 k16), fun hq9 => ⟨hw17.blk (kB l8 (hq9.1.ext e15)) hne, Ow.wr (Ow.before (hq9.2.ext e15) (Gr.ofBelow B16) (Ow.hb o8) e5.size) hw17 l3⟩, v16, k17, ?_, Ext.wr e16 hw17 hb3 (Nat.le_refl _), Nat.le_trans (Nat.le_trans sW e15.size) (Nat.le_trans B16.size hw17.grown.size)⟩
    rw [List.map_append, List.map_cons, List.map_nil, hq]
    exact Ow.wr o16 hw17 l35
  · rintro D xs W hD hS ⟨v, kW, oW, eW, sW⟩ hk
    refine Vu <| Vy <| jn vp rfl rfl rfl (ltb rfl) (qA (v := v) Tryz.isAgg29 kW rfl rfl) <| jn vp rfl rfl rfl (ltb rfl) (qg (v := S a0) rfl) <|
      jn vp rfl rfl rfl (ltb rfl) (jR (vs := [(0, .int .i64 1), (1, S a0)]) (pl := #[(0, 1), (1, 1), (2, 1), (3, 1)]) Tryz.underlying91 Tryz.zeroValue91 rfl (fun _ => by kernel_rfl) rfl rfl rfl) <|
      LI_lit vp rfl rfl rfl (ltb rfl) rfl Tryz.underlying29 Tryz.sizeOf91 Tryz.zeroValue91 rfl rfl rfl (vs := [.agg #[.int .i64 1, S a0, S [], .int .i64 0]]) rfl (vM rfl) <| fun b20 w20 z20 z20' e20 k20 => ?_
    have hxl : (xs.map fun i : Fin vs.length => (⟨3, (vx a0).getD i.val [], [], 0⟩ : Nd)) = (vx a0).reverse.map fun q => (⟨3, q, [], 0⟩ : Nd) := by
      rw [hS]; exact downTo_map (vx a0) [] (fun q => (⟨3, q, [], 0⟩ : Nd)) vs.length hlv
    rw [hxl] at oW
    refine GT (enc := yv) (base := w5.heap.size) vp rfl rfl rfl (ltb rfl) rfl El.t29 rfl rfl (oW.ext e20) (Ow.rd (Ow.new (xs := [(⟨1, a0, [], 0⟩ : Nd)]) (sz := 4) (enc := yv) (base := W.heap.size) k20 (Nat.le_of_eq z20) rfl (fun _ _ => rfl) (Nat.le_of_ble_eq_true rfl))) (Xh _) (by simp only [List.length_map, List.length_reverse, List.length_cons, List.length_nil]; omega) (Nat.le_trans sW e20.size) <| fun v21 w21 o21 g21 kp21 =>
      jn vp rfl rfl rfl (ltb rfl) (xa v21 rfl) <| Vx <| WI_ret ?_
    have e21 : Ext w w21 := Below.trans (Ext.trans eW e20) ((g21 _ (Below.refl _ _)).mono eA.size)
    have hk21 : w21.heap[D]? = some (.deferred (some [])) := ((GN e20).trans kp21).same D _ hk rfl
    refine ⟨.inr rfl, .inr ⟨D, rfl, hk21, v21, fun tmps hg => ?_, ⟨_, rfl, putD_ext e21 (by have := eA.size; omega) _ hk21, ((o21.base eA.size).putD _ hk21)⟩⟩⟩
    rw [results_tmp (fn := Tryz.f81) rfl, hg 2]; rfl
  · rintro D c pre W hD hS h
    exact h.elim

/-! strconv.Itoa, by text -/
theorem digs_dec {i : Nat} (hi : i < 100) : yQ i = Lib.decDigits i := by
  rw [Lib.decDigits]
  unfold yQ
  by_cases h : i < 10
  · rw [dif_pos h, if_pos h]
  · rw [dif_neg h, if_neg h, Lib.decDigits, dif_pos (show i / 10 < 10 by omega)]; rfl
theorem Xw.calls {w : World} {a0 : Int} (h0 : (0 : Int) ≤ a0) (h1 : (a0 : Int) < 100) : Calls Tryz.prog 83 #[.int .i64 a0] w (Rt (RP w (S (yQ a0.toNat)))) := by
  obtain ⟨i, rfl⟩ : ∃ i : Nat, a0 = i := ⟨a0.toNat, by omega⟩
  have hi : i < 100 := by omega
  have h := Tryz.strconv_Itoa_small i hi w
  refine Calls.mono h ?_
  rintro e w' ⟨rfl, rfl⟩
  exact ⟨_, rfl, Ext.refl _, by rw [Int.toNat_natCast, digs_dec hi]⟩

/-! impl.Witness -/
theorem qN.walk {k : Nat} {w : World} {a0 : List Rec} {a1 : List Rec} (gv : GV 0 w) {v_a0 : Value} (f_a0 : Rd 5 ql w v_a0 a0) {v_a1 : Value} (f_a1 : Rd 5 ql w v_a1 a1) {r : List Nd × Int} (H : qN.sh k a0 a1 = some r) :
  Calls Tryz.prog 22 #[v_a0, v_a1] w (Rt (RT 91 4 yv w r.1 (.int .i64 r.2))) := by
 unfold qN.sh at H
 refine qp Tryz.func22 rfl (Nat.le_of_ble_eq_true rfl) Tryz.ntmps22 rfl ?_
 refine wr <| lp rfl (xa (.slice none 0 0) rfl) <| lp rfl (xa (.int .i64 0) rfl) <| nx <| qj <| wr <| lp rfl (xm v_a0 rfl) <| lc rfl rfl Tryz.call78 (yd.calls (w := w) (a0 := a0) f_a0) rfl <| fun w1 e2 => lp rfl (xm (.bool (decide (4096 < a0.length))) rfl) <| yR 3 [(20, 23)] 22 (.bool ((decide (4096 < a0.length)) || (decide (4096 < a1.length)))) ?_ ?_
 ·rcases qw (decide (4096 < a0.length)) with b2_ | b2_
  ·exact ls rfl rfl rfl (cb b2_) rfl <| ls rfl rfl rfl (cb b2_) rfl <| lp rfl (qE (b := true) (v := (.bool true)) (cb b2_) rfl) <| nx ⟨(ku3 kz rfl), (Jn b2_), er⟩
  ·exact lg rfl rfl rfl rfl (cb b2_) (xm v_a1 rfl) <| jf (tg rfl rfl rfl (cb b2_)) rfl (ltb rfl) rfl Tryz.call78 (yd.calls (w := w1) (a0 := a1) (Rd.ext f_a1 e2)) rfl <| fun w4 e5 => lp rfl (qE (b := false) (v := (.bool (decide (4096 < a1.length)))) (cb b2_) rfl) <| nx ⟨(ku3 kz rfl), (Y4 b2_), e5⟩
 intro s8 w4 K5 h6 e7
 refine lp rfl (vh Tryz.underlying4 rfl h6) <| lp rfl (vh Tryz.underlying3 rfl rfl) <| lp rfl (xm v_a0 (K5 0 rfl)) ?_
 obtain ⟨c9, H⟩ := qa H
 obtain ⟨c10, H⟩ := qa H
 refine lc rfl rfl Tryz.call68 (jk.calls (w := w4) (a0 := a0) (GV.ext gv (e2.t e7)) (Rd.ext f_a0 (e2.t e7)) (od c9) (od c10)) rfl <| fun w11 e12 => lp rfl (jh rfl) <| lp rfl (xm (.bool (!(decide ((vn a0).2 = 0)))) rfl) ?_
 obtain ⟨z14, x15, H⟩ := bind_some H
 refine Ql 4 [(29, 33)] 32 (fun q => q = z14) ?_ ?_
 ·rcases qf x15 with ⟨b12_, H⟩ | ⟨b12_, H⟩
  ·refine ls rfl rfl rfl (cb b12_) rfl <| ls rfl rfl rfl (cb b12_) rfl <| ls rfl rfl rfl (cb b12_) rfl <| lp rfl (qE (b := true) (v := (.bool true)) (cb b12_) rfl) ?_
   obtain rfl := si H
   exact nx ⟨(ku4 kz rfl), ⟨_, rfl, rfl⟩, er⟩
  ·refine lg rfl rfl rfl rfl (cb b12_) (xm v_a1 (K5 1 rfl)) ?_
   obtain ⟨c14, H⟩ := qa H
   obtain ⟨c15, H⟩ := qa H
   refine jf (tg rfl rfl rfl (cb b12_)) rfl (ltb rfl) rfl Tryz.call68 (jk.calls (w := w11) (a0 := a1) (GV.ext gv ((e2.t e7).t e12)) (Rd.ext f_a1 ((e2.t e7).t e12)) (od c14) (od c15)) rfl <| fun w16 e17 => lg rfl rfl rfl rfl (cb b12_) (jh rfl) <| lp rfl (qE (b := false) (v := (.bool (!(decide ((vn a1).2 = 0))))) (cb b12_) rfl) ?_
   obtain rfl := si H
   exact nx ⟨(ku4 kz rfl), ⟨_, rfl, rfl⟩, e17⟩
 intro s20 w16 z21 K17 hq h18 e19
 rw [hq] at h18; clear hq
 refine lp rfl (vh Tryz.underlying4 rfl h18) <| lp rfl (vh Tryz.underlying3 rfl rfl) <| jg (.plain rfl) rfl (ltb rfl) rfl Tryz.underlying142 Tryz.sizeOf20 Tryz.zeroValue20 rfl rfl rfl (vs := [(.iface 4 (.bool ((decide (4096 < a0.length)) || (decide (4096 < a1.length))))), (.iface 3 (.int .i64 2)), (.iface 4 (.bool z14)), (.iface 3 (.int .i64 1))]) (vu (K17 23 rfl) (vu (K17 24 rfl) (vu rfl (vu rfl rfl)))) (vM rfl) <| fun b22 w23 z24 z25 e26 k27 => ?_
 obtain ⟨c28, H⟩ := qa H
 obtain ⟨z31, x32, H⟩ := bind_some H
 replace x32 := si x32
 refine lc rfl rfl Tryz.call77 (yg.calls (w := w23) (a0 := ([.inl ((decide (4096 < a0.length)) || (decide (4096 < a1.length))), .inr 2, .inl z14, .inr 1] : List (Bool ⊕ Int))) (Ow.rd (Ow.new (xs := [.inl ((decide (4096 < a0.length)) || (decide (4096 < a1.length))), .inr 2, .inl z14, .inr 1]) (sz := 1) (enc := (Qw 4 3)) (base := w16.heap.size) k27 (Nat.le_of_eq z24) rfl (fun _ _ => by first | rfl | exact VL _ _ _) (Nat.le_of_ble_eq_true rfl))) (od c28)) rfl <| fun w29 e30 => lp rfl (xa (.int .i64 z31) (congrArg (Value.int .i64) x32)) <| nx <| wr <| lp rfl (xm (.int .i64 z31) rfl) <| lp rfl (jJ rfl rfl) <| nx ?_
 rcases qf H with ⟨q33, H⟩ | ⟨q33, H⟩
 ·refine qq (cb q33) <| wr <| lp rfl (xm (.int .i64 z31) rfl) <| lp rfl (xa (.slice none 0 0) rfl) <| lp rfl (xa (.int .i64 z31) rfl) <| nx <| qu <| qk <| qy ?_
  obtain rfl := si H
  exact Vd rfl rfl (((((e2.t e7).t e12).t e19).t e26).t e30) (Ow.zero (base := w.heap.size)) (Nat.le_refl _)
 ·refine qh (cb q33) <| qv <| qe <| wr <| lp rfl (xm v_a0 ((K17 0 rfl).trans (K5 0 rfl))) ?_
  obtain ⟨c34, H⟩ := qa H
  obtain ⟨c35, H⟩ := qa H
  refine vG (.plain rfl) rfl (ltb rfl) rfl Tryz.call73 (vl.calls (w := w29) (a0 := a0) (GV.ext gv (((((e2.t e7).t e12).t e19).t e26).t e30)) (Rd.ext f_a0 (((((e2.t e7).t e12).t e19).t e26).t e30)) (od c34) (od c35)) rfl <| fun v38 w36 e37 o39 => lp rfl (xm v_a1 ((K17 1 rfl).trans (K5 1 rfl))) ?_
  obtain ⟨c40, H⟩ := qa H
  obtain ⟨c41, H⟩ := qa H
  refine vG (.plain rfl) rfl (ltb rfl) rfl Tryz.call73 (vl.calls (w := w36) (a0 := a1) (GV.ext gv ((((((e2.t e7).t e12).t e19).t e26).t e30).t e37)) (Rd.ext f_a1 ((((((e2.t e7).t e12).t e19).t e26).t e30).t e37)) (od c40) (od c41)) rfl <| fun v44 w42 e43 o45 => lp rfl (xa v38 rfl) <| lp rfl (xa v44 rfl) <| nx <| qj <| wr <| lp rfl (xm v38 rfl) <| lp rfl (xm v44 rfl) <| jg (.plain rfl) rfl (ltb rfl) rfl Tryz.underlying23 Tryz.sizeOf35 Tryz.zeroValue35 rfl rfl rfl (vs := [v38, v44]) rfl (by simp; exact ⟨(Rd.one (Ow.rd (Ow.ext o39 e43))), (Rd.one (Ow.rd o45))⟩) <| fun b46 w47 z48 z49 e50 k51 => ?_
  obtain ⟨c52, H⟩ := qa H
  obtain ⟨c53, H⟩ := qa H
  obtain ⟨c54, H⟩ := qa H
  refine vG (.plain rfl) rfl (ltb rfl) rfl Tryz.call79 (qZ.calls (w := w47) (a0 := ([(qb a0), (qb a1)] : List (List Rec))) (GV.ext gv ((((((((e2.t e7).t e12).t e19).t e26).t e30).t e37).t e43).t e50)) (Rd2.new (vs := [v38, v44]) k51 ⟨(Ow.rd (Ow.ext o39 (e43.t e50))), (Ow.rd (Ow.ext o45 e50)), trivial⟩ (Nat.le_of_ble_eq_true rfl)) (od c52) (od c53) (od c54)) rfl <| fun v57 w55 e56 o58 => lp rfl (vf Tryz.underlying44 rfl (Ow.rd o58)) <| lp rfl (xm (.int .i64 0) rfl) <| nx ?_
  obtain ⟨z60, L61, C62⟩ := bind_some H
  clear H
  refine  vT (fun s0 sQ wQ => Kp [(4, 6), (10, 17), (49, 134)] s0 sQ ∧ Ext w55 wQ ∧ z60 = .inr ()) ?_ ?_
  ·refine qH <| vy (fun s0 kk sQ wQ => ∃ (x49_59 : Int), Kp [(4, 6), (10, 17), (49, 134)] s0 sQ ∧ sQ 49 = .int .i64 x49_59 ∧ Ext w55 wQ ∧ qr (qN.b1 k a0 a1) kk x49_59 = some z60) k ⟨0, kz, rfl, er, L61⟩ ?_
   rintro k67 s68 w69 ⟨x49_59, K70, h73, e71, L72⟩
   cases k67 with
   | zero => exact absurd L72 (by simp [qr])
   | succ k67 =>
    obtain ⟨t74, H, S75⟩ := qO L72
    clear L72
    unfold qN.b1 at H
    refine wr <| lp rfl (vI h73 (K70 48 rfl)) <| nx <| qj ?_
    rcases qf H with ⟨q76, H⟩ | ⟨q76, H⟩
    ·refine qq (cb q76) <| qv <| qe <| qj <| qH <| wr ?_
     obtain ⟨c77, H⟩ := qa H
     refine vF (.plain rfl) rfl (ltb rfl) rfl Tryz.underlying44 Tryz.sizeOf9 (K70 47 rfl) (Ow.rd (Ow.ext o58 e71)) h73 c77 <| fun p78 h79 => lp rfl (yW Tryz.isAgg9 rfl h79 rfl) <| lp rfl (qC rfl) <| nx <| wr <| lp rfl (jR (vs := []) (pl := #[(0, 1), (1, 1), (2, 1), (3, 1), (4, 1)]) Tryz.underlying52 Tryz.zeroValue52 rfl (fun _ => by kernel_rfl) rfl rfl rfl) <| lp rfl (jR (vs := []) (pl := #[(0, 1), (1, 1), (2, 1), (3, 1), (4, 1)]) Tryz.underlying52 Tryz.zeroValue52 rfl (fun _ => by kernel_rfl) rfl rfl rfl) <| j7 (.plain rfl) rfl (ltb rfl) rfl Tryz.zeroValue52 <| fun b80 w81 z82 z83 e84 k85 => j7 (.plain rfl) rfl (ltb rfl) rfl Tryz.zeroValue52 <| fun b86 w87 z88 z89 e90 k91 => yk (.plain rfl) rfl rfl Tryz.sizeOf52 rfl rfl rfl rfl rfl (Blk.ext k85 e90) <| fun w92 h93 k94 => yk (.plain rfl) rfl rfl Tryz.sizeOf52 rfl rfl rfl rfl rfl (Wr.blk h93 k91 (fun e9 => by have e8 : b86 = b80 := e9; clear e9; have h9 := Blk.lt k85; have h8 := z88; omega)) <| fun w95 h96 k97 => nx <| qj <| wr <| lp rfl (xm v38 (K70 7 rfl)) <| lp rfl (qg rfl) ?_
     obtain ⟨c98, H⟩ := qa H
     refine lc rfl rfl Tryz.call80 (ji.calls (w := w95) (a0 := (qb a0)) (a1 := gt (vC ([(qb a0), (qb a1)] : List (List Rec))) x49_59) (Ow.rd (Ow.ext o39 ((((e43.t e50).t e56).t e71).t (Below.trans (Below.trans (e84.t e90) (Wr.below h93 (Nat.le_of_eq z82))) (Wr.below h96 (Nat.le_trans e84.size (Nat.le_of_eq z88))))))) (od c98)) rfl <| fun w99 e100 => lp rfl (qC rfl) <| nx <| wr <| lp rfl (qg rfl) <| lp rfl (VZ rfl rfl) <| nx ?_
     obtain ⟨z101, L102, C103⟩ := bind_some H
     clear H
     refine vT (fun s0 sQ wQ => ∃ (y104 : Rec), Kp [(60, 64)] s0 sQ ∧ Blk wQ b80 (ql y104).toArray 52 ∧ Blk wQ b86 (ql (⟨0, ([] : List UInt8), ([] : List UInt8), 0, false⟩ : Rec)).toArray 52 ∧ Ext w69 wQ ∧ z101 = .inr y104) ?_ ?_
     ·have H := L102
      rcases qf H with ⟨q105, H⟩ | ⟨q105, H⟩
      ·refine qq (cb q105) <| qQ <| lp rfl (xm v38 (K70 7 rfl)) <| lp rfl (qg rfl) ?_
       obtain ⟨c106, H⟩ := qa H
       refine vF (.plain rfl) rfl (ltb rfl) rfl Tryz.underlying35 Tryz.sizeOf52 rfl (Ow.rd (Ow.ext o39 (((((e43.t e50).t e56).t e71).t (Below.trans (Below.trans (e84.t e90) (Wr.below h93 (Nat.le_of_eq z82))) (Wr.below h96 (Nat.le_trans e84.size (Nat.le_of_eq z88))))).t e100))) rfl c106 <| fun p107 h108 => lp rfl (vN Tryz.isAgg52 Tryz.sizeOf52 rfl rfl h108) <| yk (.plain rfl) rfl rfl Tryz.sizeOf52 rfl rfl rfl rfl rfl (Blk.ext (Wr.blk h96 k94 (fun e9 => by have e8 : b80 = b86 := e9; clear e9; have h9 := Blk.lt k85; have h8 := z88; omega)) e100) <| fun w109 h110 k111 => nx ?_
       obtain rfl := si H
       exact ⟨(gt (qb a0) (qJ (qb a0) (gt (vC ([(qb a0), (qb a1)] : List (List Rec))) x49_59))), (ku4 kz rfl), k111, (Wr.blk h110 (Blk.ext k97 e100) (fun e9 => by have e8 : b86 = b80 := e9; clear e9; have h9 := Blk.lt k85; have h8 := z88; omega)), (Below.trans (Ext.trans (Below.trans (Below.trans (e84.t e90) (Wr.below h93 (Nat.le_of_eq z82))) (Wr.below h96 (Nat.le_trans e84.size (Nat.le_of_eq z88)))) e100) (Wr.below h110 (Nat.le_of_eq z82))), rfl⟩
      ·refine qh (cb q105) <| qv <| qe ?_
       obtain rfl := si H
       exact ⟨(⟨0, ([] : List UInt8), ([] : List UInt8), 0, false⟩ : Rec), kz, (Blk.ext (Wr.blk h96 k94 (fun e9 => by have e8 : b80 = b86 := e9; clear e9; have h9 := Blk.lt k85; have h8 := z88; omega)) e100), (Blk.ext k97 e100), (Ext.trans (Below.trans (Below.trans (e84.t e90) (Wr.below h93 (Nat.le_of_eq z82))) (Wr.below h96 (Nat.le_trans e84.size (Nat.le_of_eq z88)))) e100), rfl⟩
     ·rintro s113 w112 ⟨y104, K114, h117, h118, e115, y116⟩
      rw [y116] at C103
      have H := C103
      refine qe <| qj <| wr <| lp rfl (xm v44 ((K114 8 rfl).trans (K70 8 rfl))) <| lp rfl (qg (K114 10 rfl)) ?_
      obtain ⟨c119, H⟩ := qa H
      refine lc rfl rfl Tryz.call80 (ji.calls (w := w112) (a0 := (qb a1)) (a1 := gt (vC ([(qb a0), (qb a1)] : List (List Rec))) x49_59) (Ow.rd (Ow.ext o45 (((e50.t e56).t e71).t e115))) (od c119)) rfl <| fun w120 e121 => lp rfl (qC rfl) <| nx <| wr <| lp rfl (qg rfl) <| lp rfl (VZ rfl rfl) <| nx ?_
      obtain ⟨z122, L123, C124⟩ := bind_some H
      clear H
      refine vT (fun s0 sQ wQ => ∃ (y125 : Rec), Kp [(69, 73)] s0 sQ ∧ Blk wQ b86 (ql y125).toArray 52 ∧ Blk wQ b80 (ql y104).toArray 52 ∧ Ext w69 wQ ∧ z122 = .inr y125) ?_ ?_
      ·have H := L123
       rcases qf H with ⟨q126, H⟩ | ⟨q126, H⟩
       ·refine qq (cb q126) <| qQ <| lp rfl (xm v44 ((K114 8 rfl).trans (K70 8 rfl))) <| lp rfl (qg rfl) ?_
        obtain ⟨c127, H⟩ := qa H
        refine vF (.plain rfl) rfl (ltb rfl) rfl Tryz.underlying35 Tryz.sizeOf52 rfl (Ow.rd (Ow.ext o45 ((((e50.t e56).t e71).t e115).t e121))) rfl c127 <| fun p128 h129 => lp rfl (vN Tryz.isAgg52 Tryz.sizeOf52 rfl rfl h129) <| yk (.plain rfl) rfl rfl Tryz.sizeOf52 (K114 12 rfl) rfl rfl rfl rfl (Blk.ext h118 e121) <| fun w130 h131 k132 => nx ?_
        obtain rfl := si H
        exact ⟨(gt (qb a1) (qJ (qb a1) (gt (vC ([(qb a0), (qb a1)] : List (List Rec))) x49_59))), (ku4 kz rfl), k132, (Wr.blk h131 (Blk.ext h117 e121) (fun e9 => by have e8 : b80 = b86 := e9; clear e9; have h9 := Blk.lt k85; have h8 := z88; omega)), (Below.trans (e115.t e121) (Wr.below h131 (Nat.le_trans e84.size (Nat.le_of_eq z88)))), rfl⟩
       ·refine qh (cb q126) <| qv <| qe ?_
        obtain rfl := si H
        exact ⟨(⟨0, ([] : List UInt8), ([] : List UInt8), 0, false⟩ : Rec), kz, (Blk.ext h118 e121), (Blk.ext h117 e121), (e115.t e121), rfl⟩
      ·rintro s134 w133 ⟨y125, K135, h138, h139, e136, y137⟩
       rw [y137] at C124
       have H := C124
       refine qe <| qj <| qH <| wr <| lp rfl (vN Tryz.isAgg52 Tryz.sizeOf52 rfl ((K135 11 rfl).trans (K114 11 rfl)) (Blk.at0 h139)) <| lp rfl (vN Tryz.isAgg52 Tryz.sizeOf52 rfl ((K135 12 rfl).trans (K114 12 rfl)) (Blk.at0 h138)) <| lp rfl (X_eqA Eqg.t52 (Eqs.t52 y104 y125) rfl rfl) <| lp rfl (xa (.bool (decide (y104 = y125))) rfl) <| nx ?_
       rcases qf H with ⟨q140, H⟩ | ⟨q140, H⟩
       ·refine qq (cb q140) <| vY <| blk_y rfl <| vg <| yM <| qe <| qQ <| lp rfl (vE ((K135 49 rfl).trans ((K114 49 rfl).trans h73)) rfl) <| lp rfl (xm (.int .i64 (IntKind.wrap .i64 (x49_59 + 1))) rfl) <| nx ?_
        obtain rfl := si H
        exact ⟨_, Nat.lt_succ_self _, IntKind.wrap .i64 (x49_59 + 1), (ku2 (ku4 (Kp.cut (ku2 (ku4 (Kp.cut (ku2 (ku4 (ku8 K70 rfl) rfl) rfl) K114 rfl) rfl) rfl) K135 rfl) rfl) rfl), rfl, (e71.t e136), S75⟩
       ·refine qh (cb q140) <| wr <| lp rfl (qc Tryz.underlying52 rfl Tryz.sizeOf3 rfl ((K135 11 rfl).trans (K114 11 rfl))) <| lp rfl (qA Tryz.isAgg3 h139 rfl rfl) <| lp rfl (yp rfl rfl) <| lp rfl (xm (.bool (decide (y104.kind = 4))) rfl) <| yR 4 [(82, 86)] 85 (.bool ((decide (y104.kind = 4)) && (decide (y125.kind = 0)))) ?_ ?_
        ·rcases qw (decide (y104.kind = 4)) with b140_ | b140_
         ·exact lg rfl rfl rfl rfl (cb b140_) (qc Tryz.underlying52 rfl Tryz.sizeOf3 rfl ((K135 12 rfl).trans (K114 12 rfl))) <| lg rfl rfl rfl rfl (cb b140_) (qA Tryz.isAgg3 h138 rfl rfl) <| lg rfl rfl rfl rfl (cb b140_) (yp rfl rfl) <| lp rfl (qE (b := true) (v := (.bool (decide (y125.kind = 0)))) (cb b140_) rfl) <| nx ⟨(ku4 kz rfl), (Qg b140_), er⟩
         ·exact ls rfl rfl rfl (cb b140_) rfl <| ls rfl rfl rfl (cb b140_) rfl <| ls rfl rfl rfl (cb b140_) rfl <| lp rfl (qE (b := false) (v := (.bool false)) (cb b140_) rfl) <| nx ⟨(ku4 kz rfl), (Qd b140_), er⟩
        intro s146 w142 K143 h144 e145
        refine lp rfl (qg h144) <| yR 9 [(87, 96)] 95 (.bool (((decide (y104.kind = 4)) && (decide (y125.kind = 0))) || ((decide (y104.kind = 0)) && (decide (y125.kind = 4))))) ?_ ?_
        ·rcases qw ((decide (y104.kind = 4)) && (decide (y125.kind = 0))) with b146_ | b146_
         ·exact ls rfl rfl rfl (cb b146_) rfl <| ls rfl rfl rfl (cb b146_) rfl <| ls rfl rfl rfl (cb b146_) rfl <| ls rfl rfl rfl (cb b146_) rfl <| lu rfl rfl rfl rfl rfl <| lu rfl rfl rfl rfl rfl <| lu rfl rfl rfl rfl rfl <| ls rfl rfl rfl (cb b146_) rfl <| lp rfl (qE (b := true) (v := (.bool true)) (cb b146_) rfl) <| nx ⟨(ku1 (ku8 kz rfl) rfl), (Jn b146_), er⟩
         ·refine lg rfl rfl rfl rfl (cb b146_) (qc Tryz.underlying52 rfl Tryz.sizeOf3 rfl ((K143 11 rfl).trans ((K135 11 rfl).trans (K114 11 rfl)))) <| lg rfl rfl rfl rfl (cb b146_) (qA Tryz.isAgg3 (Blk.ext h139 e145) rfl rfl) <| lg rfl rfl rfl rfl (cb b146_) (yp rfl rfl) <| lg rfl rfl rfl rfl (cb b146_) (xm (.bool (decide (y104.kind = 0))) rfl) <| yR 4 [(91, 95)] 94 (.bool ((decide (y104.kind = 0)) && (decide (y125.kind = 4)))) ?_ ?_
          ·rcases qw (decide (y104.kind = 0)) with b147_ | b147_
           ·exact lg rfl rfl rfl rfl (cb b147_) (qc Tryz.underlying52 rfl Tryz.sizeOf3 rfl ((K143 12 rfl).trans ((K135 12 rfl).trans (K114 12 rfl)))) <| lg rfl rfl rfl rfl (cb b147_) (qA Tryz.isAgg3 (Blk.ext h138 e145) rfl rfl) <| lg rfl rfl rfl rfl (cb b147_) (yp rfl rfl) <| lg rfl rfl rfl rfl (cb b146_) (qE (b := true) (v := (.bool (decide (y125.kind = 4)))) (cb b147_) rfl) <| nx ⟨(ku4 kz rfl), (Qg b147_), er⟩
           ·exact ls rfl rfl rfl (cb b147_) rfl <| ls rfl rfl rfl (cb b147_) rfl <| ls rfl rfl rfl (cb b147_) rfl <| lg rfl rfl rfl rfl (cb b146_) (qE (b := false) (v := (.bool false)) (cb b147_) rfl) <| nx ⟨(ku4 kz rfl), (Qd b147_), er⟩
          intro s153 w149 K150 h151 e152
          exact lp rfl (qE (b := false) (v := (.bool ((decide (y104.kind = 0)) && (decide (y125.kind = 4))))) ((K150 86 rfl).trans (cb b146_)) h151) <| nx ⟨(ku1 (Kp.cut (ku4 kz rfl) K150 rfl) rfl), (Y4 b146_), e152⟩
        intro s154 w148 K149 h150 e151
        refine lp rfl (qC h150) <| nx ?_
        rcases qf H with ⟨q155, H⟩ | ⟨q155, H⟩
        ·refine qq (cb q155) <| wr <| lp rfl (qg ((K149 10 rfl).trans ((K143 10 rfl).trans ((K135 10 rfl).trans (K114 10 rfl))))) ?_
         obtain ⟨c156, H⟩ := qa H
         refine vG (.plain rfl) rfl (ltb rfl) rfl Tryz.call81 (JH.calls (w := w148) (a0 := gt (vC ([(qb a0), (qb a1)] : List (List Rec))) x49_59) (od c156)) rfl <| fun v159 w157 e158 o160 => lp rfl (xa v159 rfl) <| lp rfl (xa (.int .i64 0) rfl) <| nx <| qu <| qU <| qk <| qU <| qk <| qk <| qU <| qk <| qk <| qy ?_
         obtain rfl := si H
         obtain rfl := si S75
         have H := C62
         obtain rfl := si H
         exact Vd rfl rfl ((((((((((((((e2.t e7).t e12).t e19).t e26).t e30).t e37).t e43).t e50).t e56).t e71).t e136).t e145).t e151).t e158) o160 ((((((((((((((e2.t e7).t e12).t e19).t e26).t e30).t e37).t e43).t e50).t e56).t e71).t e136).t e145).t e151)).size
        ·refine qh (cb q155) <| wr <| lp rfl (qc Tryz.underlying52 rfl Tryz.sizeOf3 rfl ((K149 11 rfl).trans ((K143 11 rfl).trans ((K135 11 rfl).trans (K114 11 rfl))))) <| lp rfl (qA Tryz.isAgg3 (Blk.ext h139 (e145.t e151)) rfl rfl) <| lp rfl (yp rfl rfl) <| lp rfl (xm (.bool (decide (y104.kind = 3))) rfl) <| yR 4 [(103, 107)] 106 (.bool ((decide (y104.kind = 3)) && (decide (y125.kind = 3)))) ?_ ?_
         ·rcases qw (decide (y104.kind = 3)) with b160_ | b160_
          ·exact lg rfl rfl rfl rfl (cb b160_) (qc Tryz.underlying52 rfl Tryz.sizeOf3 rfl ((K149 12 rfl).trans ((K143 12 rfl).trans ((K135 12 rfl).trans (K114 12 rfl))))) <| lg rfl rfl rfl rfl (cb b160_) (qA Tryz.isAgg3 (Blk.ext h138 (e145.t e151)) rfl rfl) <| lg rfl rfl rfl rfl (cb b160_) (yp rfl rfl) <| lp rfl (qE (b := true) (v := (.bool (decide (y125.kind = 3)))) (cb b160_) rfl) <| nx ⟨(ku4 kz rfl), (Qg b160_), er⟩
          ·exact ls rfl rfl rfl (cb b160_) rfl <| ls rfl rfl rfl (cb b160_) rfl <| ls rfl rfl rfl (cb b160_) rfl <| lp rfl (qE (b := false) (v := (.bool false)) (cb b160_) rfl) <| nx ⟨(ku4 kz rfl), (Qd b160_), er⟩
         intro s166 w162 K163 h164 e165
         refine lp rfl (qg h164) <| yR 6 [(108, 114)] 113 (.bool (((decide (y104.kind = 3)) && (decide (y125.kind = 3))) && (decide (y104.mode = y125.mode)))) ?_ ?_
         ·rcases qw ((decide (y104.kind = 3)) && (decide (y125.kind = 3))) with b166_ | b166_
          ·exact lg rfl rfl rfl rfl (cb b166_) (qc Tryz.underlying52 rfl Tryz.sizeOf3 rfl ((K163 11 rfl).trans ((K149 11 rfl).trans ((K143 11 rfl).trans ((K135 11 rfl).trans (K114 11 rfl)))))) <| lg rfl rfl rfl rfl (cb b166_) (qA Tryz.isAgg3 (Blk.ext h139 ((e145.t e151).t e165)) rfl rfl) <| lg rfl rfl rfl rfl (cb b166_) (qc Tryz.underlying52 rfl Tryz.sizeOf3 rfl ((K163 12 rfl).trans ((K149 12 rfl).trans ((K143 12 rfl).trans ((K135 12 rfl).trans (K114 12 rfl)))))) <| lg rfl rfl rfl rfl (cb b166_) (qA Tryz.isAgg3 (Blk.ext h138 ((e145.t e151).t e165)) rfl rfl) <| lg rfl rfl rfl rfl (cb b166_) (yp rfl rfl) <| lp rfl (qE (b := true) (v := (.bool (decide (y104.mode = y125.mode)))) (cb b166_) rfl) <| nx ⟨(ku2 (ku4 kz rfl) rfl), (Qg b166_), er⟩
          ·exact ls rfl rfl rfl (cb b166_) rfl <| ls rfl rfl rfl (cb b166_) rfl <| ls rfl rfl rfl (cb b166_) rfl <| ls rfl rfl rfl (cb b166_) rfl <| ls rfl rfl rfl (cb b166_) rfl <| lp rfl (qE (b := false) (v := (.bool false)) (cb b166_) rfl) <| nx ⟨(ku2 (ku4 kz rfl) rfl), (Qd b166_), er⟩
         intro s172 w168 K169 h170 e171
         refine lp rfl (qC h170) <| nx ?_
         rcases qf H with ⟨q173, H⟩ | ⟨q173, H⟩
         ·refine qq (cb q173) <| wr <| lp rfl (xa (.int .i64 0) rfl) <| nx ?_
          obtain ⟨z175, L176, C177⟩ := bind_some H
          clear H
          refine  vT (fun s0 sQ wQ => Kp [(4, 6), (15, 17), (114, 133)] s0 sQ ∧ Ext w168 wQ ∧ z175 = .inr ()) ?_ ?_
          ·refine qH <| vy (fun s0 kk sQ wQ => ∃ (x15_174 : Int), Kp [(4, 6), (15, 17), (114, 133)] s0 sQ ∧ sQ 15 = .int .i64 x15_174 ∧ Ext w168 wQ ∧ qr (qN.b2 a0 a1 x49_59) kk x15_174 = some z175) k ⟨0, kz, rfl, er, L176⟩ ?_
           rintro k182 s183 w184 ⟨x15_174, K185, h188, e186, L187⟩
           cases k182 with
           | zero => exact absurd L187 (by simp [qr])
           | succ k182 =>
            obtain ⟨t189, H, S190⟩ := qO L187
            clear L187
            unfold qN.b2 at H
            refine qj <| qH <| wr <| lp rfl (qg ((K185 10 rfl).trans ((K169 10 rfl).trans ((K163 10 rfl).trans ((K149 10 rfl).trans ((K143 10 rfl).trans ((K135 10 rfl).trans (K114 10 rfl)))))))) <| lp rfl (qg h188) ?_
            obtain ⟨c191, H⟩ := qa H
            obtain ⟨c192, H⟩ := qa H
            refine lc rfl rfl Tryz.call83 (Xw.calls (w := w184) (a0 := x15_174) (od c191) (od c192)) rfl <| fun w193 e194 => ?_
            obtain ⟨c195, H⟩ := qa H
            refine lp rfl (VX rfl rfl (od c195)) ?_
            obtain ⟨c196, H⟩ := qa H
            obtain ⟨c197, H⟩ := qa H
            obtain ⟨z200, x201, H⟩ := bind_some H
            replace x201 := si x201
            refine lc rfl rfl Tryz.call82 (Qx.calls (w := w193) (a0 := gt (vC ([(qb a0), (qb a1)] : List (List Rec))) x49_59) (a1 := ([122] : List UInt8) ++ (yQ x15_174.toNat)) (od c196) (od c197)) rfl <| fun w198 e199 => lp rfl (xa (S z200) (congrArg S x201)) <| nx <| wr <| lp rfl (xm v38 ((K185 7 rfl).trans ((K169 7 rfl).trans ((K163 7 rfl).trans ((K149 7 rfl).trans ((K143 7 rfl).trans ((K135 7 rfl).trans ((K114 7 rfl).trans (K70 7 rfl))))))))) <| lp rfl (xm (S z200) rfl) ?_
            obtain ⟨c202, H⟩ := qa H
            refine lc rfl rfl Tryz.call80 (ji.calls (w := w198) (a0 := (qb a0)) (a1 := z200) (Ow.rd (Ow.ext o39 (((((((((((e43.t e50).t e56).t e71).t e136).t e145).t e151).t e165).t e171).t e186).t e194).t e199))) (od c202)) rfl <| fun w203 e204 => lp rfl (vI rfl rfl) <| lp rfl (xm (.bool (decide ((qJ (qb a0) z200) < 0))) rfl) ?_
            obtain ⟨z206, x207, H⟩ := bind_some H
            refine Ql 5 [(126, 131)] 130 (fun q => q = z206) ?_ ?_
            ·rcases qf x207 with ⟨b204_, H⟩ | ⟨b204_, H⟩
             ·refine lg rfl rfl rfl rfl (cb b204_) (xm v44 ((K185 8 rfl).trans ((K169 8 rfl).trans ((K163 8 rfl).trans ((K149 8 rfl).trans ((K143 8 rfl).trans ((K135 8 rfl).trans ((K114 8 rfl).trans (K70 8 rfl))))))))) <| lg rfl rfl rfl rfl (cb b204_) (xm (S z200) rfl) ?_
              obtain ⟨c206, H⟩ := qa H
              refine jf (tg rfl rfl rfl (cb b204_)) rfl (ltb rfl) rfl Tryz.call80 (ji.calls (w := w203) (a0 := (qb a1)) (a1 := z200) (Ow.rd (Ow.ext o45 (((((((((((e50.t e56).t e71).t e136).t e145).t e151).t e165).t e171).t e186).t e194).t e199).t e204))) (od c206)) rfl <| fun w207 e208 => lg rfl rfl rfl rfl (cb b204_) (vI rfl rfl) <| lp rfl (qE (b := true) (v := (.bool (decide ((qJ (qb a1) z200) < 0)))) (cb b204_) rfl) ?_
              obtain rfl := si H
              exact nx ⟨(ku1 (ku4 kz rfl) rfl), ⟨_, rfl, rfl⟩, e208⟩
             ·refine ls rfl rfl rfl (cb b204_) rfl <| ls rfl rfl rfl (cb b204_) rfl <| ls rfl rfl rfl (cb b204_) rfl <| ls rfl rfl rfl (cb b204_) rfl <| lp rfl (qE (b := false) (v := (.bool false)) (cb b204_) rfl) ?_
              obtain rfl := si H
              exact nx ⟨(ku1 (ku4 kz rfl) rfl), ⟨_, rfl, rfl⟩, er⟩
            intro s212 w208 z213 K209 hq h210 e211
            rw [hq] at h210; clear hq
            refine nx ?_
            rcases qf H with ⟨q214, H⟩ | ⟨q214, H⟩
            ·refine qq (h210.trans (cb q214)) <| wr <| lp rfl (xm (S z200) (K209 16 rfl)) ?_
             obtain ⟨c215, H⟩ := qa H
             refine vG (.plain rfl) rfl (ltb rfl) rfl Tryz.call81 (JH.calls (w := w208) (a0 := z200) (od c215)) rfl <| fun v218 w216 e217 o219 => lp rfl (xa v218 rfl) <| lp rfl (xa (.int .i64 0) rfl) <| nx <| qu <| qU <| qk <| qk <| qU <| qk <| qU <| qk <| qU <| qk <| qk <| qU <| qk <| qk <| qy ?_
             obtain rfl := si H
             obtain rfl := si S190
             have H := C177
             obtain rfl := si H
             obtain rfl := si S75
             have H := C62
             obtain rfl := si H
             exact Vd rfl rfl (((((((((((((((((((((e2.t e7).t e12).t e19).t e26).t e30).t e37).t e43).t e50).t e56).t e71).t e136).t e145).t e151).t e165).t e171).t e186).t e194).t e199).t e204).t e211).t e217) o219 (((((((((((((((((((((e2.t e7).t e12).t e19).t e26).t e30).t e37).t e43).t e50).t e56).t e71).t e136).t e145).t e151).t e165).t e171).t e186).t e194).t e199).t e204).t e211)).size
            ·refine qh (h210.trans (cb q214)) <| qv <| yq <| qe <| qQ <| lp rfl (xm (.int .i64 x15_174) ((K209 15 rfl).trans h188)) <| lp rfl (vE rfl rfl) <| lp rfl (xa (.int .i64 (IntKind.wrap .i64 (x15_174 + 1))) rfl) <| nx ?_
             obtain rfl := si H
             exact ⟨_, Nat.lt_succ_self _, IntKind.wrap .i64 (x15_174 + 1), (ku3 (Kp.cut (ku3 (ku8 K185 rfl) rfl) K209 rfl) rfl), rfl, ((((e186.t e194).t e199).t e204).t e211), S190⟩
          ·rintro s179 w178 ⟨K180, e181, y220⟩
           rw [y220] at C177
           have H := C177
           replace H : _ = some _ := H
           refine yq <| qe <| wr <| lp rfl (xa (.slice none 0 0) rfl) <| lp rfl (xa (.int .i64 0) rfl) <| nx <| qu <| qU <| qk <| qk <| qU <| qk <| qk <| qy ?_
           obtain rfl := si H
           obtain rfl := si S75
           have H := C62
           obtain rfl := si H
           exact Vd rfl rfl ((((((((((((((((e2.t e7).t e12).t e19).t e26).t e30).t e37).t e43).t e50).t e56).t e71).t e136).t e145).t e151).t e165).t e171).t e181) (Ow.zero (base := w.heap.size)) (Nat.le_refl _)
         ·refine qh (cb q173) <| qv <| yq <| qe <| wr <| lp rfl (xa (.slice none 0 0) rfl) <| lp rfl (xa (.int .i64 0) rfl) <| nx <| qu <| qU <| qk <| qk <| qU <| qk <| qk <| qy ?_
          obtain rfl := si H
          obtain rfl := si S75
          have H := C62
          obtain rfl := si H
          exact Vd rfl rfl (((((((((((((((e2.t e7).t e12).t e19).t e26).t e30).t e37).t e43).t e50).t e56).t e71).t e136).t e145).t e151).t e165).t e171) (Ow.zero (base := w.heap.size)) (Nat.le_refl _)
    ·refine qh (cb q76) <| vY <| vg <| vg <| yM <| qe ?_
     obtain rfl := si H
     obtain rfl := si S75
     exact ⟨(ku1 K70 rfl), e71, rfl⟩
  ·rintro s64 w63 ⟨K65, e66, y221⟩
   rw [y221] at C62
   have H := C62
   replace H : _ = some _ := H
   refine qe <| wr <| lp rfl (xa (.slice none 0 0) rfl) <| lp rfl (xa (.int .i64 18) rfl) <| nx <| qu <| qy ?_
   obtain rfl := si H
   exact Vd rfl rfl ((((((((((e2.t e7).t e12).t e19).t e26).t e30).t e37).t e43).t e50).t e56).t e66) (Ow.zero (base := w.heap.size)) (Nat.le_refl _)
theorem qN.calls {w : World} {a0 : List Rec} {a1 : List Rec} (gv : GV 0 w) {v_a0 : Value} (f_a0 : Rd 5 ql w v_a0 a0) {v_a1 : Value} (f_a1 : Rd 5 ql w v_a1 a1) (h0 : a0.length ≤ 1048576) (h1 : a1.length ≤ 1048576) (h2 : ∀ x ∈ a0, x.path.length ≤ 1048576) (h3 : ∀ x ∈ a1, x.path.length ≤ 1048576) :
  Calls Tryz.prog 22 #[v_a0, v_a1] w (Rt (RT 91 4 yv w ((qt a0 a1).1) (.int .i64 ((qt a0 a1).2)))) := by
 obtain ⟨k, h⟩ := qN.eq a0 a1 h0 h1 h2 h3
 exact qN.walk gv f_a0 f_a1 h
/-! laws.FnExactWitness -/
theorem law_Witness.walk {w : World} {a0 : List Rec} {a1 : List Rec} (gv : GV 0 w) {v_a0 : Value} (f_a0 : Rd 5 ql w v_a0 a0) {v_a1 : Value} (f_a1 : Rd 5 ql w v_a1 a1) {r : Bool} (H : law_Witness.sh a0 a1 = some r) :
  Calls Tryz.prog 8 #[v_a0, v_a1] w (Rt (RP w (.bool r))) := by
 unfold law_Witness.sh at H
 refine qp Tryz.func8 rfl (Nat.le_of_ble_eq_true rfl) Tryz.ntmps8 rfl ?_
 refine wr <| lp rfl (xa (.bool false) rfl) <| nx <| wr <| lp rfl (xa (.int .i64 1048576) rfl) <| nx <| wr <| lp rfl (xm v_a0 rfl) <| lp rfl (xm (.int .i64 1048576) rfl) ?_
 obtain ⟨c1, H⟩ := qa H
 obtain ⟨c2, H⟩ := qa H
 obtain ⟨c3, H⟩ := qa H
 obtain ⟨c4, H⟩ := qa H
 refine lc rfl rfl Tryz.call53 (vm.calls (w := w) (a0 := a0) (a1 := 1048576) f_a0 (od c1) (od c2) (od c3) (od c4)) rfl <| fun w5 e6 => lp rfl (xa (.int .i64 (yG a0 1048576)) rfl) <| nx <| qj <| wr <| lp rfl (xm (.int .i64 (yG a0 1048576)) rfl) <| lp rfl (vI rfl rfl) <| nx ?_
 rcases qf H with ⟨q7, H⟩ | ⟨q7, H⟩
 ·refine qq (cb q7) <| wr <| lp rfl (xa (.bool true) rfl) <| nx <| qu <| qk <| qy ?_
  obtain rfl := si H
  exact qT rfl e6
 ·refine qh (cb q7) <| qv <| qe <| wr <| lp rfl (xm v_a1 rfl) <| lp rfl (xm (.int .i64 (yG a0 1048576)) rfl) ?_
  obtain ⟨c8, H⟩ := qa H
  obtain ⟨c9, H⟩ := qa H
  obtain ⟨c10, H⟩ := qa H
  obtain ⟨c11, H⟩ := qa H
  refine lc rfl rfl Tryz.call53 (vm.calls (w := w5) (a0 := a1) (a1 := (yG a0 1048576)) (Rd.ext f_a1 e6) (od c8) (od c9) (od c10) (od c11)) rfl <| fun w12 e13 => lp rfl (xa (.int .i64 (yG a1 (yG a0 1048576))) rfl) <| nx <| qj <| wr <| lp rfl (xm (.int .i64 (yG a1 (yG a0 1048576))) rfl) <| lp rfl (vI rfl rfl) <| nx ?_
  rcases qf H with ⟨q14, H⟩ | ⟨q14, H⟩
  ·refine qq (cb q14) <| wr <| lp rfl (xa (.bool true) rfl) <| nx <| qu <| qk <| qy ?_
   obtain rfl := si H
   exact qT rfl (e6.t e13)
  ·refine qh (cb q14) <| qv <| qe <| wr <| lp rfl (xm v_a0 rfl) ?_
   obtain ⟨c15, H⟩ := qa H
   refine vG (.plain rfl) rfl (ltb rfl) rfl Tryz.call54 (qM.calls (w := w12) (a0 := a0) (Rd.ext f_a0 (e6.t e13)) (od c15)) rfl <| fun v18 w16 e17 o19 => lp rfl (xm v_a1 rfl) ?_
   obtain ⟨c20, H⟩ := qa H
   refine vG (.plain rfl) rfl (ltb rfl) rfl Tryz.call54 (qM.calls (w := w16) (a0 := a1) (Rd.ext f_a1 ((e6.t e13).t e17)) (od c20)) rfl <| fun v23 w21 e22 o24 => ?_
   obtain ⟨c25, H⟩ := qa H
   obtain ⟨c26, H⟩ := qa H
   obtain ⟨c27, H⟩ := qa H
   obtain ⟨c28, H⟩ := qa H
   refine JY (.plain rfl) rfl (ltb rfl) rfl Tryz.call23 (yP.calls (w := w21) (a0 := a0) (a1 := a1) (Ow.rd (Ow.ext o19 e22)) (Ow.rd o24) (od c25) (od c26) (od c27) (od c28)) rfl <| fun v31 w29 e30 o32 => lp rfl (xm (.tuple #[v31, (.int .i64 ((qt a0 a1).2))]) rfl) <| lp rfl (vR (v := v31) rfl rfl) <| lp rfl (vR (v := (.int .i64 ((qt a0 a1).2))) rfl rfl) <| lp rfl (xa v31 rfl) <| lp rfl (xa (.int .i64 ((qt a0 a1).2)) rfl) <| nx <| wr <| lp rfl (xm v_a0 rfl) ?_
   obtain ⟨c33, H⟩ := qa H
   refine vG (.plain rfl) rfl (ltb rfl) rfl Tryz.call54 (qM.calls (w := w29) (a0 := a0) (Rd.ext f_a0 ((((e6.t e13).t e17).t e22).t e30)) (od c33)) rfl <| fun v36 w34 e35 o37 => lp rfl (xa v36 rfl) <| nx <| wr <| lp rfl (xm v_a1 rfl) ?_
   obtain ⟨c38, H⟩ := qa H
   refine vG (.plain rfl) rfl (ltb rfl) rfl Tryz.call54 (qM.calls (w := w34) (a0 := a1) (Rd.ext f_a1 (((((e6.t e13).t e17).t e22).t e30).t e35)) (od c38)) rfl <| fun v41 w39 e40 o42 => lp rfl (xa v41 rfl) <| nx <| wr <| lp rfl (xm v36 rfl) <| lp rfl (xm v41 rfl) ?_
   obtain ⟨c43, H⟩ := qa H
   obtain ⟨c44, H⟩ := qa H
   obtain ⟨c45, H⟩ := qa H
   obtain ⟨c46, H⟩ := qa H
   refine JY (.plain rfl) rfl (ltb rfl) rfl Tryz.call22 (qN.calls (w := w39) (a0 := a0) (a1 := a1) (GV.ext gv ((((((e6.t e13).t e17).t e22).t e30).t e35).t e40)) (Ow.rd (Ow.ext o37 e40)) (Ow.rd o42) (od c43) (od c44) (od c45) (od c46)) rfl <| fun v49 w47 e48 o50 => lp rfl (xm (.tuple #[v49, (.int .i64 ((qt a0 a1).2))]) rfl) <| lp rfl (vR (v := v49) rfl rfl) <| lp rfl (vR (v := (.int .i64 ((qt a0 a1).2))) rfl rfl) <| lp rfl (xa v49 rfl) <| lp rfl (xa (.int .i64 ((qt a0 a1).2)) rfl) <| nx <| qj <| wr <| lp rfl (xm v49 rfl) <| lp rfl (xm v31 rfl) ?_
   obtain ⟨c51, H⟩ := qa H
   refine lc rfl rfl Tryz.call44 (vH.calls (w := w47) (a0 := (qt a0 a1).1) (a1 := (qt a0 a1).1) (Ow.rd o50) (Ow.rd (Ow.ext o32 ((e35.t e40).t e48))) (od c51)) rfl <| fun w52 e53 => lp rfl (jh rfl) <| lp rfl (xm (.bool (!(decide (((qt a0 a1).1) = ((qt a0 a1).1))))) rfl) <| yR 4 [(50, 54)] 53 (.bool ((!(decide (((qt a0 a1).1) = ((qt a0 a1).1)))) || (!decide (((qt a0 a1).2) = ((qt a0 a1).2))))) ?_ ?_
   ·rcases qw (!(decide (((qt a0 a1).1) = ((qt a0 a1).1)))) with b53_ | b53_
    ·exact ls rfl rfl rfl (cb b53_) rfl <| ls rfl rfl rfl (cb b53_) rfl <| ls rfl rfl rfl (cb b53_) rfl <| lp rfl (qE (b := true) (v := (.bool true)) (cb b53_) rfl) <| nx ⟨(ku4 kz rfl), (Jn b53_), er⟩
    ·exact lg rfl rfl rfl rfl (cb b53_) (xm (.int .i64 ((qt a0 a1).2)) rfl) <| lg rfl rfl rfl rfl (cb b53_) (xm (.int .i64 ((qt a0 a1).2)) rfl) <| lg rfl rfl rfl rfl (cb b53_) (jJ rfl rfl) <| lp rfl (qE (b := false) (v := (.bool (!decide (((qt a0 a1).2) = ((qt a0 a1).2))))) (cb b53_) rfl) <| nx ⟨(ku4 kz rfl), (Y4 b53_), er⟩
   intro s59 w55 K56 h57 e58
   refine nx ?_
   rcases qf H with ⟨q60, H⟩ | ⟨q60, H⟩
   ·refine qq (h57.trans (cb q60)) <| wr <| lp rfl (xa (.bool false) rfl) <| nx <| qu <| qk <| qy ?_
    obtain rfl := si H
    exact qT rfl (((((((((e6.t e13).t e17).t e22).t e30).t e35).t e40).t e48).t e53).t e58)
   ·refine qh (h57.trans (cb q60)) <| qv <| qe <| qj <| wr <| lp rfl (xm v36 (K56 8 rfl)) <| lp rfl (xm v_a0 (K56 0 rfl)) ?_
    obtain ⟨c61, H⟩ := qa H
    refine vG (.plain rfl) rfl (ltb rfl) rfl Tryz.call54 (qM.calls (w := w55) (a0 := a0) (Rd.ext f_a0 (((((((((e6.t e13).t e17).t e22).t e30).t e35).t e40).t e48).t e53).t e58)) (od c61)) rfl <| fun v64 w62 e63 o65 => ?_
    obtain ⟨c66, H⟩ := qa H
    refine lc rfl rfl Tryz.call43 (vj.calls (w := w62) (a0 := a0) (a1 := a0) (Ow.rd (Ow.ext o37 ((((e40.t e48).t e53).t e58).t e63))) (Ow.rd o65) (od c66)) rfl <| fun w67 e68 => lp rfl (jh rfl) <| nx ?_
    rcases qf H with ⟨q69, H⟩ | ⟨q69, H⟩
    ·refine qq (cb q69) <| wr <| lp rfl (xa (.bool false) rfl) <| nx <| qu <| qk <| qy ?_
     obtain rfl := si H
     exact qT rfl (((((((((((e6.t e13).t e17).t e22).t e30).t e35).t e40).t e48).t e53).t e58).t e63).t e68)
    ·refine qh (cb q69) <| qv <| qe <| qj <| wr <| lp rfl (xm v41 (K56 9 rfl)) <| lp rfl (xm v_a1 (K56 1 rfl)) ?_
     obtain ⟨c70, H⟩ := qa H
     refine vG (.plain rfl) rfl (ltb rfl) rfl Tryz.call54 (qM.calls (w := w67) (a0 := a1) (Rd.ext f_a1 (((((((((((e6.t e13).t e17).t e22).t e30).t e35).t e40).t e48).t e53).t e58).t e63).t e68)) (od c70)) rfl <| fun v73 w71 e72 o74 => ?_
     obtain ⟨c75, H⟩ := qa H
     refine lc rfl rfl Tryz.call43 (vj.calls (w := w71) (a0 := a1) (a1 := a1) (Ow.rd (Ow.ext o42 (((((e48.t e53).t e58).t e63).t e68).t e72))) (Ow.rd o74) (od c75)) rfl <| fun w76 e77 => lp rfl (jh rfl) <| nx ?_
     rcases qf H with ⟨q78, H⟩ | ⟨q78, H⟩
     ·refine qq (cb q78) <| wr <| lp rfl (xa (.bool false) rfl) <| nx <| qu <| qk <| qy ?_
      obtain rfl := si H
      exact qT rfl (((((((((((((e6.t e13).t e17).t e22).t e30).t e35).t e40).t e48).t e53).t e58).t e63).t e68).t e72).t e77)
     ·refine qh (cb q78) <| qv <| qe <| wr <| lp rfl (xa (.int .i64 1) rfl) <| nx <| wr <| lp rfl (xm v36 (K56 8 rfl)) <| lp rfl (xm (.int .i64 1) rfl) ?_
      obtain ⟨c79, H⟩ := qa H
      obtain ⟨c80, H⟩ := qa H
      obtain ⟨c81, H⟩ := qa H
      refine XB (.plain rfl) rfl (ltb rfl) rfl Tryz.call46 (qx.calls (w := w76) (a0 := a0) (a1 := 1) (Ow.ext o37 (((((((e40.t e48).t e53).t e58).t e63).t e68).t e72).t e77)) (Ow.hb o37) (od c79) (od c80) (od c81)) rfl <| fun w82 e83 o84 => lp rfl (xa (.int .i64 (1 + 5 * (a0.length : Int))) rfl) <| nx <| wr <| lp rfl (xm v41 (K56 9 rfl)) <| lp rfl (xm (.int .i64 (1 + 5 * (a0.length : Int))) rfl) ?_
      obtain ⟨c85, H⟩ := qa H
      obtain ⟨c86, H⟩ := qa H
      obtain ⟨c87, H⟩ := qa H
      refine XB (.plain rfl) rfl (ltb rfl) rfl Tryz.call46 (qx.calls (w := w82) (a0 := a1) (a1 := (1 + 5 * (a0.length : Int))) (Ow.later (Ow.ext o42 ((((((e48.t e53).t e58).t e63).t e68).t e72).t e77)) e83 er.size) (Ow.hb o42) (od c85) (od c86) (od c87)) rfl <| fun w88 e89 o90 => lp rfl (xa (.int .i64 ((1 + 5 * (a0.length : Int)) + 5 * (a1.length : Int))) rfl) <| nx <| qj <| wr <| lp rfl (xm (.int .i64 ((1 + 5 * (a0.length : Int)) + 5 * (a1.length : Int))) rfl) <| lp rfl (vI rfl rfl) <| lp rfl (qg rfl) ?_
      obtain ⟨z92, x93, H⟩ := bind_some H
      refine Ql 5 [(73, 78)] 77 (fun q => q = z92) ?_ ?_
      ·rcases qf x93 with ⟨b90_, H⟩ | ⟨b90_, H⟩
       ·refine ls rfl rfl rfl (cb b90_) rfl <| ls rfl rfl rfl (cb b90_) rfl <| ls rfl rfl rfl (cb b90_) rfl <| ls rfl rfl rfl (cb b90_) rfl <| lp rfl (qE (b := true) (v := (.bool true)) (cb b90_) rfl) ?_
        obtain rfl := si H
        exact nx ⟨(ku1 (ku4 kz rfl) rfl), ⟨_, rfl, rfl⟩, er⟩
       ·refine lg rfl rfl rfl rfl (cb b90_) (xm v49 (K56 10 rfl)) <| lg rfl rfl rfl rfl (cb b90_) (xm v31 (K56 6 rfl)) ?_
        obtain ⟨c92, H⟩ := qa H
        refine jf (tg rfl rfl rfl (cb b90_)) rfl (ltb rfl) rfl Tryz.call44 (vH.calls (w := w88) (a0 := (qt a0 a1).1) (a1 := (qt a0 a1).1) (Ow.rd (Ow.later (Ow.later (Ow.ext o50 (((((e53.t e58).t e63).t e68).t e72).t e77)) e83 e40.size) e89 er.size)) (Ow.rd (Ow.ext o32 (Ext.gr (Ext.gr ((((((((e35.t e40).t e48).t e53).t e58).t e63).t e68).t e72).t e77) e83 er.size) e89 e35.size))) (od c92)) rfl <| fun w93 e94 => lg rfl rfl rfl rfl (cb b90_) (jh rfl) <| lp rfl (qE (b := false) (v := (.bool (!(decide (((qt a0 a1).1) = ((qt a0 a1).1)))))) (cb b90_) rfl) ?_
        obtain rfl := si H
        exact nx ⟨(ku1 (ku4 kz rfl) rfl), ⟨_, rfl, rfl⟩, e94⟩
      intro s98 w94 z99 K95 hq h96 e97
      rw [hq] at h96; clear hq
      refine lp rfl (qg h96) <| yR 4 [(79, 83)] 82 (.bool (z92 || (!decide (((qt a0 a1).2) = ((qt a0 a1).2))))) ?_ ?_
      ·rcases qw z92 with b99_ | b99_
       ·exact ls rfl rfl rfl (cb b99_) rfl <| ls rfl rfl rfl (cb b99_) rfl <| ls rfl rfl rfl (cb b99_) rfl <| lp rfl (qE (b := true) (v := (.bool true)) (cb b99_) rfl) <| nx ⟨(ku4 kz rfl), (Jn b99_), er⟩
       ·exact lg rfl rfl rfl rfl (cb b99_) (xm (.int .i64 ((qt a0 a1).2)) ((K95 11 rfl).trans (K56 11 rfl))) <| lg rfl rfl rfl rfl (cb b99_) (xm (.int .i64 ((qt a0 a1).2)) ((K95 7 rfl).trans (K56 7 rfl))) <| lg rfl rfl rfl rfl (cb b99_) (jJ rfl rfl) <| lp rfl (qE (b := false) (v := (.bool (!decide (((qt a0 a1).2) = ((qt a0 a1).2))))) (cb b99_) rfl) <| nx ⟨(ku4 kz rfl), (Y4 b99_), er⟩
      intro s105 w101 K102 h103 e104
      refine nx ?_
      rcases qf H with ⟨q106, H⟩ | ⟨q106, H⟩
      ·refine qq (h103.trans (cb q106)) <| wr <| lp rfl (xa (.bool false) rfl) <| nx <| qu <| qk <| qy ?_
       obtain rfl := si H
       exact qT rfl (((((((e6.t e13).t e17).t e22).t e30).t (Ext.gr (Ext.gr ((((((((e35.t e40).t e48).t e53).t e58).t e63).t e68).t e72).t e77) e83 er.size) e89 e35.size)).t e97).t e104)
      ·refine qh (h103.trans (cb q106)) <| qv <| qe <| wr <| lp rfl (xa (.int .i64 1) rfl) <| nx <| wr <| lp rfl (xm v49 ((K102 10 rfl).trans ((K95 10 rfl).trans (K56 10 rfl)))) <| lp rfl (xm (.int .i64 1) rfl) ?_
       obtain ⟨c107, H⟩ := qa H
       obtain ⟨c108, H⟩ := qa H
       obtain ⟨c109, H⟩ := qa H
       refine XB (.plain rfl) rfl (ltb rfl) rfl Tryz.call45 (qI.calls (w := w101) (a0 := (qt a0 a1).1) (a1 := 1) (Ow.ext (Ow.later (Ow.later (Ow.ext o50 (((((e53.t e58).t e63).t e68).t e72).t e77)) e83 e40.size) e89 er.size) (e97.t e104)) (Ow.hb o50) (od c107) (od c108) (od c109)) rfl <| fun w110 e111 o112 => lp rfl (xa (.int .i64 (1 + 4 * (((qt a0 a1).1).length : Int))) rfl) <| nx <| wr <| lp rfl (xa (.int .i64 1) rfl) <| nx <| wr <| lp rfl (xm v49 ((K102 10 rfl).trans ((K95 10 rfl).trans (K56 10 rfl)))) <| lp rfl (xm (.int .i64 1) rfl) ?_
       obtain ⟨c113, H⟩ := qa H
       obtain ⟨c114, H⟩ := qa H
       obtain ⟨c115, H⟩ := qa H
       refine lc rfl rfl Tryz.call55 (qK.calls (w := w110) (a0 := (y5 ((qt a0 a1).1).length 1)) (a1 := 1) (Ow.rd o112) (od c113) (od c114) (od c115)) rfl <| fun w116 e117 => lp rfl (xa (.int .i64 (Ve (y5 ((qt a0 a1).1).length 1) 1)) rfl) <| nx <| qj <| wr <| lp rfl (xm (.int .i64 (Ve (y5 ((qt a0 a1).1).length 1) 1)) rfl) <| lp rfl (vI rfl rfl) <| nx ?_
       rcases qf H with ⟨q118, H⟩ | ⟨q118, H⟩
       ·refine qq (cb q118) <| wr <| lp rfl (xa (.bool false) rfl) <| nx <| qu <| qk <| qy ?_
        obtain rfl := si H
        exact qT rfl ((((((e6.t e13).t e17).t e22).t e30).t (Ext.gr (Ext.trans (Ext.trans (Ext.gr (Ext.gr ((((((((e35.t e40).t e48).t e53).t e58).t e63).t e68).t e72).t e77) e83 er.size) e89 e35.size) e97) e104) e111 (e35.t e40).size)).t e117)
       ·refine qh (cb q118) <| qv <| qe <| qj <| wr <| lp rfl (xm (.int .i64 (Ve (y5 ((qt a0 a1).1).length 1) 1)) rfl) <| lp rfl (xm (.int .i64 (1 + 4 * (((qt a0 a1).1).length : Int))) rfl) <| lp rfl (jJ rfl rfl) <| nx ?_
        rcases qf H with ⟨q119, H⟩ | ⟨q119, H⟩
        ·refine qq (cb q119) <| wr <| lp rfl (xa (.bool false) rfl) <| nx <| qu <| qk <| qy ?_
         obtain rfl := si H
         exact qT rfl ((((((e6.t e13).t e17).t e22).t e30).t (Ext.gr (Ext.trans (Ext.trans (Ext.gr (Ext.gr ((((((((e35.t e40).t e48).t e53).t e58).t e63).t e68).t e72).t e77) e83 er.size) e89 e35.size) e97) e104) e111 (e35.t e40).size)).t e117)
        ·refine qh (cb q119) <| qv <| qe <| wr <| lp rfl (xm v_a0 ((K102 0 rfl).trans ((K95 0 rfl).trans (K56 0 rfl)))) ?_
         obtain ⟨c120, H⟩ := qa H
         refine vG (.plain rfl) rfl (ltb rfl) rfl Tryz.call54 (qM.calls (w := w116) (a0 := a0) (Rd.ext f_a0 ((((((e6.t e13).t e17).t e22).t e30).t (Ext.gr (Ext.trans (Ext.trans (Ext.gr (Ext.gr ((((((((e35.t e40).t e48).t e53).t e58).t e63).t e68).t e72).t e77) e83 er.size) e89 e35.size) e97) e104) e111 (e35.t e40).size)).t e117)) (od c120)) rfl <| fun v123 w121 e122 o124 => lp rfl (xm v_a1 ((K102 1 rfl).trans ((K95 1 rfl).trans (K56 1 rfl)))) ?_
         obtain ⟨c125, H⟩ := qa H
         refine vG (.plain rfl) rfl (ltb rfl) rfl Tryz.call54 (qM.calls (w := w121) (a0 := a1) (Rd.ext f_a1 (((((((e6.t e13).t e17).t e22).t e30).t (Ext.gr (Ext.trans (Ext.trans (Ext.gr (Ext.gr ((((((((e35.t e40).t e48).t e53).t e58).t e63).t e68).t e72).t e77) e83 er.size) e89 e35.size) e97) e104) e111 (e35.t e40).size)).t e117).t e122)) (od c125)) rfl <| fun v128 w126 e127 o129 => ?_
         obtain ⟨c130, H⟩ := qa H
         obtain ⟨c131, H⟩ := qa H
         obtain ⟨c132, H⟩ := qa H
         obtain ⟨c133, H⟩ := qa H
         refine JY (.plain rfl) rfl (ltb rfl) rfl Tryz.call22 (qN.calls (w := w126) (a0 := a0) (a1 := a1) (GV.ext gv ((((((((e6.t e13).t e17).t e22).t e30).t (Ext.gr (Ext.trans (Ext.trans (Ext.gr (Ext.gr ((((((((e35.t e40).t e48).t e53).t e58).t e63).t e68).t e72).t e77) e83 er.size) e89 e35.size) e97) e104) e111 (e35.t e40).size)).t e117).t e122).t e127)) (Ow.rd (Ow.ext o124 e127)) (Ow.rd o129) (od c130) (od c131) (od c132) (od c133)) rfl <| fun v136 w134 e135 o137 => lp rfl (xm (.tuple #[v136, (.int .i64 ((qt a0 a1).2))]) rfl) <| lp rfl (vR (v := v136) rfl rfl) <| lp rfl (vR (v := (.int .i64 ((qt a0 a1).2))) rfl rfl) <| lp rfl (xa v136 rfl) <| lp rfl (xa (.int .i64 ((qt a0 a1).2)) rfl) <| nx <| qj <| wr <| lp rfl (xm v136 rfl) <| lp rfl (xm v31 ((K102 6 rfl).trans ((K95 6 rfl).trans (K56 6 rfl)))) ?_
         obtain ⟨c138, H⟩ := qa H
         refine lc rfl rfl Tryz.call44 (vH.calls (w := w134) (a0 := (qt a0 a1).1) (a1 := (qt a0 a1).1) (Ow.rd o137) (Ow.rd (Ow.ext o32 (Ext.trans (Ext.trans (Ext.trans (Ext.trans (Ext.gr (Ext.trans (Ext.trans (Ext.gr (Ext.gr ((((((((e35.t e40).t e48).t e53).t e58).t e63).t e68).t e72).t e77) e83 er.size) e89 e35.size) e97) e104) e111 (e35.t e40).size) e117) e122) e127) e135))) (od c138)) rfl <| fun w139 e140 => lp rfl (jh rfl) <| lp rfl (xm (.bool (!(decide (((qt a0 a1).1) = ((qt a0 a1).1))))) rfl) <| yR 4 [(107, 111)] 110 (.bool ((!(decide (((qt a0 a1).1) = ((qt a0 a1).1)))) || (!decide (((qt a0 a1).2) = ((qt a0 a1).2))))) ?_ ?_
         ·rcases qw (!(decide (((qt a0 a1).1) = ((qt a0 a1).1)))) with b140_ | b140_
          ·exact ls rfl rfl rfl (cb b140_) rfl <| ls rfl rfl rfl (cb b140_) rfl <| ls rfl rfl rfl (cb b140_) rfl <| lp rfl (qE (b := true) (v := (.bool true)) (cb b140_) rfl) <| nx ⟨(ku4 kz rfl), (Jn b140_), er⟩
          ·exact lg rfl rfl rfl rfl (cb b140_) (xm (.int .i64 ((qt a0 a1).2)) rfl) <| lg rfl rfl rfl rfl (cb b140_) (xm (.int .i64 ((qt a0 a1).2)) ((K102 7 rfl).trans ((K95 7 rfl).trans (K56 7 rfl)))) <| lg rfl rfl rfl rfl (cb b140_) (jJ rfl rfl) <| lp rfl (qE (b := false) (v := (.bool (!decide (((qt a0 a1).2) = ((qt a0 a1).2))))) (cb b140_) rfl) <| nx ⟨(ku4 kz rfl), (Y4 b140_), er⟩
         intro s146 w142 K143 h144 e145
         refine nx ?_
         rcases qf H with ⟨q147, H⟩ | ⟨q147, H⟩
         ·refine qq (h144.trans (cb q147)) <| wr <| lp rfl (xa (.bool false) rfl) <| nx <| qu <| qk <| qy ?_
          obtain rfl := si H
          exact qT rfl (((((((((((e6.t e13).t e17).t e22).t e30).t (Ext.gr (Ext.trans (Ext.trans (Ext.gr (Ext.gr ((((((((e35.t e40).t e48).t e53).t e58).t e63).t e68).t e72).t e77) e83 er.size) e89 e35.size) e97) e104) e111 (e35.t e40).size)).t e117).t e122).t e127).t e135).t e140).t e145)
         ·refine qh (h144.trans (cb q147)) <| qv <| qe <| wr <| lp rfl (xa (.int .i64 1) rfl) <| nx <| wr <| lp rfl (xm v49 ((K143 10 rfl).trans ((K102 10 rfl).trans ((K95 10 rfl).trans (K56 10 rfl))))) <| lp rfl (xm (.int .i64 1) rfl) ?_
          obtain ⟨c148, H⟩ := qa H
          obtain ⟨c149, H⟩ := qa H
          obtain ⟨c150, H⟩ := qa H
          refine lc rfl rfl Tryz.call55 (qK.calls (w := w142) (a0 := (y5 ((qt a0 a1).1).length 1)) (a1 := 1) (Ow.rd (Ow.ext o112 (((((e117.t e122).t e127).t e135).t e140).t e145))) (od c148) (od c149) (od c150)) rfl <| fun w151 e152 => lp rfl (xa (.int .i64 (Ve (y5 ((qt a0 a1).1).length 1) 1)) rfl) <| nx <| qj <| wr <| lp rfl (xm (.int .i64 (Ve (y5 ((qt a0 a1).1).length 1) 1)) rfl) <| lp rfl (vI rfl rfl) <| nx ?_
          rcases qf H with ⟨q153, H⟩ | ⟨q153, H⟩
          ·refine qq (cb q153) <| wr <| lp rfl (xa (.bool false) rfl) <| nx <| qu <| qk <| qy ?_
           obtain rfl := si H
           exact qT rfl ((((((((((((e6.t e13).t e17).t e22).t e30).t (Ext.gr (Ext.trans (Ext.trans (Ext.gr (Ext.gr ((((((((e35.t e40).t e48).t e53).t e58).t e63).t e68).t e72).t e77) e83 er.size) e89 e35.size) e97) e104) e111 (e35.t e40).size)).t e117).t e122).t e127).t e135).t e140).t e145).t e152)
          ·refine qh (cb q153) <| qv <| qe <| qj <| wr <| lp rfl (xm (.int .i64 (Ve (y5 ((qt a0 a1).1).length 1) 1)) rfl) <| lp rfl (xm (.int .i64 (1 + 4 * (((qt a0 a1).1).length : Int))) (K143 13 rfl)) <| lp rfl (jJ rfl rfl) <| nx ?_
           rcases qf H with ⟨q154, H⟩ | ⟨q154, H⟩
           ·refine qq (cb q154) <| wr <| lp rfl (xa (.bool false) rfl) <| nx <| qu <| qk <| qy ?_
            obtain rfl := si H
            exact qT rfl ((((((((((((e6.t e13).t e17).t e22).t e30).t (Ext.gr (Ext.trans (Ext.trans (Ext.gr (Ext.gr ((((((((e35.t e40).t e48).t e53).t e58).t e63).t e68).t e72).t e77) e83 er.size) e89 e35.size) e97) e104) e111 (e35.t e40).size)).t e117).t e122).t e127).t e135).t e140).t e145).t e152)
           ·refine qh (cb q154) <| qv <| qe <| wr <| lp rfl (xa (.bool true) rfl) <| nx <| qu <| qy ?_
            obtain rfl := si H
            exact qT rfl ((((((((((((e6.t e13).t e17).t e22).t e30).t (Ext.gr (Ext.trans (Ext.trans (Ext.gr (Ext.gr ((((((((e35.t e40).t e48).t e53).t e58).t e63).t e68).t e72).t e77) e83 er.size) e89 e35.size) e97) e104) e111 (e35.t e40).size)).t e117).t e122).t e127).t e135).t e140).t e145).t e152)
theorem law_Witness.calls {w : World} {a0 : List Rec} {a1 : List Rec} (gv : GV 0 w) {v_a0 : Value} (f_a0 : Rd 5 ql w v_a0 a0) {v_a1 : Value} (f_a1 : Rd 5 ql w v_a1 a1) (h0 : ∀ x ∈ a0, VW x) (h1 : a0.length ≤ 9223372036854775807) (h2 : ∀ x ∈ a1, VW x) (h3 : a1.length ≤ 9223372036854775807) :
  Calls Tryz.prog 8 #[v_a0, v_a1] w (Rt (RP w (.bool true))) := law_Witness.walk gv f_a0 f_a1 (law_Witness.eq a0 a1 h0 h1 h2 h3)
end Go.Proofs.YtdhmlillkbjjjaaGreatDoor
