/- The row: the law's walk joined to its row, and its card. -/
import Derived.Test.YtdhmlillkbjjjaaGreatDoorpLB
set_option linter.unusedVariables false
namespace Go.Proofs.YtdhmlillkbjjjaaGreatDoor
open Go.ChangeShapes Go.WideShapes Go.ChangeAt Go.RowKit Go.UL
set_option maxRecDepth 100000
theorem Vg (os : Os) (started : os.Started) (H : Type) (enc : TypeId × Value → H) :
    ReturnsInHanded {} Tryz.checked os 7 .any (fun w args => (Rows.fnExactReplacedSpec.pre enc Tryz.prog Tryz.f7 Rows.fnExactReplacedRow.domain false w args ∧ laidMetH Tryz.prog Rows.fnExactReplacedRow.laid w) ∧ sizedMet enc Tryz.prog Tryz.f7 (OpenSpec.ofChange Rows.fnExactReplacedSpec) false w args) (Rows.fnExactReplacedSpec.post enc Tryz.prog Tryz.f7 false true false false) := by
  refine Xm (C := Tryz.checked) (X := fun w _ => laidMetH Tryz.prog Rows.fnExactReplacedRow.laid w) own started (by kernel_rfl) Tryz.func7
    (ChangeSpec.witness_shaped (enc := enc) (C := Tryz.checked) (os := os) (X := fun w _ => laidMetH Tryz.prog Rows.fnExactReplacedRow.laid w) false (World.laidAll Tryz.prog os Rows.fnExactReplacedRow.laid) #[.slice none 0 0, .int .i64 0, .int .i64 0] 8 (World.laidAll_os _ _ _)
      (World.shaped_of_ZipB (by kernel_rfl) (by kernel_rfl)) (by kernel_rfl) (by kernel_rfl) (by kernel_rfl) (by rw [MakeChecks.laidMetH_plain _ _ _ (by kernel_rfl)]; exact laidMet_laidAll _ (by kernel_rfl) (by kernel_rfl))) ?_
  intro W base args ds gs before hval0 hW hsh
  have hval : ∀ (j : Nat) t v, Tryz.f7.params[j]? = some t → args[j]? = some v → Value.okWide Tryz.prog W .any base t v := hval0
  have hW' := hW
  obtain ⟨p, q, hA0, hV, rfl, hfz, hnd⟩ := hW
  have hA : DataW.TrodAll enc Tryz.prog W 0 (fun _ => true) true Tryz.f7.params.toList args.toList ds p := hA0
  rw [Tryz.params7] at hA hval
  obtain ⟨v0, v1, v2, d0, d1, d2, p0, p1, p2, rfl, rfl, rfl, h0, h1, h2⟩ := trodAll_three hA
  obtain ⟨rfl, rfl⟩ := trodVars_none hV
  obtain ⟨x0, f0, ok0⟩ := open_sl2 (e2 := 76) (cells_rec (ti := 3) (ts := 9) (tb := 4) Tryz.underlying125 (by kernel_rfl) (by kernel_rfl) (by kernel_rfl) (by kernel_rfl) (by kernel_rfl) (by kernel_rfl) (by kernel_rfl) (by kernel_rfl)) (by kernel_rfl) (by kernel_rfl) (by kernel_rfl) (by kernel_rfl) (hval 0 _ v0 rfl rfl) h0
  obtain ⟨x1, rfl, -, -, wx1⟩ := open_int (k := .i64) (by kernel_rfl) (hval 1 _ v1 rfl rfl) h1
  obtain ⟨x2, rfl, -, -, wx2⟩ := open_int (k := .i64) (by kernel_rfl) (hval 2 _ v2 rfl rfl) h2
  refine (law_Replaced.calls (w := W) (a0 := x0) (a1 := x1) (a2 := x2) (gv_of hsh) f0 ok0 (by obtain ⟨_, h, ⟨_, _, _, ⟨_, _, h9⟩, _⟩, _⟩ := f0; rw [← h]; exact h9) (Rd2.lens f0)).mono fun e W' ⟨v, he, hb, hv⟩ => ?_
  subst he; subst hv
  exact ⟨_, rfl, law_post laidOut (by kernel_rfl) (by kernel_rfl) rfl hW' (tb := 4) (by kernel_rfl) (by kernel_rfl) hb⟩
theorem V1 : Rows.fnExactReplacedRow.wf (OpenSpec.ofChange Rows.fnExactReplacedSpec) = true := by kernel_rfl
theorem V3 : (Tryz.f7.params.all (Tryz.pinned.checked.prog.readableRec ·) && namedTie Tryz.pinned.checked.prog Rows.fnExactReplacedRow.named Rows.fnExactReplacedSpec.vars && (Rows.fnExactReplacedRow.stops == []) && (Tryz.pinned.checked.prog.stops == []) && (Rows.fnExactReplacedRow.knobs == []) && (Tryz.pinned.checked.prog.stopKnobs == [])) = true := by kernel_rfl
theorem V5 : (Rows.fnExactReplacedRow.inPlace == Tryz.pinned.checked.prog.inPlace 7) = true := by kernel_rfl
theorem VX : (Rows.fnExactReplacedRow.unfollowed == Tryz.pinned.checked.prog.unfollowed 7) = true := by kernel_rfl
theorem V0 : (Rows.fnExactReplacedRow.recurses == Tryz.pinned.checked.prog.recurses 7) = true := by kernel_rfl
theorem V2 : (Rows.fnExactReplacedRow.named == Tryz.pinned.checked.prog.varsNamed 7) = true := by kernel_rfl
theorem Vl : joinedFacts Tryz.pinned.checked.prog 7 Tryz.f7 Rows.fnExactReplacedSpec Rows.fnExactReplacedRow = true := X7 V1 pf_laid pf_maps V3 V5 VX V0 V2 (by kernel_rfl) pf_keys (by kernel_rfl) pf_heard pf_enter pf_lifts (by kernel_rfl)
theorem VF : Rows.fnExactReplacedRow.holds Tryz.pinned (OpenSpec.ofChange Rows.fnExactReplacedSpec) :=
  OpenClaim.holds_of_wide 7 Tryz.f7 rfl rfl rfl rfl rfl rfl rfl ⟨rfl, rfl, rfl, rfl, rfl⟩ rfl rfl rfl rfl rfl (by kernel_rfl) Tryz.func7 Vl
    (of_decide_eq_true (by kernel_rfl)) (by unfold Func.isWrapper; first | (rw [if_pos (by decide +kernel)]; kernel_rfl) | (rw [if_neg (by decide +kernel)]; exact ⟨rfl, rfl⟩))
    (fun os started H enc _ => Vg os started H enc)
theorem proved_FnExactReplaced : Rows.FnExactReplacedCardSaid :=
  Claim7.holds_tied_plain_at .later [] [.data, .pinned] true (true, "3601aad46b42dac770809079dbbf8894a73d820e7ed4caf05ebf9f5f3b16504e") true VF (fun _ h => by cases h) (by kernel_rfl) (fun _ h => by cases h) fnExactReplaced_row_tie rfl ⟨rfl, rfl⟩ pf_main rfl
    (fun f fn hf hfn => by
      obtain rfl : f = 7 := Option.some.inj ((show Tryz.prog.funcNamed "loop.example/g00798/laws.FnExactReplaced" = some 7 by kernel_rfl).symm.trans hf) |>.symm
      obtain rfl : fn = Tryz.f7 := (Option.some.inj (Tryz.func7.symm.trans hfn)).symm
      exact ⟨pf_looks, fun j t ht => by
        have hm : t ∈ Tryz.f7.params.toList := by simpa using Array.mem_of_getElem? ht
        have hall : (Tryz.f7.params.toList.all fun u => !Tryz.prog.wantsStandIn u) = true := by kernel_rfl
        exact (show Tryz.prog.wantsStandIn t = false by simpa using List.all_eq_true.1 hall t hm)⟩)
    (G3 pf_nogo rfl)
end Go.Proofs.YtdhmlillkbjjjaaGreatDoor
