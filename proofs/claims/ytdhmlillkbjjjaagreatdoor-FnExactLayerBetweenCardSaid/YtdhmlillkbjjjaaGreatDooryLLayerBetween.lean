/- The row: the law's walk joined to its row, and its card. -/
import Derived.Test.YtdhmlillkbjjjaaGreatDooryLB
set_option linter.unusedVariables false
namespace Go.Proofs.YtdhmlillkbjjjaaGreatDoor
open Go.ChangeShapes Go.WideShapes Go.ChangeAt Go.RowKit Go.UL
set_option maxRecDepth 100000
theorem Qm (os : Os) (started : os.Started) (H : Type) (enc : TypeId × Value → H) :
    ReturnsInHanded {} Tryz.checked os 6 .any (fun w args => (Rows.fnExactLayerBetweenSpec.pre enc Tryz.prog Tryz.f6 Rows.fnExactLayerBetweenRow.domain false w args ∧ laidMetH Tryz.prog Rows.fnExactLayerBetweenRow.laid w) ∧ sizedMet enc Tryz.prog Tryz.f6 (OpenSpec.ofChange Rows.fnExactLayerBetweenSpec) false w args) (Rows.fnExactLayerBetweenSpec.post enc Tryz.prog Tryz.f6 false true false false) := by
  refine GZ (C := Tryz.checked) (X := fun w _ => laidMetH Tryz.prog Rows.fnExactLayerBetweenRow.laid w) own started (by kernel_rfl) Tryz.func6
    (ChangeSpec.witness_shaped (enc := enc) (C := Tryz.checked) (os := os) (X := fun w _ => laidMetH Tryz.prog Rows.fnExactLayerBetweenRow.laid w) false (World.laidAll Tryz.prog os Rows.fnExactLayerBetweenRow.laid) #[.slice none 0 0, .slice none 0 0] 8 (World.laidAll_os _ _ _)
      (World.shaped_of_ZipB (by kernel_rfl) (by kernel_rfl)) (by kernel_rfl) (by kernel_rfl) (by kernel_rfl) (by rw [MakeChecks.laidMetH_plain _ _ _ (by kernel_rfl)]; exact laidMet_laidAll _ (by kernel_rfl) (by kernel_rfl))) ?_
  intro W base args ds gs before hval0 hW hsh
  have hval : ∀ (j : Nat) t v, Tryz.f6.params[j]? = some t → args[j]? = some v → Value.okWide Tryz.prog W .any base t v := hval0
  have hW' := hW
  obtain ⟨p, q, hA0, hV, rfl, hfz, hnd⟩ := hW
  have hA : DataW.TrodAll enc Tryz.prog W 0 (fun _ => true) true Tryz.f6.params.toList args.toList ds p := hA0
  rw [Tryz.params6] at hA hval
  obtain ⟨v0, v1, d0, d1, p0, p1, rfl, rfl, rfl, h0, h1⟩ := trodAll_two hA
  obtain ⟨rfl, rfl⟩ := trodVars_none hV
  obtain ⟨x0, f0, ok0⟩ := XJ (Gs (ti := 3) (ts := 9) Tryz.underlying118 (by kernel_rfl) (by kernel_rfl) (by kernel_rfl) (by kernel_rfl) (by kernel_rfl) (by kernel_rfl)) (by kernel_rfl) (by kernel_rfl) (hval 0 _ v0 rfl rfl) h0
  obtain ⟨x1, f1, ok1⟩ := XJ (Gs (ti := 3) (ts := 9) Tryz.underlying118 (by kernel_rfl) (by kernel_rfl) (by kernel_rfl) (by kernel_rfl) (by kernel_rfl) (by kernel_rfl)) (by kernel_rfl) (by kernel_rfl) (hval 1 _ v1 rfl rfl) h1
  refine (law_LayerBetween.calls (w := W) (a0 := x0) (a1 := x1) (gv_of hsh) f0 f1 ok0 (by obtain ⟨_, _, _, ⟨_, _, h9⟩, _⟩ := f0; exact h9) ok1 (by obtain ⟨_, _, _, ⟨_, _, h9⟩, _⟩ := f1; exact h9)).mono fun e W' ⟨v, he, hb, hv⟩ => ?_
  subst he; subst hv
  exact ⟨_, rfl, law_post laidOut (by kernel_rfl) (by kernel_rfl) rfl hW' (tb := 4) (by kernel_rfl) (by kernel_rfl) hb⟩
theorem QO : Rows.fnExactLayerBetweenRow.wf (OpenSpec.ofChange Rows.fnExactLayerBetweenSpec) = true := by kernel_rfl
theorem QI : (Tryz.f6.params.all (Tryz.pinned.checked.prog.readableRec ·) && namedTie Tryz.pinned.checked.prog Rows.fnExactLayerBetweenRow.named Rows.fnExactLayerBetweenSpec.vars && (Rows.fnExactLayerBetweenRow.stops == []) && (Tryz.pinned.checked.prog.stops == []) && (Rows.fnExactLayerBetweenRow.knobs == []) && (Tryz.pinned.checked.prog.stopKnobs == [])) = true := by kernel_rfl
theorem QG : (Rows.fnExactLayerBetweenRow.inPlace == Tryz.pinned.checked.prog.inPlace 6) = true := by kernel_rfl
theorem QK : (Rows.fnExactLayerBetweenRow.unfollowed == Tryz.pinned.checked.prog.unfollowed 6) = true := by kernel_rfl
theorem QH : (Rows.fnExactLayerBetweenRow.recurses == Tryz.pinned.checked.prog.recurses 6) = true := by kernel_rfl
theorem QL : (Rows.fnExactLayerBetweenRow.named == Tryz.pinned.checked.prog.varsNamed 6) = true := by kernel_rfl
theorem Ql : joinedFacts Tryz.pinned.checked.prog 6 Tryz.f6 Rows.fnExactLayerBetweenSpec Rows.fnExactLayerBetweenRow = true := joined_of QO pf_laid pf_maps QI QG QK QH QL (by kernel_rfl) pf_keys (by kernel_rfl) pf_heard pf_enter pf_lifts (by kernel_rfl)
theorem QA : Rows.fnExactLayerBetweenRow.holds Tryz.pinned (OpenSpec.ofChange Rows.fnExactLayerBetweenSpec) :=
  OpenClaim.holds_of_wide 6 Tryz.f6 rfl rfl rfl rfl rfl rfl rfl ⟨rfl, rfl, rfl, rfl, rfl⟩ rfl rfl rfl rfl rfl (by kernel_rfl) Tryz.func6 Ql
    (of_decide_eq_true (by kernel_rfl)) (by unfold Func.isWrapper; first | (rw [if_pos (by decide +kernel)]; kernel_rfl) | (rw [if_neg (by decide +kernel)]; exact ⟨rfl, rfl⟩))
    (fun os started H enc _ => Qm os started H enc)
theorem proved_FnExactLayerBetween : Rows.FnExactLayerBetweenCardSaid :=
  Claim7.holds_tied_plain_at .later [] [.data, .pinned] true (true, "3601aad46b42dac770809079dbbf8894a73d820e7ed4caf05ebf9f5f3b16504e") true QA (fun _ h => by cases h) (by kernel_rfl) (fun _ h => by cases h) fnExactLayerBetween_row_tie rfl ⟨rfl, rfl⟩ pf_main rfl
    (fun f fn hf hfn => by
      obtain rfl : f = 6 := Option.some.inj ((show Tryz.prog.funcNamed "loop.example/g00798/laws.FnExactLayerBetween" = some 6 by kernel_rfl).symm.trans hf) |>.symm
      obtain rfl : fn = Tryz.f6 := (Option.some.inj (Tryz.func6.symm.trans hfn)).symm
      exact ⟨pf_looks, fun j t ht => by
        have hm : t ∈ Tryz.f6.params.toList := by simpa using Array.mem_of_getElem? ht
        have hall : (Tryz.f6.params.toList.all fun u => !Tryz.prog.wantsStandIn u) = true := by kernel_rfl
        exact (show Tryz.prog.wantsStandIn t = false by simpa using List.all_eq_true.1 hall t hm)⟩)
    (G1 pf_nogo rfl)
end Go.Proofs.YtdhmlillkbjjjaaGreatDoor
