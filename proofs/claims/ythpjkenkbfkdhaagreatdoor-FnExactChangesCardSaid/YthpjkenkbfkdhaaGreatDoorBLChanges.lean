/- The row: the law's walk joined to its row, and its card. -/
import Derived.Test.YthpjkenkbfkdhaaGreatDoorBLB
set_option linter.unusedVariables false
namespace Go.Proofs.YthpjkenkbfkdhaaGreatDoor
open Go.ChangeShapes Go.WideShapes Go.ChangeAt Go.RowKit Go.UL
set_option maxRecDepth 100000
theorem lifted_FnExactChanges (os : Os) (started : os.Started) (H : Type) (enc : TypeId × Value → H) :
    ReturnsInHanded {} Tryz.checked os 3 .any (fun w args => (Rows.fnExactChangesSpec.pre enc Tryz.prog Tryz.f3 Rows.fnExactChangesRow.domain false w args ∧ laidMetH Tryz.prog Rows.fnExactChangesRow.laid w) ∧ sizedMet enc Tryz.prog Tryz.f3 (OpenSpec.ofChange Rows.fnExactChangesSpec) false w args) (Rows.fnExactChangesSpec.post enc Tryz.prog Tryz.f3 false true false false) := by
  refine handed_door (C := Tryz.checked) (X := fun w _ => laidMetH Tryz.prog Rows.fnExactChangesRow.laid w) own started (by kernel_rfl) Tryz.func3
    (ChangeSpec.witness_shaped (enc := enc) (C := Tryz.checked) (os := os) (X := fun w _ => laidMetH Tryz.prog Rows.fnExactChangesRow.laid w) false (World.laidAll Tryz.prog os Rows.fnExactChangesRow.laid) #[.slice none 0 0, .slice none 0 0] 8 (World.laidAll_os _ _ _)
      (World.shaped_of_ZipB (by kernel_rfl) (by kernel_rfl)) (by kernel_rfl) (by kernel_rfl) (by kernel_rfl) (by rw [MakeChecks.laidMetH_plain _ _ _ (by kernel_rfl)]; exact laidMet_laidAll _ (by kernel_rfl) (by kernel_rfl))) ?_
  intro W base args ds gs before hval0 hW hsh
  have hval : ∀ (j : Nat) t v, Tryz.f3.params[j]? = some t → args[j]? = some v → Value.okWide Tryz.prog W .any base t v := hval0
  have hW' := hW
  obtain ⟨p, q, hA0, hV, rfl, hfz, hnd⟩ := hW
  have hA : DataW.TrodAll enc Tryz.prog W 0 (fun _ => true) true Tryz.f3.params.toList args.toList ds p := hA0
  rw [Tryz.params3] at hA hval
  obtain ⟨v0, v1, d0, d1, p0, p1, rfl, rfl, rfl, h0, h1⟩ := trodAll_two hA
  obtain ⟨rfl, rfl⟩ := trodVars_none hV
  obtain ⟨x0, f0, ok0⟩ := open_sl (cells_rec (ti := 3) (ts := 9) (tb := 4) Tryz.underlying71 (by kernel_rfl) (by kernel_rfl) (by kernel_rfl) (by kernel_rfl) (by kernel_rfl) (by kernel_rfl) (by kernel_rfl) (by kernel_rfl)) (by kernel_rfl) (by kernel_rfl) (hval 0 _ v0 rfl rfl) h0
  obtain ⟨x1, f1, ok1⟩ := open_sl (cells_nd (ti := 3) (ts := 9) Tryz.underlying74 (by kernel_rfl) (by kernel_rfl) (by kernel_rfl) (by kernel_rfl) (by kernel_rfl) (by kernel_rfl)) (by kernel_rfl) (by kernel_rfl) (hval 1 _ v1 rfl rfl) h1
  refine (law_Changes.calls (w := W) (a0 := x0) (a1 := x1) (gv_of hsh) f0 f1 ok0 (by obtain ⟨_, _, _, ⟨_, _, h9⟩, _⟩ := f0; exact h9) ok1 (by obtain ⟨_, _, _, ⟨_, _, h9⟩, _⟩ := f1; exact h9)).mono fun e W' ⟨v, he, hb, hv⟩ => ?_
  subst he; subst hv
  exact ⟨_, rfl, law_post laidOut (by kernel_rfl) (by kernel_rfl) rfl hW' (tb := 4) (by kernel_rfl) (by kernel_rfl) hb⟩
theorem cf1_FnExactChanges : Rows.fnExactChangesRow.wf (OpenSpec.ofChange Rows.fnExactChangesSpec) = true := by kernel_rfl
theorem cf2_FnExactChanges : (Tryz.f3.params.all (Tryz.pinned.checked.prog.readableRec ·) && namedTie Tryz.pinned.checked.prog Rows.fnExactChangesRow.named Rows.fnExactChangesSpec.vars && (Rows.fnExactChangesRow.stops == []) && (Tryz.pinned.checked.prog.stops == []) && (Rows.fnExactChangesRow.knobs == []) && (Tryz.pinned.checked.prog.stopKnobs == [])) = true := by kernel_rfl
theorem cf3_FnExactChanges : (Rows.fnExactChangesRow.inPlace == Tryz.pinned.checked.prog.inPlace 3) = true := by kernel_rfl
theorem cf4_FnExactChanges : (Rows.fnExactChangesRow.unfollowed == Tryz.pinned.checked.prog.unfollowed 3) = true := by kernel_rfl
theorem cf5_FnExactChanges : (Rows.fnExactChangesRow.recurses == Tryz.pinned.checked.prog.recurses 3) = true := by kernel_rfl
theorem cf6_FnExactChanges : (Rows.fnExactChangesRow.named == Tryz.pinned.checked.prog.varsNamed 3) = true := by kernel_rfl
theorem closed_FnExactChanges : joinedFacts Tryz.pinned.checked.prog 3 Tryz.f3 Rows.fnExactChangesSpec Rows.fnExactChangesRow = true := joined_of cf1_FnExactChanges pf_laid pf_maps cf2_FnExactChanges cf3_FnExactChanges cf4_FnExactChanges cf5_FnExactChanges cf6_FnExactChanges (by kernel_rfl) pf_keys (by kernel_rfl) pf_heard pf_enter pf_lifts (by kernel_rfl)
theorem over_FnExactChanges : Rows.fnExactChangesRow.holds Tryz.pinned (OpenSpec.ofChange Rows.fnExactChangesSpec) :=
  OpenClaim.holds_of_wide 3 Tryz.f3 rfl rfl rfl rfl rfl rfl rfl ⟨rfl, rfl, rfl, rfl, rfl⟩ rfl rfl rfl rfl rfl (by kernel_rfl) Tryz.func3 closed_FnExactChanges
    (of_decide_eq_true (by kernel_rfl)) (by unfold Func.isWrapper; first | (rw [if_pos (by decide +kernel)]; kernel_rfl) | (rw [if_neg (by decide +kernel)]; exact ⟨rfl, rfl⟩))
    (fun os started H enc _ => lifted_FnExactChanges os started H enc)
theorem proved_FnExactChanges : Rows.FnExactChangesCardSaid :=
  Claim7.holds_tied_plain_at .later [] [.data, .pinned] true (true, "94754823d80911e676dcc845ada1294acfac54ceddaf5c50b0ffe421361bd1f2") true over_FnExactChanges (fun _ h => by cases h) (by kernel_rfl) (fun _ h => by cases h) fnExactChanges_row_tie rfl ⟨rfl, rfl⟩ pf_main rfl
    (fun f fn hf hfn => by
      obtain rfl : f = 3 := Option.some.inj ((show Tryz.prog.funcNamed "loop.example/g00798/laws.FnExactChanges" = some 3 by kernel_rfl).symm.trans hf) |>.symm
      obtain rfl : fn = Tryz.f3 := (Option.some.inj (Tryz.func3.symm.trans hfn)).symm
      exact ⟨pf_looks, fun j t ht => by
        have hm : t ∈ Tryz.f3.params.toList := by simpa using Array.mem_of_getElem? ht
        have hall : (Tryz.f3.params.toList.all fun u => !Tryz.prog.wantsStandIn u) = true := by kernel_rfl
        exact (show Tryz.prog.wantsStandIn t = false by simpa using List.all_eq_true.1 hall t hm)⟩)
    (goesBy_none pf_nogo rfl)
end Go.Proofs.YthpjkenkbfkdhaaGreatDoor
