/-
  PROVED: 'quadrillelaw19.ScriptSame' returns true for every two runs, and its arguments read as they did.
  CONDITIONS: the row's own ('laid': strings.asciiSpace and four more variables of Go's library read as the program's text lays them; the card ties them to the text); no further one.
  HOW: the functions that are called are walked once each, at any input (the texts Sc*); the law's own run of a fixed start is computed in the kernel by a walk that is proved sound against the model (the texts Ev*).
-/
import Derived.Test.YtkfkfpgnapncaaaGreatDoorScJ
import Derived.Test.YtkfkfpgnapncaaaGreatDoorScO
import Derived.Test.YtkfkfpgnapncaaaGreatDoorScRow
set_option linter.unusedSimpArgs false
set_option linter.unusedVariables false
/-! ScriptSame: the row and its card. -/
namespace Go.Proofs.YtkfkfpgnapncaaaGreatDoor
open Go.ChangeShapes Go.WideShapes Go.ChangeAt Go.RowKit Go.SL Go.EV

theorem scriptSame_met (os : Os) (args : Array Value) : laidMetH Tryz.prog Rows.scriptSameRow.laid ((World.doorLaid Tryz.prog 400 os).forCall (fun _ _ => 0) ⟨#[], args, []⟩).memory :=
  laidMetH_of_parts3 (fuel := 8) (laidMet_of_run' 8 (by kernel_rfl) (by kernel_rfl)) (by kernel_rfl) (by kernel_rfl)

set_option maxRecDepth 100000 in
theorem scriptSame_lifted (os : Os) (started : os.Started) (H : Type) (enc : TypeId × Value → H) :
    ReturnsInHanded {} Tryz.checked os 8 .any (fun w args => (Rows.scriptSameSpec.pre enc Tryz.prog Tryz.f8 [] false w args ∧ laidMetH Tryz.prog Rows.scriptSameRow.laid w) ∧ sizedMet enc Tryz.prog Tryz.f8 (OpenSpec.ofChange Rows.scriptSameSpec) false w args)
      (Rows.scriptSameSpec.post enc Tryz.prog Tryz.f8 false true false false) := by
  refine returnsInHanded_of_change_and (C := Tryz.checked) (X := fun w _ => laidMetH Tryz.prog Rows.scriptSameRow.laid w) (fun _ _ _ hh h => h.of_heap hh) ownOk started (by kernel_rfl) Tryz.func8
    (ChangeSpec.witness_shaped (enc := enc) (C := Tryz.checked) (os := os) (X := fun w _ => laidMetH Tryz.prog Rows.scriptSameRow.laid w) false (World.doorLaid Tryz.prog 400 os) #[.agg #[.slice none 0 0, .slice none 0 0, .slice none 0 0, .bool false], .agg #[.slice none 0 0, .slice none 0 0, .slice none 0 0, .bool false]] 8 rfl (World.shaped_of_RefB (by kernel_rfl) (by kernel_rfl)) (by kernel_rfl) (by kernel_rfl) (by kernel_rfl) (scriptSame_met os _)) ?_
  intro W base args ds gs before hval0 hW _ _ hL _
  have hval : ∀ (j : Nat) t v, Tryz.f8.params[j]? = some t → args[j]? = some v → Value.okWide Tryz.prog W .any base t v := hval0
  have hW' := hW
  obtain ⟨p, q, hA0, hV, rfl, hfz, hnd⟩ := hW
  have hA : DataW.TrodAll enc Tryz.prog W 0 (fun _ => true) true Tryz.f8.params.toList args.toList ds p := hA0
  rw [Tryz.params8] at hA hval
  obtain ⟨v0, v1, d0, d1, p0', p1', rfl, rfl, rfl, h0, h1⟩ := trodAll_two hA
  obtain ⟨rfl, rfl⟩ := trodVars_none hV
  obtain ⟨pda, pha, pma, lda, lha, lma, cda, cha, cma, ra, rfl, a1, a2, a3, a4, a5, a6⟩ := open_ran (hval 0 52 v0 rfl rfl) h0
  obtain ⟨pdb, phb, pmb, ldb, lhb, lmb, cdb, chb, cmb, rb, rfl, b1, b2, b3, b4, b5, b6⟩ := open_ran (hval 1 52 v1 rfl rfl) h1
  have hL2 : laidMetH Tryz.prog Rows.scriptSameRow.laid W := hL
  rw [MakeChecks.laidMetH_plain _ _ _ (by kernel_rfl)] at hL2
  obtain ⟨et, hb⟩ := asp_of_laid hL2 (by simp [Rows.scriptSameRow])
  exact done hW' rfl hA0 rfl (by rw [Tryz.params8]; as_aux_lemma => decide +kernel) rfl rfl rfl rfl rfl (ssame_c a1 a2 a3 a4 a5 a6 b1 b2 b3 b4 b5 b6 (mem_blocks hb) (Own.all W))

set_option maxRecDepth 100000 in
set_option maxHeartbeats 4000000 in
theorem scriptSame_closed : joinedFacts Tryz.checked.prog 8 Tryz.f8 Rows.scriptSameSpec Rows.scriptSameRow = true := by
  unfold joinedFacts
  repeat' (with_reducible apply and2)
  all_goals as_aux_lemma => kernel_rfl
set_option maxHeartbeats 4000000 in
theorem scriptSame_row : Rows.ScriptSameSaid :=
  OpenClaim.holds_of_wide 8 Tryz.f8 rfl rfl rfl rfl rfl rfl rfl ⟨rfl, rfl, rfl, rfl, rfl⟩ rfl rfl rfl rfl rfl (by as_aux_lemma => kernel_rfl) Tryz.func8 scriptSame_closed
    (by as_aux_lemma => exact of_decide_eq_true (by kernel_rfl)) (by as_aux_lemma => unfold Func.isWrapper; first | (rw [if_pos (by decide +kernel)]; kernel_rfl) | (rw [if_neg (by decide +kernel)]; exact ⟨rfl, rfl⟩))
    (fun os started H enc _ => scriptSame_lifted os started H enc)

set_option maxHeartbeats 4000000 in
theorem scriptSame_holds : Rows.ScriptSameCardSaid :=
  Claim7.holds_tied_plain_at .later [] [.data, .data, .data, .listed, .data] true (true, "0a1b384f0110842b25fe8f7a7ef01893a65e1ead8d275e4b585b3f534e3aea14") true
    scriptSame_row (fun _ h => by cases h) (by as_aux_lemma => kernel_rfl) (fun _ h => by cases h) scriptSame_row_tie rfl ⟨rfl, rfl⟩ (by as_aux_lemma => kernel_rfl) rfl
    (fun f fn hf hfn => by
      obtain rfl : f = 8 := Option.some.inj ((show Tryz.prog.funcNamed "quadrille/quadrillelaw19.ScriptSame" = some 8 by as_aux_lemma => kernel_rfl).symm.trans hf) |>.symm
      obtain rfl : fn = Tryz.f8 := (Option.some.inj (Tryz.func8.symm.trans hfn)).symm
      exact ⟨by as_aux_lemma => kernel_rfl, fun j t ht => by
        rw [Tryz.params8] at ht
        have hm : t ∈ [52, 52] := by simpa using Array.mem_of_getElem? ht
        have hall : ([52, 52].all fun u => !Tryz.prog.wantsStandIn u) = true := by as_aux_lemma => kernel_rfl
        exact (show Tryz.prog.wantsStandIn t = false by simpa using List.all_eq_true.1 hall t hm)⟩)
    (by as_aux_lemma => kernel_rfl)
#print axioms scriptSame_holds
end Go.Proofs.YtkfkfpgnapncaaaGreatDoor
