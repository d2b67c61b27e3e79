/-
  PROVED: 'quadrillelaw19.ScriptBytes' returns true for every list of bytes and every list of choices, and its arguments read as they did.
  CONDITIONS: the row's own ('laid': strings.asciiSpace and four more variables of Go's library read as the program's text lays them; the card ties them to the text); no further one.
  HOW: the functions that are called are walked once each, at any input (the texts Sc*); the law's own run of a fixed start is computed in the kernel by a walk that is proved sound against the model (the texts Ev*).
-/
import Derived.Test.YtkfkfpgnapncaaaGreatDoorScI
import Derived.Test.YtkfkfpgnapncaaaGreatDoorScRow
set_option linter.unusedSimpArgs false
set_option linter.unusedVariables false
/-! ScriptBytes: the row and its card. -/
namespace Go.Proofs.YtkfkfpgnapncaaaGreatDoor
open Go.ChangeShapes Go.WideShapes Go.ChangeAt Go.RowKit Go.SL Go.EV

theorem scriptBytes_met (os : Os) (args : Array Value) : laidMetH Tryz.prog Rows.scriptBytesRow.laid ((World.doorLaid Tryz.prog 400 os).forCall (fun _ _ => 0) ⟨#[], args, []⟩).memory :=
  laidMetH_of_parts3 (fuel := 8) (laidMet_of_run' 8 (by kernel_rfl) (by kernel_rfl)) (by kernel_rfl) (by kernel_rfl)

set_option maxRecDepth 100000 in
theorem scriptBytes_lifted (os : Os) (started : os.Started) (H : Type) (enc : TypeId × Value → H) :
    ReturnsInHanded {} Tryz.checked os 4 .any (fun w args => (Rows.scriptBytesSpec.pre enc Tryz.prog Tryz.f4 [] false w args ∧ laidMetH Tryz.prog Rows.scriptBytesRow.laid w) ∧ sizedMet enc Tryz.prog Tryz.f4 (OpenSpec.ofChange Rows.scriptBytesSpec) false w args)
      (Rows.scriptBytesSpec.post enc Tryz.prog Tryz.f4 false true false false) := by
  refine returnsInHanded_of_change_and (C := Tryz.checked) (X := fun w _ => laidMetH Tryz.prog Rows.scriptBytesRow.laid w) (fun _ _ _ hh h => h.of_heap hh) ownOk started (by kernel_rfl) Tryz.func4
    (ChangeSpec.witness_shaped (enc := enc) (C := Tryz.checked) (os := os) (X := fun w _ => laidMetH Tryz.prog Rows.scriptBytesRow.laid w) false (World.doorLaid Tryz.prog 400 os) #[.slice none 0 0, .slice none 0 0] 8 rfl (World.shaped_of_RefB (by kernel_rfl) (by kernel_rfl)) (by kernel_rfl) (by kernel_rfl) (by kernel_rfl) (scriptBytes_met os _)) ?_
  intro W base args ds gs before hval0 hW _ _ hL _
  have hval : ∀ (j : Nat) t v, Tryz.f4.params[j]? = some t → args[j]? = some v → Value.okWide Tryz.prog W .any base t v := hval0
  have hW' := hW
  obtain ⟨p, q, hA0, hV, rfl, hfz, hnd⟩ := hW
  have hA : DataW.TrodAll enc Tryz.prog W 0 (fun _ => true) true Tryz.f4.params.toList args.toList ds p := hA0
  rw [Tryz.params4] at hA hval
  obtain ⟨v0, v1, d0, d1, p0', p1', rfl, rfl, rfl, h0, h1⟩ := trodAll_two hA
  obtain ⟨rfl, rfl⟩ := trodVars_none hV
  obtain ⟨p0, l, c, rfl, _, hc, hl, _⟩ := open_sl (encA := encB) (size := 1) Tryz.underlying35 cells1.1 (by decide) (fun _ => rfl) (hval 0 35 v0 rfl rfl) h0 (fun _ _ _ h => open_byte h)
  obtain ⟨p1, l1, c1, rfl, _, hc1, hl1, _⟩ := open_sl (encA := encChoice) (size := 3) Tryz.underlying36 cells1.2.2.2 (by decide) (fun _ => rfl) (hval 1 36 v1 rfl rfl) h1 (fun _ _ _ h => open_choice h)
  have hL2 : laidMetH Tryz.prog Rows.scriptBytesRow.laid W := hL
  rw [MakeChecks.laidMetH_plain _ _ _ (by kernel_rfl)] at hL2
  obtain ⟨et, hb⟩ := asp_of_laid hL2 (by simp [Rows.scriptBytesRow])
  exact done hW' rfl hA0 rfl (by rw [Tryz.params4]; as_aux_lemma => decide +kernel) rfl rfl rfl rfl rfl (bytes_c hl hl1 hc (mem_blocks hb) (Own.all W))

set_option maxRecDepth 100000 in
set_option maxHeartbeats 4000000 in
theorem scriptBytes_closed : joinedFacts Tryz.checked.prog 4 Tryz.f4 Rows.scriptBytesSpec Rows.scriptBytesRow = true := by
  unfold joinedFacts
  repeat' (with_reducible apply and2)
  all_goals as_aux_lemma => kernel_rfl
set_option maxHeartbeats 4000000 in
theorem scriptBytes_row : Rows.ScriptBytesSaid :=
  OpenClaim.holds_of_wide 4 Tryz.f4 rfl rfl rfl rfl rfl rfl rfl ⟨rfl, rfl, rfl, rfl, rfl⟩ rfl rfl rfl rfl rfl (by as_aux_lemma => kernel_rfl) Tryz.func4 scriptBytes_closed
    (by as_aux_lemma => exact of_decide_eq_true (by kernel_rfl)) (by as_aux_lemma => unfold Func.isWrapper; first | (rw [if_pos (by decide +kernel)]; kernel_rfl) | (rw [if_neg (by decide +kernel)]; exact ⟨rfl, rfl⟩))
    (fun os started H enc _ => scriptBytes_lifted os started H enc)

set_option maxHeartbeats 4000000 in
theorem scriptBytes_holds : Rows.ScriptBytesCardSaid :=
  Claim7.holds_tied_plain_at .later [] [.data, .data, .data, .listed, .data] true (true, "0a1b384f0110842b25fe8f7a7ef01893a65e1ead8d275e4b585b3f534e3aea14") true
    scriptBytes_row (fun _ h => by cases h) (by as_aux_lemma => kernel_rfl) (fun _ h => by cases h) scriptBytes_row_tie rfl ⟨rfl, rfl⟩ (by as_aux_lemma => kernel_rfl) rfl
    (fun f fn hf hfn => by
      obtain rfl : f = 4 := Option.some.inj ((show Tryz.prog.funcNamed "quadrille/quadrillelaw19.ScriptBytes" = some 4 by as_aux_lemma => kernel_rfl).symm.trans hf) |>.symm
      obtain rfl : fn = Tryz.f4 := (Option.some.inj (Tryz.func4.symm.trans hfn)).symm
      exact ⟨by as_aux_lemma => kernel_rfl, fun j t ht => by
        rw [Tryz.params4] at ht
        have hm : t ∈ [35, 36] := by simpa using Array.mem_of_getElem? ht
        have hall : ([35, 36].all fun u => !Tryz.prog.wantsStandIn u) = true := by as_aux_lemma => kernel_rfl
        exact (show Tryz.prog.wantsStandIn t = false by simpa using List.all_eq_true.1 hall t hm)⟩)
    (by as_aux_lemma => kernel_rfl)
#print axioms scriptBytes_holds
end Go.Proofs.YtkfkfpgnapncaaaGreatDoor
