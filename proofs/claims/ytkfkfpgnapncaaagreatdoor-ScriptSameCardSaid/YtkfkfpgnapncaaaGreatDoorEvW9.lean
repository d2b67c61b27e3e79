import Derived.Test.YtkfkfpgnapncaaaGreatDoorEvD2
set_option linter.unusedSimpArgs false
set_option linter.unusedVariables false
/-! The laws' own run of chapter 19. -/
noncomputable section
namespace Go.EV
open Go Go.RowKit Go.SL Go.Proofs
theorem works19 : TbE Tryz.prog (15, [], .bool true) := pureP tbDec_ok 5000 60 (by kernel_rfl) (by kernel_rfl) (fun et => by kernel_rfl)
end Go.EV
