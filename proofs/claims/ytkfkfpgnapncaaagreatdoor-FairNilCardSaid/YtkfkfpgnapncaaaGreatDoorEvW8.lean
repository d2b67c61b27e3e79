import Derived.Test.YtkfkfpgnapncaaaGreatDoorEvD2
/-! The laws' own run of chapter 18: a machine of one hart that loads, and ends. -/
noncomputable section
namespace Go.EV
open Go Go.RowKit Go.SL Go.Proofs
theorem works18 : TbE Tryz.prog (14, [], .bool true) := pureP tbDec_ok 5000 60 (by kernel_rfl) (by kernel_rfl) (fun et => by kernel_rfl)
end Go.EV
