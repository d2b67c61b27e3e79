import Derived.Test.YtkfkfpgnapncaaaGreatDoorEvZ
set_option linter.unusedSimpArgs false
set_option linter.unusedVariables false
/-! isa.Decode of the two words that the laws' own run meets. -/
noncomputable section
namespace Go.EV
open Go Go.RowKit Go.SL Go.Proofs
def instV (op rd : Int) : Value := .tuple #[.agg #[.int .i64 op, .int .i64 rd, .int .i64 0, .int .i64 0, .int .u32 0, .bool false, .bool false], .bool true]
theorem dec115 : TbE Tryz.prog (184, [.int .u32 115], instV 39 0) := pureP (l := []) (fun _ h => by cases h) 5000 60 (by kernel_rfl) (by kernel_rfl) (fun et => by kernel_rfl)
end Go.EV
