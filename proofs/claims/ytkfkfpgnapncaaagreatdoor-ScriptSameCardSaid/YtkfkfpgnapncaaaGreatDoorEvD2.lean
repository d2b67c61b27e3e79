import Derived.Test.YtkfkfpgnapncaaaGreatDoorEvD1
set_option linter.unusedSimpArgs false
set_option linter.unusedVariables false
noncomputable section
namespace Go.EV
open Go Go.RowKit Go.SL Go.Proofs
theorem dec8323 : TbE Tryz.prog (184, [.int .u32 8323], instV 13 1) := pureP (l := []) (fun _ h => by cases h) 5000 60 (by kernel_rfl) (by kernel_rfl) (fun et => by kernel_rfl)
def tbDec : Tb := [(184, [.int .u32 115], instV 39 0), (184, [.int .u32 8323], instV 13 1)]
theorem tbDec_ok : ∀ e ∈ tbDec, TbE Tryz.prog e := fun e h => by
  rcases List.mem_cons.1 h with rfl | h
  · exact dec115
  · rcases List.mem_cons.1 h with rfl | h
    · exact dec8323
    · cases h
end Go.EV
