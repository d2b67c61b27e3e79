import Derived.Test.YtkfkfpgnapncaaaGreatDoorEvW8
/-! FairNil: its whole run. -/
noncomputable section
namespace Go.EV
open Go Go.RowKit Go.SL Go.Proofs
def tbW8 : Tb := [(14, [], .bool true)]
theorem tbW8_ok : ∀ e ∈ tbW8, TbE Tryz.prog e := fun e h => by
  rcases List.mem_cons.1 h with rfl | h
  · exact works18
  · cases h
theorem fairNil_run (k : Int) : PureF Tryz.prog 3 [.int .i64 k] (.bool true) := (pureP tbW8_ok 5000 60 (by kernel_rfl) (by kernel_rfl) (fun et => by kernel_rfl)).pure
end Go.EV
