import Derived.Test.YtkfkfpgnapncaaaGreatDoorEvFt
set_option linter.unusedSimpArgs false
set_option linter.unusedVariables false
/-! What the computed walk asks of this program. -/
noncomputable section
namespace Go.EV
open Go Go.RowKit Go.SL Go.Proofs

/-- The types of which '==' is asked: two structs, and an interface. -/
def eqTypes : List Nat := [39, 177, 1000020]
theorem aggP : AggOK Tryz.prog eqTypes := by
  refine ⟨fun t ht hc => ?_, fun t hc => ?_⟩
  · have : t = 39 ∨ t = 177 ∨ t = 1000020 := by simpa [eqTypes] using hc
    rcases this with rfl | rfl | rfl
    · exact ⟨by kernel_rfl, by kernel_rfl⟩
    · exact ⟨by kernel_rfl, by kernel_rfl⟩
    · cases ht
  · have : t + 1000000 = 39 ∨ t + 1000000 = 177 ∨ t + 1000000 = 1000020 := by simpa [eqTypes] using hc
    rcases this with e | e | e
    · omega
    · omega
    · obtain rfl : t = 20 := by omega
      exact ⟨_, Tryz.underlying20⟩

def zOk : Tr → Bool
  | .leaf => true
  | .node _ e l r => (match e.zero with | some z => scal2 z | none => true) && zOk l && zOk r
theorem zOk_find : ∀ (t : Tr), zOk t = true → ∀ (k : Nat) (e : TE), t.find k = some e → ∀ z, e.zero = some z → scal2 z = true
  | .leaf, _, k, e, h => by simp [Tr.find] at h
  | .node j e' l r, hz, k, e, h => by
    unfold zOk at hz
    rw [Bool.and_eq_true, Bool.and_eq_true] at hz
    obtain ⟨⟨h1, h2⟩, h3⟩ := hz
    intro z hzz
    unfold Tr.find at h
    split at h
    · exact zOk_find l h2 k e h z hzz
    · split at h
      · obtain rfl := Option.some.inj h
        rw [hzz] at h1; exact h1
      · exact zOk_find r h3 k e h z hzz
theorem tzP : TZ TY := fun t e z h hz => zOk_find tr (by kernel_rfl) t e h z hz

/-- The walk that is computed, with a table. -/
def orcP (l : Tb) (lf m : Nat) : Orc := mkOrc TY 7 eqTypes ft.get (tbOf l) lf m
theorem orcP_ok {l : Tb} (hl : ∀ e ∈ l, TbE Tryz.prog e) (lf m : Nat) : OrcOK Tryz.prog TY 7 (orcP l lf m) :=
  mkOrc_ok tyOK tzP aggP fokP (tab_ok (by decide) hl) (fun orc nt ro hO => draw_ok mixed tyOK tzP hO) m
theorem pureP {l : Tb} (hl : ∀ e ∈ l, TbE Tryz.prog e) (lf m : Nat) {f : FuncId} {args : List Value} {res : Value} (ha : args.all (plV 5) = true) (hp : plV 5 res = true)
    (hr : ∀ et, topR res ((orcP l lf m).call f args (stA 7 et)) = some (.ro et)) : TbE Tryz.prog (f, args, res) :=
  ⟨pure_of_run (by decide) (orcP_ok hl lf m) ha hp hr, ha, hp⟩
end Go.EV
