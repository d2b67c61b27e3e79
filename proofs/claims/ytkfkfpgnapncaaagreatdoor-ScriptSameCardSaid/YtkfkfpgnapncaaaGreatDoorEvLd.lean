import Derived.Test.YtkfkfpgnapncaaaGreatDoorEvZ
import Derived.Test.YtkfkfpgnapncaaaGreatDoorTie
import Derived.ProofKit
import Derived.LaidMore
import Derived.OpenShut
set_option linter.unusedSimpArgs false
set_option linter.unusedVariables false
/-! What the rows' condition on strings.asciiSpace gives the computed walk. -/
noncomputable section
namespace Go.EV
open Go Go.RowKit Go.SL Go.Proofs Go.Proofs.YtkfkfpgnapncaaaGreatDoor

theorem laid_mem {P : Program} {w : World} {n : String} {d : DataW Unit} : ∀ {l : List (String × DataW Unit)} {ps : List MemPlace}, DataW.LaidVars P w l ps → (n, d) ∈ l →
    ∃ g t cs fuel p, P.globalNamed n = some g ∧ (P.globals[g]?).map (·.type) = some t ∧ w.var? P n = some cs ∧ DataW.trod (fun _ => ()) P w 0 (fun _ => true) false fuel t cs.toList = some (d, p) ∧ ∀ x ∈ MemPlace.row ⟨g, 0, none⟩ cs.size, x ∈ ps
  | [], _, _, h => by cases h
  | (n', d') :: r, ps, hl, h => by
    obtain ⟨g, t, cs, fuel, p, q, h1, h2, h3, h4, h5, rfl⟩ := hl
    rcases List.mem_cons.1 h with e | h
    · cases e
      exact ⟨g, t, cs, fuel, p, h1, h2, h3, h4, fun x hx => by simp [hx]⟩
    · obtain ⟨g, t, cs, fuel, p, k1, k2, k3, k4, k5⟩ := laid_mem h5 h
      exact ⟨g, t, cs, fuel, p, k1, k2, k3, k4, fun x hx => by simp [k5 x hx]⟩

theorem asp_data {H : Type} : Rows.laid_strings_asciiSpace (H := H) = .agg ((List.range 256).map fun c => .lit (.int .u8 (spI c))) := by kernel_rfl

set_option maxRecDepth 100000 in
theorem asp_of_laid {laid : List (String × DataW Unit)} {w : World} (hl : laidMet Tryz.prog laid w) (hm : ("strings.asciiSpace", Rows.laid_strings_asciiSpace) ∈ laid) : ∃ et, w.heap[0]? = some (.cells spA et (0, 0)) := by
  obtain ⟨ps, hv, _, hp⟩ := hl
  obtain ⟨g, t, cs, fuel, p, h1, h2, h3, h4, h5⟩ := laid_mem hv hm
  obtain rfl : g = 0 := Option.some.inj (h1.symm.trans (by kernel_rfl))
  obtain rfl : t = 378 := Option.some.inj (h2.symm.trans (by kernel_rfl))
  obtain ⟨xs, m, _, hx, hlen, hn, hel⟩ := DataW.trod_array Tryz.underlying378 h4
  have c378 : Tryz.prog.cellsOf 378 = 256 := by kernel_rfl
  have c5 : Tryz.prog.cellsOf 5 = 1 := by kernel_rfl
  rw [c378] at hlen
  rw [c5] at hel
  rw [asp_data] at hx
  have hxs : xs.map (·.1) = (List.range 256).map fun c => (DataW.lit (.int .u8 (spI c)) : DataW Unit) := by
    have := (Prod.mk.inj hx).1
    exact (DataW.agg.inj this).symm
  have hcs : cs = spA := by
    apply Array.ext
    · rw [← Array.length_toList, hlen]; rfl
    · intro i hi1 hi2
      have hi : i < 256 := by rw [← Array.length_toList, hlen] at hi1; exact hi1
      have he := hel i hi
      have hxi : i < xs.length := by omega
      rw [List.getElem?_eq_getElem hxi] at he
      obtain ⟨k, e1, e2, _⟩ := DataW.trod_int Tryz.underlying5 he
      have h6 : (xs.map (·.1))[i]? = some (DataW.lit (.int .u8 (spI i))) := by
        rw [hxs]; simp [hi]
      rw [List.getElem?_map, List.getElem?_eq_getElem hxi, e2] at h6
      simp only [Option.map_some, Option.some.injEq, DataW.lit.injEq, Lit.int.injEq] at h6
      obtain ⟨_, rfl⟩ := h6
      have h7 : (cs.toList.drop (i * 1)).take 1 = [cs[i]] := by
        rw [Nat.mul_one, List.drop_eq_getElem_cons (by rw [Array.length_toList]; exact hi1)]
        simp
      rw [h7] at e1
      have h8 : cs[i] = .int .u8 (spI i) := (List.cons.inj e1).1
      rw [h8]
      simp [spA]
  subst hcs
  obtain ⟨c, et, hb⟩ := (hp 0 0 (h5 _ (by simp [MemPlace.row, spA]))).1
  refine ⟨et, ?_⟩
  simp only [World.var?, h1, Option.bind_some] at h3
  rw [hb] at h3
  rw [hb]
  simp only [Option.some.injEq] at h3
  rw [h3]
end Go.EV
