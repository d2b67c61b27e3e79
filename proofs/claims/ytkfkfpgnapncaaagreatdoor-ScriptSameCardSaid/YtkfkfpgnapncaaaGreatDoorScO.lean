import Derived.Test.YtkfkfpgnapncaaaGreatDoorScRow
set_option linter.unusedSimpArgs false
set_option linter.unusedVariables false
/-! Runs, opened. -/
namespace Go.Proofs.YtkfkfpgnapncaaaGreatDoor
open Go.ChangeShapes Go.WideShapes Go.ChangeAt Go.RowKit Go.SL Go.EV
set_option maxRecDepth 100000
theorem cO3 : Tryz.prog.cellsOf 3 = 1 := by kernel_rfl
theorem cO4 : Tryz.prog.cellsOf 4 = 1 := by kernel_rfl
theorem cO22 : Tryz.prog.cellsOf 22 = 1 := by kernel_rfl
theorem cO35 : Tryz.prog.cellsOf 35 = 1 := by kernel_rfl
theorem cO50 : Tryz.prog.cellsOf 50 = 1 := by kernel_rfl
theorem cO52 : Tryz.prog.cellsOf 52 = 4 := by kernel_rfl
theorem cO59 : Tryz.prog.cellsOf 59 = 1 := by kernel_rfl
theorem cO60 : Tryz.prog.cellsOf 60 = 1 := by kernel_rfl
theorem cO61 : Tryz.prog.cellsOf 61 = 1 := by kernel_rfl
theorem cO62 : Tryz.prog.cellsOf 62 = 1 := by kernel_rfl
theorem cO64 : Tryz.prog.cellsOf 64 = 7 := by kernel_rfl
theorem cO66 : Tryz.prog.cellsOf 66 = 2 := by kernel_rfl
theorem cO67 : Tryz.prog.cellsOf 67 = 1 := by kernel_rfl
theorem cO69 : Tryz.prog.cellsOf 69 = 14 := by kernel_rfl
theorem cO71 : Tryz.prog.cellsOf 71 = 3 := by kernel_rfl
theorem cO73 : Tryz.prog.cellsOf 73 = 20 := by kernel_rfl
theorem cO83 : Tryz.prog.cellsOf 83 = 32 := by kernel_rfl
theorem cO85 : Tryz.prog.cellsOf 85 = 35 := by kernel_rfl
section
variable {H : Type} {enc : TypeId × Value → H} {W : World} {base : Nat} {sp : Nat → Bool} {held : Bool}
theorem cut_one {cs p r : List Value} {a n : Nat} (h1 : (cs.drop a).take n = p) (h2 : cs.drop (a + n) = r) : cs.drop a = p ++ r := by
  rw [← h1, ← h2, ← List.drop_drop, List.take_append_drop]
theorem open_regs {n : Nat} {cs : List Value} {x : DataW H × List MemPlace} (h : DataW.trod enc Tryz.prog W base sp held n 83 cs = some x) : ∃ f : Nat → Int, cs = (List.range 32).map fun i => .int .u32 (f i) := by
  obtain ⟨xs, m, _, _, hlen, hn, hf⟩ := DataW.trod_array Tryz.underlying83 h
  rw [cO83] at hlen
  have hq : ∀ i, i < 32 → ∃ k : Int, cs[i]? = some (.int .u32 k) := fun i hi => by
    have he := hf i hi
    rw [cO60, List.getElem?_eq_getElem (by omega)] at he
    obtain ⟨k, e1, _, _⟩ := DataW.trod_int Tryz.underlying60 he
    refine ⟨k, ?_⟩
    rw [Nat.mul_one, List.drop_eq_getElem_cons (by omega)] at e1
    simp only [List.take_succ_cons, List.take_zero, List.cons.injEq, and_true] at e1
    rw [List.getElem?_eq_getElem (by omega), e1]
  refine ⟨fun i => match cs[i]? with | some (.int _ k) => k | _ => 0, ?_⟩
  apply List.ext_getElem?
  intro i
  by_cases hi : i < 32
  · obtain ⟨k, hk⟩ := hq i hi
    simp [hk, hi]
  · rw [List.getElem?_eq_none (by omega), List.getElem?_eq_none (by simp; omega)]
theorem open_Access {n : Nat} {cs : List Value} {x : DataW H × List MemPlace} (h : DataW.trod enc Tryz.prog W base sp held n 64 cs = some x) : ∃ y : Access, cs = encAccess y := by
  obtain ⟨xs, m, _, _, hlen, hn, hf⟩ := DataW.trod_struct Tryz.underlying64 h
  rw [cO64] at hlen
  have hx : xs.length = 7 := hn
  have f0 : DataW.trod enc Tryz.prog W base sp held m 61 ((cs.drop 0).take (Tryz.prog.cellsOf 61)) = xs[0]? := hf 0 _ rfl
  rw [cO61, List.getElem?_eq_getElem (by omega)] at f0
  obtain ⟨v0, e0, _, _⟩ := DataW.trod_int Tryz.underlying61 f0
  have f1 : DataW.trod enc Tryz.prog W base sp held m 60 ((cs.drop 1).take (Tryz.prog.cellsOf 60)) = xs[1]? := hf 1 _ rfl
  rw [cO60, List.getElem?_eq_getElem (by omega)] at f1
  obtain ⟨v1, e1, _, _⟩ := DataW.trod_int Tryz.underlying60 f1
  have f2 : DataW.trod enc Tryz.prog W base sp held m 3 ((cs.drop 2).take (Tryz.prog.cellsOf 3)) = xs[2]? := hf 2 _ rfl
  rw [cO3, List.getElem?_eq_getElem (by omega)] at f2
  obtain ⟨v2, e2, _, _⟩ := DataW.trod_int Tryz.underlying3 f2
  have f3 : DataW.trod enc Tryz.prog W base sp held m 60 ((cs.drop 3).take (Tryz.prog.cellsOf 60)) = xs[3]? := hf 3 _ rfl
  rw [cO60, List.getElem?_eq_getElem (by omega)] at f3
  obtain ⟨v3, e3, _, _⟩ := DataW.trod_int Tryz.underlying60 f3
  have f4 : DataW.trod enc Tryz.prog W base sp held m 62 ((cs.drop 4).take (Tryz.prog.cellsOf 62)) = xs[4]? := hf 4 _ rfl
  rw [cO62, List.getElem?_eq_getElem (by omega)] at f4
  obtain ⟨v4, e4, _, _⟩ := DataW.trod_int Tryz.underlying62 f4
  have f5 : DataW.trod enc Tryz.prog W base sp held m 4 ((cs.drop 5).take (Tryz.prog.cellsOf 4)) = xs[5]? := hf 5 _ rfl
  rw [cO4, List.getElem?_eq_getElem (by omega)] at f5
  obtain ⟨v5, e5, _⟩ := DataW.trod_bool Tryz.underlying4 f5
  have f6 : DataW.trod enc Tryz.prog W base sp held m 4 ((cs.drop 6).take (Tryz.prog.cellsOf 4)) = xs[6]? := hf 6 _ rfl
  rw [cO4, List.getElem?_eq_getElem (by omega)] at f6
  obtain ⟨v6, e6, _⟩ := DataW.trod_bool Tryz.underlying4 f6
  have d7 : cs.drop 7 = [] := List.drop_eq_nil_of_le (by omega)
  have d6 := cut_one e6 d7
  have d5 := cut_one e5 d6
  have d4 := cut_one e4 d5
  have d3 := cut_one e3 d4
  have d2 := cut_one e2 d3
  have d1 := cut_one e1 d2
  have d0 := cut_one e0 d1
  exact ⟨⟨v0, v1, v2, v3, v4, v5, v6⟩, d0⟩
theorem open_Answer {n : Nat} {cs : List Value} {x : DataW H × List MemPlace} (h : DataW.trod enc Tryz.prog W base sp held n 66 cs = some x) : ∃ y : Answer, cs = encAnswer y := by
  obtain ⟨xs, m, _, _, hlen, hn, hf⟩ := DataW.trod_struct Tryz.underlying66 h
  rw [cO66] at hlen
  have hx : xs.length = 2 := hn
  have f0 : DataW.trod enc Tryz.prog W base sp held m 60 ((cs.drop 0).take (Tryz.prog.cellsOf 60)) = xs[0]? := hf 0 _ rfl
  rw [cO60, List.getElem?_eq_getElem (by omega)] at f0
  obtain ⟨v0, e0, _, _⟩ := DataW.trod_int Tryz.underlying60 f0
  have f1 : DataW.trod enc Tryz.prog W base sp held m 4 ((cs.drop 1).take (Tryz.prog.cellsOf 4)) = xs[1]? := hf 1 _ rfl
  rw [cO4, List.getElem?_eq_getElem (by omega)] at f1
  obtain ⟨v1, e1, _⟩ := DataW.trod_bool Tryz.underlying4 f1
  have d2 : cs.drop 2 = [] := List.drop_eq_nil_of_le (by omega)
  have d1 := cut_one e1 d2
  have d0 := cut_one e0 d1
  exact ⟨⟨v0, v1⟩, d0⟩
theorem open_Commit {n : Nat} {cs : List Value} {x : DataW H × List MemPlace} (h : DataW.trod enc Tryz.prog W base sp held n 69 cs = some x) : ∃ y : Commit, cs = encCommit y := by
  obtain ⟨xs, m, _, _, hlen, hn, hf⟩ := DataW.trod_struct Tryz.underlying69 h
  rw [cO69] at hlen
  have hx : xs.length = 7 := hn
  have f0 : DataW.trod enc Tryz.prog W base sp held m 60 ((cs.drop 0).take (Tryz.prog.cellsOf 60)) = xs[0]? := hf 0 _ rfl
  rw [cO60, List.getElem?_eq_getElem (by omega)] at f0
  obtain ⟨v0, e0, _, _⟩ := DataW.trod_int Tryz.underlying60 f0
  have f1 : DataW.trod enc Tryz.prog W base sp held m 60 ((cs.drop 1).take (Tryz.prog.cellsOf 60)) = xs[1]? := hf 1 _ rfl
  rw [cO60, List.getElem?_eq_getElem (by omega)] at f1
  obtain ⟨v1, e1, _, _⟩ := DataW.trod_int Tryz.underlying60 f1
  have f2 : DataW.trod enc Tryz.prog W base sp held m 64 ((cs.drop 2).take (Tryz.prog.cellsOf 64)) = xs[2]? := hf 2 _ rfl
  rw [cO64, List.getElem?_eq_getElem (by omega)] at f2
  obtain ⟨v2, e2⟩ := open_Access f2
  have f3 : DataW.trod enc Tryz.prog W base sp held m 66 ((cs.drop 9).take (Tryz.prog.cellsOf 66)) = xs[3]? := hf 3 _ rfl
  rw [cO66, List.getElem?_eq_getElem (by omega)] at f3
  obtain ⟨v3, e3⟩ := open_Answer f3
  have f4 : DataW.trod enc Tryz.prog W base sp held m 3 ((cs.drop 11).take (Tryz.prog.cellsOf 3)) = xs[4]? := hf 4 _ rfl
  rw [cO3, List.getElem?_eq_getElem (by omega)] at f4
  obtain ⟨v4, e4, _, _⟩ := DataW.trod_int Tryz.underlying3 f4
  have f5 : DataW.trod enc Tryz.prog W base sp held m 60 ((cs.drop 12).take (Tryz.prog.cellsOf 60)) = xs[5]? := hf 5 _ rfl
  rw [cO60, List.getElem?_eq_getElem (by omega)] at f5
  obtain ⟨v5, e5, _, _⟩ := DataW.trod_int Tryz.underlying60 f5
  have f6 : DataW.trod enc Tryz.prog W base sp held m 67 ((cs.drop 13).take (Tryz.prog.cellsOf 67)) = xs[6]? := hf 6 _ rfl
  rw [cO67, List.getElem?_eq_getElem (by omega)] at f6
  obtain ⟨v6, e6, _, _⟩ := DataW.trod_int Tryz.underlying67 f6
  have d7 : cs.drop 14 = [] := List.drop_eq_nil_of_le (by omega)
  have d6 := cut_one e6 d7
  have d5 := cut_one e5 d6
  have d4 := cut_one e4 d5
  have d3 := cut_one e3 d4
  have d2 := cut_one e2 d3
  have d1 := cut_one e1 d2
  have d0 := cut_one e0 d1
  exact ⟨⟨v0, v1, v2, v3, v4, v5, v6⟩, d0⟩
theorem open_Store {n : Nat} {cs : List Value} {x : DataW H × List MemPlace} (h : DataW.trod enc Tryz.prog W base sp held n 71 cs = some x) : ∃ y : Store, cs = encStore y := by
  obtain ⟨xs, m, _, _, hlen, hn, hf⟩ := DataW.trod_struct Tryz.underlying71 h
  rw [cO71] at hlen
  have hx : xs.length = 3 := hn
  have f0 : DataW.trod enc Tryz.prog W base sp held m 60 ((cs.drop 0).take (Tryz.prog.cellsOf 60)) = xs[0]? := hf 0 _ rfl
  rw [cO60, List.getElem?_eq_getElem (by omega)] at f0
  obtain ⟨v0, e0, _, _⟩ := DataW.trod_int Tryz.underlying60 f0
  have f1 : DataW.trod enc Tryz.prog W base sp held m 3 ((cs.drop 1).take (Tryz.prog.cellsOf 3)) = xs[1]? := hf 1 _ rfl
  rw [cO3, List.getElem?_eq_getElem (by omega)] at f1
  obtain ⟨v1, e1, _, _⟩ := DataW.trod_int Tryz.underlying3 f1
  have f2 : DataW.trod enc Tryz.prog W base sp held m 60 ((cs.drop 2).take (Tryz.prog.cellsOf 60)) = xs[2]? := hf 2 _ rfl
  rw [cO60, List.getElem?_eq_getElem (by omega)] at f2
  obtain ⟨v2, e2, _, _⟩ := DataW.trod_int Tryz.underlying60 f2
  have d3 : cs.drop 3 = [] := List.drop_eq_nil_of_le (by omega)
  have d2 := cut_one e2 d3
  have d1 := cut_one e1 d2
  have d0 := cut_one e0 d1
  exact ⟨⟨v0, v1, v2⟩, d0⟩
theorem open_Did {n : Nat} {cs : List Value} {x : DataW H × List MemPlace} (h : DataW.trod enc Tryz.prog W base sp held n 73 cs = some x) : ∃ y : Did, cs = encDid y := by
  obtain ⟨xs, m, _, _, hlen, hn, hf⟩ := DataW.trod_struct Tryz.underlying73 h
  rw [cO73] at hlen
  have hx : xs.length = 5 := hn
  have f0 : DataW.trod enc Tryz.prog W base sp held m 59 ((cs.drop 0).take (Tryz.prog.cellsOf 59)) = xs[0]? := hf 0 _ rfl
  rw [cO59, List.getElem?_eq_getElem (by omega)] at f0
  obtain ⟨v0, e0, _, _⟩ := DataW.trod_int Tryz.underlying59 f0
  have f1 : DataW.trod enc Tryz.prog W base sp held m 3 ((cs.drop 1).take (Tryz.prog.cellsOf 3)) = xs[1]? := hf 1 _ rfl
  rw [cO3, List.getElem?_eq_getElem (by omega)] at f1
  obtain ⟨v1, e1, _, _⟩ := DataW.trod_int Tryz.underlying3 f1
  have f2 : DataW.trod enc Tryz.prog W base sp held m 69 ((cs.drop 2).take (Tryz.prog.cellsOf 69)) = xs[2]? := hf 2 _ rfl
  rw [cO69, List.getElem?_eq_getElem (by omega)] at f2
  obtain ⟨v2, e2⟩ := open_Commit f2
  have f3 : DataW.trod enc Tryz.prog W base sp held m 71 ((cs.drop 16).take (Tryz.prog.cellsOf 71)) = xs[3]? := hf 3 _ rfl
  rw [cO71, List.getElem?_eq_getElem (by omega)] at f3
  obtain ⟨v3, e3⟩ := open_Store f3
  have f4 : DataW.trod enc Tryz.prog W base sp held m 3 ((cs.drop 19).take (Tryz.prog.cellsOf 3)) = xs[4]? := hf 4 _ rfl
  rw [cO3, List.getElem?_eq_getElem (by omega)] at f4
  obtain ⟨v4, e4, _, _⟩ := DataW.trod_int Tryz.underlying3 f4
  have d5 : cs.drop 20 = [] := List.drop_eq_nil_of_le (by omega)
  have d4 := cut_one e4 d5
  have d3 := cut_one e3 d4
  have d2 := cut_one e2 d3
  have d1 := cut_one e1 d2
  have d0 := cut_one e0 d1
  exact ⟨⟨v0, v1, v2, v3, v4⟩, d0⟩
theorem open_Hart {n : Nat} {cs : List Value} {x : DataW H × List MemPlace} (h : DataW.trod enc Tryz.prog W base sp held n 85 cs = some x) : ∃ y : Hart, cs = encHart y := by
  obtain ⟨xs, m, _, _, hlen, hn, hf⟩ := DataW.trod_struct Tryz.underlying85 h
  rw [cO85] at hlen
  have hx : xs.length = 4 := hn
  have f0 : DataW.trod enc Tryz.prog W base sp held m 3 ((cs.drop 0).take (Tryz.prog.cellsOf 3)) = xs[0]? := hf 0 _ rfl
  rw [cO3, List.getElem?_eq_getElem (by omega)] at f0
  obtain ⟨v0, e0, _, _⟩ := DataW.trod_int Tryz.underlying3 f0
  have f1 : DataW.trod enc Tryz.prog W base sp held m 60 ((cs.drop 1).take (Tryz.prog.cellsOf 60)) = xs[1]? := hf 1 _ rfl
  rw [cO60, List.getElem?_eq_getElem (by omega)] at f1
  obtain ⟨v1, e1, _, _⟩ := DataW.trod_int Tryz.underlying60 f1
  have f2 : DataW.trod enc Tryz.prog W base sp held m 83 ((cs.drop 2).take (Tryz.prog.cellsOf 83)) = xs[2]? := hf 2 _ rfl
  rw [cO83, List.getElem?_eq_getElem (by omega)] at f2
  obtain ⟨v2, e2⟩ := open_regs f2
  have f3 : DataW.trod enc Tryz.prog W base sp held m 67 ((cs.drop 34).take (Tryz.prog.cellsOf 67)) = xs[3]? := hf 3 _ rfl
  rw [cO67, List.getElem?_eq_getElem (by omega)] at f3
  obtain ⟨v3, e3, _, _⟩ := DataW.trod_int Tryz.underlying67 f3
  have d4 : cs.drop 35 = [] := List.drop_eq_nil_of_le (by omega)
  have d3 := cut_one e3 d4
  have d2 := cut_one e2 d3
  have d1 := cut_one e1 d2
  have d0 := cut_one e0 d1
  exact ⟨⟨v0, v1, v2, v3⟩, d0⟩
end
section
variable {H : Type} {enc : TypeId × Value → H} {W : World}
theorem open_slT {α : Type} {encA : α → List Value} {size : Nat} {t e fuel : Nat} {cs : List Value} {x : DataW H × List MemPlace} (ht : Tryz.prog.underlying t = some (.slice e)) (hc : Tryz.prog.cellsOf e = size) (hs : 0 < size) (hz : ∀ x, (encA x).length = size)
    (h : DataW.trod enc Tryz.prog W 0 (fun _ => true) true fuel t cs = some x) (hel : ∀ n cs x, DataW.trod enc Tryz.prog W 0 (fun _ => true) true n e cs = some x → ∃ y : α, cs = encA y) :
    ∃ (p : Option Addr) (l : List α) (c : Nat), cs = [.slice p l.length c] ∧ l.length ≤ maxLen ∧ Rd (blocks W) encA p l := by
  rcases DataW.trod_slice ht h with ⟨rfl, _⟩ | ⟨a', len', cap', elems, rest, n, _, rfl, _, hb, hl, hm, hlen, hE, _, _⟩
  · exact ⟨none, [], 0, rfl, Nat.zero_le _, .emp _⟩
  · rw [hc] at hE
    obtain ⟨l, hll, hq⟩ := list_of len' (fun i (y : α) => ∀ j v, (encA y)[j]? = some v → W.cell? (a'.add (i * size + j)) = some v) (fun i hi => by
      have he := hE i hi
      rw [List.getElem?_eq_getElem (by omega)] at he
      cases hcc : W.cells? 0 (a'.add (i * size)) size with
      | none => simp [hcc] at he
      | some cs =>
        simp only [hcc, Option.bind_some] at he
        obtain ⟨y, rfl⟩ := hel _ _ _ he
        obtain ⟨_, h1, h2⟩ := World.cells?_some hcc
        refine ⟨y, fun j v hv => ?_⟩
        have hj : j < size := by rw [← h1]; exact (List.getElem?_eq_some_iff.1 hv).1
        have := h2 j hj
        rw [hv] at this
        rw [← this, addr_add_add])
    subst hll
    exact ⟨some a', l, cap', rfl, Nat.le_trans hl hm, rd_cells hz hs hq⟩
theorem open_ran {r : Reach} {b0 : Nat} {v : Value} {d : DataW H} {ps : List MemPlace} (hval : Value.okWide Tryz.prog W r b0 52 v) (hd : DataW.Trod enc Tryz.prog W 0 (fun _ => true) true 52 v d ps) :
    ∃ (pd ph pm : Option Addr) (ld : List Did) (lh : List Hart) (lm : List UInt8) (cd ch cm : Nat) (q : Bool), v = .agg (encRan ⟨.slice pd ld.length cd, .slice ph lh.length ch, .slice pm lm.length cm, q⟩).toArray ∧
      Rd (blocks W) encDid pd ld ∧ Rd (blocks W) encHart ph lh ∧ Rd (blocks W) encB pm lm ∧ ld.length ≤ maxLen ∧ lh.length ≤ maxLen ∧ lm.length ≤ maxLen := by
  obtain ⟨cs, rfl, _⟩ := okWide_struct Tryz.underlying52 hval
  obtain ⟨fuel, h⟩ := hd
  obtain ⟨xs, m, _, _, hlen, hn, hf⟩ := DataW.trod_struct Tryz.underlying52 h
  rw [cO52] at hlen
  have hlen2 : cs.toList.length = 4 := hlen
  have hx : xs.length = 4 := hn
  have f0 : DataW.trod enc Tryz.prog W 0 (fun _ => true) true m 22 ((cs.toList.drop 0).take (Tryz.prog.cellsOf 22)) = xs[0]? := hf 0 _ rfl
  have f1 : DataW.trod enc Tryz.prog W 0 (fun _ => true) true m 50 ((cs.toList.drop 1).take (Tryz.prog.cellsOf 50)) = xs[1]? := hf 1 _ rfl
  have f2 : DataW.trod enc Tryz.prog W 0 (fun _ => true) true m 35 ((cs.toList.drop 2).take (Tryz.prog.cellsOf 35)) = xs[2]? := hf 2 _ rfl
  have f3 : DataW.trod enc Tryz.prog W 0 (fun _ => true) true m 4 ((cs.toList.drop 3).take (Tryz.prog.cellsOf 4)) = xs[3]? := hf 3 _ rfl
  rw [cO22, List.getElem?_eq_getElem (by omega)] at f0
  rw [cO50, List.getElem?_eq_getElem (by omega)] at f1
  rw [cO35, List.getElem?_eq_getElem (by omega)] at f2
  rw [cO4, List.getElem?_eq_getElem (by omega)] at f3
  obtain ⟨pd, ld, cd, e0, g0, k0⟩ := open_slT (encA := encDid) (size := 20) Tryz.underlying22 cO73 (by decide) (fun _ => rfl) f0 (fun _ _ _ h => open_Did h)
  obtain ⟨ph, lh, ch, e1, g1, k1⟩ := open_slT (encA := encHart) (size := 35) Tryz.underlying50 cO85 (by decide) (fun _ => rfl) f1 (fun _ _ _ h => open_Hart h)
  obtain ⟨pm, lm, cm, e2, g2, k2⟩ := open_slT (encA := encB) (size := 1) Tryz.underlying35 cells1.1 (by decide) (fun _ => rfl) f2 (fun _ _ _ h => by obtain ⟨y, hy, _⟩ := open_byte h; exact ⟨y, hy⟩)
  obtain ⟨q, e3, _⟩ := DataW.trod_bool Tryz.underlying4 f3
  have d4 : cs.toList.drop 4 = [] := List.drop_eq_nil_of_le (by omega)
  have d3 := cut_one e3 d4
  have d2 := cut_one e2 d3
  have d1 := cut_one e1 d2
  have d0 := cut_one e0 d1
  refine ⟨pd, ph, pm, ld, lh, lm, cd, ch, cm, q, ?_, k0, k1, k2, g0, g1, g2⟩
  congr 1
  apply Array.ext'
  exact d0
end

end Go.Proofs.YtkfkfpgnapncaaaGreatDoor
