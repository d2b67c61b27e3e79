import Derived.Test.YtkfkfpgnapncaaaGreatDoorScG2
import Derived.Test.YtkfkfpgnapncaaaGreatDoorScE
set_option linter.unusedSimpArgs false
set_option linter.unusedVariables false
namespace Go.SL
open Go Go.RowKit Go.Proofs
open Go.EV (AggOK eqA spA)
set_option maxRecDepth 100000
set_option linter.unusedVariables false
set_option linter.unusedSimpArgs false


theorem Sl.le {α : Type} {enc : α → List Value} {size et : Nat} {p : Option Addr} {c : Nat} {l : List α} {s : HL} (h : Sl et size enc p c l s) : l.length ≤ c := by
  cases h with
  | nil => exact Nat.le_refl _
  | row b sp c l hc hs => exact hc
theorem rawR_le (l : List Choice) : (rawR l).length ≤ 2 * l.length := by
  unfold rawR
  split
  · rw [rawC_len]; exact Nat.le_refl _
  · simp

theorem reads_c {z w : World} {L : HL} {p : Option Addr} {c : Nat} {l : List UInt8} {et : TypeId} (hl : Rd L encB p l) (hc : l.length ≤ c) (h0 : (0, Obj.cells spA et (0, 0)) ∈ L) (hw : Own z w [L]) :
    Ret Tryz.prog 6 #[.slice p l.length c] w (fun v w' => v = .bool true ∧ Own z w' [L]) := by
  refine enterE Tryz.ntmps6 Tryz.func6 (args := [.slice p l.length c]) ?_
  refine cSeq ?_
  refine cReg 1 ?_
  refine SP tyOK 0 1 0 [0] (env' := [(0, .slice p l.length c)]) ?_
  refine sEnd ?_
  refine qThen ?_
  refine cSeq ?_
  refine cSeq ?_
  refine cReg 3 ?_
  refine SP tyOK 0 3 0 [0, 5] (env' := [(0, .slice p l.length c), (5, .bool (decide (((l.length : Nat) : Int) > 3000)))]) ?_
  refine sEnd ?_
  refine qThen ?_
  refine two (decide (((l.length : Nat) : Int) > 3000)) (fun hb1 => ?_) (fun hb1 => ?_)
  ·
    have hb1p : ((l.length : Nat) : Int) > 3000 := of_decide_eq_true hb1
    refine setC 5 (.bool true) (congrArg Value.bool hb1) ?_
    refine cT ?_
    refine cSeq ?_
    refine cReg 2 ?_
    refine SO ?_
    refine O_call (args := #[]) Tryz.call15 (works_c (L := ([L] : List HL).flatten) (et := et) (by simp [h0]) (hw.cut [0] 0 rfl)) ?_
    clear hw; rintro v w ⟨rfl, hw⟩
    replace hw : Own z w [L] := Own.open_ (ss := []) hw
    refine SP tyOK 0 1 1 [2] (env' := [(2, .bool true)]) ?_
    refine sEnd ?_
    refine qThen ?_
    refine cRet ?_
    refine qThenR ?_
    refine qRet (rs := [.tmp 2]) [.bool true] (.bool true) ⟨rT, trivial⟩ ?_
    exact ⟨by rfl, hw⟩
  ·
    have hb1p : ¬ (((l.length : Nat) : Int) > 3000) := of_decide_eq_false hb1
    refine setC 5 (.bool false) (congrArg Value.bool hb1) ?_
    refine cF ?_
    refine cSkip ?_
    refine qThen ?_
    refine cSeq ?_
    have hk2 : (decide ((chs l) = (chs l))) = true := by simp
    refine cReg 9 ?_
    refine SP tyOK 8 1 0 [0, 7] (env' := [(0, .slice p l.length c), (7, .slice p l.length c)]) ?_
    refine SO ?_
    refine O_call (args := #[.slice p l.length c]) Tryz.call16 (choices_c (L := ([L] : List HL).flatten) (p := p) (c := c) (l := l) (by first | omega | (simp only [chs_len]; omega) | (have := rawR_le l; omega) | (have := rawR_le (chs l); simp only [chs_len] at this; omega) | (have := rawR_le (chs l1); simp only [chs_len] at this; omega)) hc (Rd.mono hl (fun x h => by simp [h])) (hw.cut [0] 0 rfl)) ?_
    clear hw; rintro v w ⟨p3, c4, s5, rfl, hs6, hw⟩
    replace hw : Own z w [s5, L] := Own.open_ (ss := [s5]) hw
    refine SP tyOK 6 1 2 [8, 9] (env' := [(8, .slice p3 ((chs l).length) c4), (9, .slice p l.length c)]) ?_
    refine SO ?_
    refine O_call (args := #[.slice p l.length c]) Tryz.call20 (rchoices_c (L := ([s5, L] : List HL).flatten) (p := p) (c := c) (l := l) (Rd.mono hl (fun x h => by simp [h])) (by first | omega | (simp only [chs_len]; omega) | (have := rawR_le l; omega) | (have := rawR_le (chs l); simp only [chs_len] at this; omega) | (have := rawR_le (chs l1); simp only [chs_len] at this; omega)) (hw.cut [0, 1] 0 rfl)) ?_
    clear hw; rintro v w ⟨p7, c8, s9, rfl, hs10, hw⟩
    replace hw : Own z w [s9, s5, L] := Own.open_ (ss := [s9]) hw
    refine SO ?_
    refine O_call (args := #[.slice p3 ((chs l).length) c4, .slice p7 ((chs l).length) c8]) Tryz.call19 (rsame_c (L := ([s9, s5, L] : List HL).flatten) (pa := p3) (ca := c4) (la := (chs l)) (pb := p7) (cb := c8) (lb := (chs l)) (Rd.mono (Rd.of_sl hs6) (fun x h => by simp [h])) (Rd.mono (Rd.of_sl hs10) (fun x h => by simp [h])) (by first | omega | (simp only [chs_len]; omega) | (have := rawR_le l; omega) | (have := rawR_le (chs l); simp only [chs_len] at this; omega) | (have := rawR_le (chs l1); simp only [chs_len] at this; omega)) (by first | omega | (simp only [chs_len]; omega) | (have := rawR_le l; omega) | (have := rawR_le (chs l); simp only [chs_len] at this; omega) | (have := rawR_le (chs l1); simp only [chs_len] at this; omega)) (hw.cut [0, 1, 2] 0 rfl)) ?_
    clear hw; rintro v w ⟨rfl, hw⟩
    replace hw : Own z w [s9, s5, L] := Own.open_ (ss := []) hw
    refine SP tyOK 3 1 5 [12] (env' := [(12, .bool (decide ((chs l) = (chs l))))]) ?_
    refine setS 12 (.bool true) (congrArg Value.bool hk2) ?_
    refine SO ?_
    refine O_call (args := #[]) Tryz.call15 (works_c (L := ([s9, s5, L] : List HL).flatten) (et := et) (by simp [h0]) (hw.cut [0, 1, 2] 0 rfl)) ?_
    clear hw; rintro v w ⟨rfl, hw⟩
    replace hw : Own z w [s9, s5, L] := Own.open_ (ss := []) hw
    refine SP tyOK 0 2 7 [2] (env' := [(2, .bool true)]) ?_
    refine sEnd ?_
    refine qThen ?_
    refine cRet ?_
    refine qRet (rs := [.tmp 2]) [.bool true] (.bool true) ⟨rT, trivial⟩ ?_
    exact ⟨by rfl, ((hw.pick [2, 0, 1] rfl).take 1)⟩

end Go.SL