import Derived.Test.YtkfkfpgnapncaaaGreatDoorScG
set_option linter.unusedSimpArgs false
set_option linter.unusedVariables false
namespace Go.SL
open Go Go.RowKit Go.Proofs
open Go.EV (AggOK eqA spA)
set_option maxRecDepth 100000
set_option linter.unusedVariables false
set_option linter.unusedSimpArgs false

theorem back_yes {z w : World} {L : HL} {p p1 : Option Addr} {c c1 : Nat} {l : List Choice} {l1 : List UInt8} {et : TypeId} (hk : l.all okC = true) (hl : Rd L encChoice p l) (hl1 : Rd L encB p1 l1) (hc1 : l1.length ≤ c1) (h0 : (0, Obj.cells spA et (0, 0)) ∈ L) (hw : Own z w [L]) :
    Ret Tryz.prog 5 #[.slice p l.length c, .slice p1 l1.length c1] w (fun v w' => v = .bool true ∧ Own z w' [L]) := by
  refine enterE Tryz.ntmps5 Tryz.func5 (args := [.slice p l.length c, .slice p1 l1.length c1]) ?_
  refine cSeq ?_
  refine cReg 1 ?_
  refine SP tyOK 0 1 0 [0, 1] (env' := [(0, .slice p l.length c), (1, .slice p1 l1.length c1)]) ?_
  refine sEnd ?_
  refine qThen ?_
  refine cSeq ?_
  refine cSeq ?_
  refine cReg 8 ?_
  refine SP tyOK 4 4 0 [0, 1, 13] (env' := [(0, .slice p l.length c), (1, .slice p1 l1.length c1), (13, .bool (decide (((l.length : Nat) : Int) > 1000)))]) ?_
  refine two (decide (((l.length : Nat) : Int) > 1000)) (fun hb1 => ?_) (fun hb1 => ?_)
  ·
    have hb1p : ((l.length : Nat) : Int) > 1000 := of_decide_eq_true hb1
    refine setS 13 (.bool true) (congrArg Value.bool hb1) ?_
    refine SP tyOK 0 4 4 [0, 1, 17] (env' := [(0, .slice p l.length c), (1, .slice p1 l1.length c1), (17, .bool true)]) ?_
    refine sEnd ?_
    refine qThen ?_
    refine cT ?_
    refine cSeq ?_
    refine cReg 2 ?_
    refine SO ?_
    refine O_call (args := #[]) Tryz.call15 (works_c (L := ([L] : List HL).flatten) (et := et) (by simp [h0]) (hw.cut [0] 0 rfl)) ?_
    clear hw; rintro v w ⟨rfl, hw⟩
    replace hw : Own z w [L] := Own.open_ (ss := []) hw
    refine SP tyOK 0 1 1 [4] (env' := [(4, .bool true)]) ?_
    refine sEnd ?_
    refine qThen ?_
    refine cRet ?_
    refine qThenR ?_
    refine qRet (rs := [.tmp 4]) [.bool true] (.bool true) ⟨rT, trivial⟩ ?_
    exact ⟨by rfl, hw⟩
  ·
    have hb1p : ¬ (((l.length : Nat) : Int) > 1000) := of_decide_eq_false hb1
    refine setS 13 (.bool false) (congrArg Value.bool hb1) ?_
    refine SP tyOK 0 4 4 [0, 1, 17] (env' := [(0, .slice p l.length c), (1, .slice p1 l1.length c1), (17, .bool (decide (((l1.length : Nat) : Int) > 3000)))]) ?_
    refine sEnd ?_
    refine qThen ?_
    refine two (decide (((l1.length : Nat) : Int) > 3000)) (fun hb2 => ?_) (fun hb2 => ?_)
    ·
      have hb2p : ((l1.length : Nat) : Int) > 3000 := of_decide_eq_true hb2
      refine setC 17 (.bool true) (congrArg Value.bool hb2) ?_
      refine cT ?_
      refine cSeq ?_
      refine cReg 2 ?_
      refine SO ?_
      refine O_call (args := #[]) Tryz.call15 (works_c (L := ([L] : List HL).flatten) (et := et) (by simp [h0]) (hw.cut [0] 0 rfl)) ?_
      clear hw; rintro v w ⟨rfl, hw⟩
      replace hw : Own z w [L] := Own.open_ (ss := []) hw
      refine SP tyOK 0 1 1 [4] (env' := [(4, .bool true)]) ?_
      refine sEnd ?_
      refine qThen ?_
      refine cRet ?_
      refine qThenR ?_
      refine qRet (rs := [.tmp 4]) [.bool true] (.bool true) ⟨rT, trivial⟩ ?_
      exact ⟨by rfl, hw⟩
    ·
      have hb2p : ¬ (((l1.length : Nat) : Int) > 3000) := of_decide_eq_false hb2
      refine setC 17 (.bool false) (congrArg Value.bool hb2) ?_
      refine cF ?_
      refine cSkip ?_
      refine qThen ?_
      refine cSeq ?_
      refine cReg 7 ?_
      refine SP tyOK 6 1 0 [0, 1, 20] (env' := [(0, .slice p l.length c), (1, .slice p1 l1.length c1), (20, .slice p l.length c)]) ?_
      refine SO ?_
      refine O_call (args := #[.slice p l.length c]) Tryz.call17 (raw_c (L := ([L] : List HL).flatten) (p := p) (c := c) (l := l) (Rd.mono hl (fun x h => by simp [h])) (by have q1 := rawR_le l; have q2 := rawR_le (chs l1); simp only [chs_len] at q2; (try simp only [chs_len]); omega) (hw.cut [0] 0 rfl)) ?_
      clear hw; rintro v w ⟨p3, c4, s5, rfl, hs6, hw⟩
      replace hw : Own z w [s5, L] := Own.open_ (ss := [s5]) hw
      refine SP tyOK 0 5 2 [0, 1, 5, 6] (env' := [(0, .slice p l.length c), (1, .slice p1 l1.length c1), (5, .slice p3 ((rawR l).length) c4), (6, .int .i64 (errR l))]) ?_
      refine sEnd ?_
      refine qThen ?_
      refine cSeq ?_
      refine cSeq ?_
      have hk7 : ((errR l) == 0) = true := by simp [errR, hk]
      have hk8 : (!(decide ((chs (rawR l)) = l))) = false := by simp [rawR, hk, chs_raw hk]
      have hk9 : ((((rawR l).length : Nat) : Int) != ((2 * l.length : Nat) : Int)) = false := by simp [rawR, hk, rawC_len]
      refine cReg 18 ?_
      refine SP tyOK 17 1 0 [0, 1, 5, 6, 24] (env' := [(0, .slice p l.length c), (1, .slice p1 l1.length c1), (5, .slice p3 ((rawR l).length) c4), (6, .int .i64 (errR l)), (24, .int .i64 (errR l))]) ?_
      refine SO ?_
      refine O_call (args := #[.int .i64 (errR l)]) Tryz.call21 (num_c (n := errR l) (hw.cut [0, 1] 0 rfl) ) ?_
      clear hw; rintro v w ⟨rfl, hw⟩
      replace hw : Own z w [s5, L] := Own.open_ (ss := []) hw
      refine SP tyOK 14 2 2 [0, 1, 5, 6, 27] (env' := [(0, .slice p l.length c), (1, .slice p1 l1.length c1), (5, .slice p3 ((rawR l).length) c4), (6, .int .i64 (errR l)), (27, .bool ((errR l) == 0))]) ?_
      refine setS 27 (.bool true) (congrArg Value.bool hk7) ?_
      refine SP tyOK 13 1 4 [0, 1, 5, 6, 27, 28] (env' := [(0, .slice p l.length c), (1, .slice p1 l1.length c1), (5, .slice p3 ((rawR l).length) c4), (6, .int .i64 (errR l)), (27, .bool true), (28, .slice p3 ((rawR l).length) c4)]) ?_
      refine SO ?_
      refine O_call (args := #[.slice p3 ((rawR l).length) c4]) Tryz.call16 (choices_c (L := ([s5, L] : List HL).flatten) (p := p3) (c := c4) (l := (rawR l)) (by have q1 := rawR_le l; have q2 := rawR_le (chs l1); simp only [chs_len] at q2; (try simp only [chs_len]); omega) (Sl.le hs6) (Rd.mono (Rd.of_sl hs6) (fun x h => by simp [h])) (hw.cut [0, 1] 0 rfl)) ?_
      clear hw; rintro v w ⟨p10, c11, s12, rfl, hs13, hw⟩
      replace hw : Own z w [s12, s5, L] := Own.open_ (ss := [s12]) hw
      refine SP tyOK 11 1 6 [0, 1, 5, 6, 27, 29, 30] (env' := [(0, .slice p l.length c), (1, .slice p1 l1.length c1), (5, .slice p3 ((rawR l).length) c4), (6, .int .i64 (errR l)), (27, .bool true), (29, .slice p10 ((chs (rawR l)).length) c11), (30, .slice p l.length c)]) ?_
      refine SO ?_
      refine O_call (args := #[.slice p10 ((chs (rawR l)).length) c11, .slice p l.length c]) Tryz.call19 (rsame_c (L := ([s12, s5, L] : List HL).flatten) (pa := p10) (ca := c11) (la := (chs (rawR l))) (pb := p) (cb := c) (lb := l) (Rd.mono (Rd.of_sl hs13) (fun x h => by simp [h])) (Rd.mono hl (fun x h => by simp [h])) (by have q1 := rawR_le l; have q2 := rawR_le (chs l1); simp only [chs_len] at q2; (try simp only [chs_len]); omega) (by have q1 := rawR_le l; have q2 := rawR_le (chs l1); simp only [chs_len] at q2; (try simp only [chs_len]); omega) (hw.cut [0, 1, 2] 0 rfl)) ?_
      clear hw; rintro v w ⟨rfl, hw⟩
      replace hw : Own z w [s12, s5, L] := Own.open_ (ss := []) hw
      refine SP tyOK 8 2 8 [0, 1, 5, 6, 27, 33] (env' := [(0, .slice p l.length c), (1, .slice p1 l1.length c1), (5, .slice p3 ((rawR l).length) c4), (6, .int .i64 (errR l)), (27, .bool true), (33, .bool (!(decide ((chs (rawR l)) = l))))]) ?_
      refine setS 33 (.bool false) (congrArg Value.bool hk8) ?_
      refine SP tyOK 3 5 10 [1, 5, 6, 27, 33, 35, 38] (env' := [(1, .slice p1 l1.length c1), (5, .slice p3 ((rawR l).length) c4), (6, .int .i64 (errR l)), (27, .bool true), (33, .bool false), (35, .int .i64 (((rawR l).length : Nat) : Int)), (38, .int .i64 (IntKind.i64.wrap (2 * ((l.length : Nat) : Int))))]) ?_
      refine setS 38 (.int .i64 ((2 * l.length : Nat) : Int)) (nat_dbl (by omega)) ?_
      refine SP tyOK 0 3 15 [1, 5, 6, 41] (env' := [(1, .slice p1 l1.length c1), (5, .slice p3 ((rawR l).length) c4), (6, .int .i64 (errR l)), (41, .bool ((((rawR l).length : Nat) : Int) != ((2 * l.length : Nat) : Int)))]) ?_
      refine sEnd ?_
      refine qThen ?_
      refine setC 41 (.bool false) (congrArg Value.bool hk9) ?_
      refine cF ?_
      refine cSkip ?_
      refine qThen ?_
      refine cSeq ?_
      refine cReg 3 ?_
      refine SP tyOK 2 1 0 [5, 6, 42] (env' := [(5, .slice p3 ((rawR l).length) c4), (6, .int .i64 (errR l)), (42, .slice p1 l1.length c1)]) ?_
      refine SO ?_
      refine O_call (args := #[.slice p1 l1.length c1]) Tryz.call16 (choices_c (L := ([s12, s5, L] : List HL).flatten) (p := p1) (c := c1) (l := l1) (by have q1 := rawR_le l; have q2 := rawR_le (chs l1); simp only [chs_len] at q2; (try simp only [chs_len]); omega) hc1 (Rd.mono hl1 (fun x h => by simp [h])) (hw.cut [0, 1, 2] 0 rfl)) ?_
      clear hw; rintro v w ⟨p14, c15, s16, rfl, hs17, hw⟩
      replace hw : Own z w [s16, s12, s5, L] := Own.open_ (ss := [s16]) hw
      refine SP tyOK 0 1 2 [5, 6, 7] (env' := [(5, .slice p3 ((rawR l).length) c4), (6, .int .i64 (errR l)), (7, .slice p14 ((chs l1).length) c15)]) ?_
      refine sEnd ?_
      refine qThen ?_
      refine cSeq ?_
      refine cReg 7 ?_
      refine SP tyOK 6 1 0 [5, 6, 7, 45] (env' := [(5, .slice p3 ((rawR l).length) c4), (6, .int .i64 (errR l)), (7, .slice p14 ((chs l1).length) c15), (45, .slice p14 ((chs l1).length) c15)]) ?_
      refine SO ?_
      refine O_call (args := #[.slice p14 ((chs l1).length) c15]) Tryz.call17 (raw_c (L := ([s16, s12, s5, L] : List HL).flatten) (p := p14) (c := c15) (l := (chs l1)) (Rd.mono (Rd.of_sl hs17) (fun x h => by simp [h])) (by have q1 := rawR_le l; have q2 := rawR_le (chs l1); simp only [chs_len] at q2; (try simp only [chs_len]); omega) (hw.cut [0, 1, 2, 3] 0 rfl)) ?_
      clear hw; rintro v w ⟨p18, c19, s20, rfl, hs21, hw⟩
      replace hw : Own z w [s20, s16, s12, s5, L] := Own.open_ (ss := [s20]) hw
      refine SP tyOK 0 5 2 [5, 6, 7, 8, 9] (env' := [(5, .slice p3 ((rawR l).length) c4), (6, .int .i64 (errR l)), (7, .slice p14 ((chs l1).length) c15), (8, .slice p18 ((rawR (chs l1)).length) c19), (9, .int .i64 (errR (chs l1)))]) ?_
      refine sEnd ?_
      refine qThen ?_
      refine cSeq ?_
      have hk22 : ((errR (chs l1)) == 0) = true := by simp [errR, chs_ok]
      have hk23 : (decide ((chs (rawR (chs l1))) = (chs l1))) = true := by simp [rawR, chs_ok, chs_raw (chs_ok l1)]
      refine cReg 23 ?_
      refine SP tyOK 22 1 0 [5, 7, 8, 9, 49] (env' := [(5, .slice p3 ((rawR l).length) c4), (7, .slice p14 ((chs l1).length) c15), (8, .slice p18 ((rawR (chs l1)).length) c19), (9, .int .i64 (errR (chs l1))), (49, .int .i64 (errR l))]) ?_
      refine SO ?_
      refine O_call (args := #[.int .i64 (errR l)]) Tryz.call21 (num_c (n := errR l) (hw.cut [0, 1, 2, 3, 4] 0 rfl) ) ?_
      clear hw; rintro v w ⟨rfl, hw⟩
      replace hw : Own z w [s20, s16, s12, s5, L] := Own.open_ (ss := []) hw
      refine SP tyOK 19 2 2 [5, 7, 8, 9, 52] (env' := [(5, .slice p3 ((rawR l).length) c4), (7, .slice p14 ((chs l1).length) c15), (8, .slice p18 ((rawR (chs l1)).length) c19), (9, .int .i64 (errR (chs l1))), (52, .bool ((errR l) == 0))]) ?_
      refine setS 52 (.bool true) (congrArg Value.bool hk7) ?_
      refine SP tyOK 13 6 4 [7, 8, 57, 58] (env' := [(7, .slice p14 ((chs l1).length) c15), (8, .slice p18 ((rawR (chs l1)).length) c19), (57, .bool true), (58, .int .i64 (errR (chs l1)))]) ?_
      refine SO ?_
      refine O_call (args := #[.int .i64 (errR (chs l1))]) Tryz.call21 (num_c (n := errR (chs l1)) (hw.cut [0, 1, 2, 3, 4] 0 rfl) ) ?_
      clear hw; rintro v w ⟨rfl, hw⟩
      replace hw : Own z w [s20, s16, s12, s5, L] := Own.open_ (ss := []) hw
      refine SP tyOK 9 3 11 [7, 8, 62] (env' := [(7, .slice p14 ((chs l1).length) c15), (8, .slice p18 ((rawR (chs l1)).length) c19), (62, .bool ((errR (chs l1)) == 0))]) ?_
      refine setS 62 (.bool true) (congrArg Value.bool hk22) ?_
      refine SP tyOK 8 1 14 [7, 62, 63] (env' := [(7, .slice p14 ((chs l1).length) c15), (62, .bool true), (63, .slice p18 ((rawR (chs l1)).length) c19)]) ?_
      refine SO ?_
      refine O_call (args := #[.slice p18 ((rawR (chs l1)).length) c19]) Tryz.call16 (choices_c (L := ([s20, s16, s12, s5, L] : List HL).flatten) (p := p18) (c := c19) (l := (rawR (chs l1))) (by have q1 := rawR_le l; have q2 := rawR_le (chs l1); simp only [chs_len] at q2; (try simp only [chs_len]); omega) (Sl.le hs21) (Rd.mono (Rd.of_sl hs21) (fun x h => by simp [h])) (hw.cut [0, 1, 2, 3, 4] 0 rfl)) ?_
      clear hw; rintro v w ⟨p24, c25, s26, rfl, hs27, hw⟩
      replace hw : Own z w [s26, s20, s16, s12, s5, L] := Own.open_ (ss := [s26]) hw
      refine SP tyOK 6 1 16 [62, 64, 65] (env' := [(62, .bool true), (64, .slice p24 ((chs (rawR (chs l1))).length) c25), (65, .slice p14 ((chs l1).length) c15)]) ?_
      refine SO ?_
      refine O_call (args := #[.slice p24 ((chs (rawR (chs l1))).length) c25, .slice p14 ((chs l1).length) c15]) Tryz.call19 (rsame_c (L := ([s26, s20, s16, s12, s5, L] : List HL).flatten) (pa := p24) (ca := c25) (la := (chs (rawR (chs l1)))) (pb := p14) (cb := c15) (lb := (chs l1)) (Rd.mono (Rd.of_sl hs27) (fun x h => by simp [h])) (Rd.mono (Rd.of_sl hs17) (fun x h => by simp [h])) (by have q1 := rawR_le l; have q2 := rawR_le (chs l1); simp only [chs_len] at q2; (try simp only [chs_len]); omega) (by have q1 := rawR_le l; have q2 := rawR_le (chs l1); simp only [chs_len] at q2; (try simp only [chs_len]); omega) (hw.cut [0, 1, 2, 3, 4, 5] 0 rfl)) ?_
      clear hw; rintro v w ⟨rfl, hw⟩
      replace hw : Own z w [s26, s20, s16, s12, s5, L] := Own.open_ (ss := []) hw
      refine SP tyOK 3 2 18 [68] (env' := [(68, .bool (decide ((chs (rawR (chs l1))) = (chs l1))))]) ?_
      refine setS 68 (.bool true) (congrArg Value.bool hk23) ?_
      refine SO ?_
      refine O_call (args := #[]) Tryz.call15 (works_c (L := ([s26, s20, s16, s12, s5, L] : List HL).flatten) (et := et) (by simp [h0]) (hw.cut [0, 1, 2, 3, 4, 5] 0 rfl)) ?_
      clear hw; rintro v w ⟨rfl, hw⟩
      replace hw : Own z w [s26, s20, s16, s12, s5, L] := Own.open_ (ss := []) hw
      refine SP tyOK 0 2 21 [4] (env' := [(4, .bool true)]) ?_
      refine sEnd ?_
      refine qThen ?_
      refine cRet ?_
      refine qRet (rs := [.tmp 4]) [.bool true] (.bool true) ⟨rT, trivial⟩ ?_
      exact ⟨by rfl, ((hw.pick [5, 0, 1, 2, 3, 4] rfl).take 1)⟩

theorem back_no {z w : World} {L : HL} {p p1 : Option Addr} {c c1 : Nat} {l : List Choice} {l1 : List UInt8} {et : TypeId} (hk : l.all okC = false) (hl : Rd L encChoice p l) (hl1 : Rd L encB p1 l1) (hc1 : l1.length ≤ c1) (h0 : (0, Obj.cells spA et (0, 0)) ∈ L) (hw : Own z w [L]) :
    Ret Tryz.prog 5 #[.slice p l.length c, .slice p1 l1.length c1] w (fun v w' => v = .bool true ∧ Own z w' [L]) := by
  refine enterE Tryz.ntmps5 Tryz.func5 (args := [.slice p l.length c, .slice p1 l1.length c1]) ?_
  refine cSeq ?_
  refine cReg 1 ?_
  refine SP tyOK 0 1 0 [0, 1] (env' := [(0, .slice p l.length c), (1, .slice p1 l1.length c1)]) ?_
  refine sEnd ?_
  refine qThen ?_
  refine cSeq ?_
  refine cSeq ?_
  refine cReg 8 ?_
  refine SP tyOK 4 4 0 [0, 1, 13] (env' := [(0, .slice p l.length c), (1, .slice p1 l1.length c1), (13, .bool (decide (((l.length : Nat) : Int) > 1000)))]) ?_
  refine two (decide (((l.length : Nat) : Int) > 1000)) (fun hb1 => ?_) (fun hb1 => ?_)
  ·
    have hb1p : ((l.length : Nat) : Int) > 1000 := of_decide_eq_true hb1
    refine setS 13 (.bool true) (congrArg Value.bool hb1) ?_
    refine SP tyOK 0 4 4 [0, 1, 17] (env' := [(0, .slice p l.length c), (1, .slice p1 l1.length c1), (17, .bool true)]) ?_
    refine sEnd ?_
    refine qThen ?_
    refine cT ?_
    refine cSeq ?_
    refine cReg 2 ?_
    refine SO ?_
    refine O_call (args := #[]) Tryz.call15 (works_c (L := ([L] : List HL).flatten) (et := et) (by simp [h0]) (hw.cut [0] 0 rfl)) ?_
    clear hw; rintro v w ⟨rfl, hw⟩
    replace hw : Own z w [L] := Own.open_ (ss := []) hw
    refine SP tyOK 0 1 1 [4] (env' := [(4, .bool true)]) ?_
    refine sEnd ?_
    refine qThen ?_
    refine cRet ?_
    refine qThenR ?_
    refine qRet (rs := [.tmp 4]) [.bool true] (.bool true) ⟨rT, trivial⟩ ?_
    exact ⟨by rfl, hw⟩
  ·
    have hb1p : ¬ (((l.length : Nat) : Int) > 1000) := of_decide_eq_false hb1
    refine setS 13 (.bool false) (congrArg Value.bool hb1) ?_
    refine SP tyOK 0 4 4 [0, 1, 17] (env' := [(0, .slice p l.length c), (1, .slice p1 l1.length c1), (17, .bool (decide (((l1.length : Nat) : Int) > 3000)))]) ?_
    refine sEnd ?_
    refine qThen ?_
    refine two (decide (((l1.length : Nat) : Int) > 3000)) (fun hb2 => ?_) (fun hb2 => ?_)
    ·
      have hb2p : ((l1.length : Nat) : Int) > 3000 := of_decide_eq_true hb2
      refine setC 17 (.bool true) (congrArg Value.bool hb2) ?_
      refine cT ?_
      refine cSeq ?_
      refine cReg 2 ?_
      refine SO ?_
      refine O_call (args := #[]) Tryz.call15 (works_c (L := ([L] : List HL).flatten) (et := et) (by simp [h0]) (hw.cut [0] 0 rfl)) ?_
      clear hw; rintro v w ⟨rfl, hw⟩
      replace hw : Own z w [L] := Own.open_ (ss := []) hw
      refine SP tyOK 0 1 1 [4] (env' := [(4, .bool true)]) ?_
      refine sEnd ?_
      refine qThen ?_
      refine cRet ?_
      refine qThenR ?_
      refine qRet (rs := [.tmp 4]) [.bool true] (.bool true) ⟨rT, trivial⟩ ?_
      exact ⟨by rfl, hw⟩
    ·
      have hb2p : ¬ (((l1.length : Nat) : Int) > 3000) := of_decide_eq_false hb2
      refine setC 17 (.bool false) (congrArg Value.bool hb2) ?_
      refine cF ?_
      refine cSkip ?_
      refine qThen ?_
      refine cSeq ?_
      refine cReg 7 ?_
      refine SP tyOK 6 1 0 [0, 1, 20] (env' := [(0, .slice p l.length c), (1, .slice p1 l1.length c1), (20, .slice p l.length c)]) ?_
      refine SO ?_
      refine O_call (args := #[.slice p l.length c]) Tryz.call17 (raw_c (L := ([L] : List HL).flatten) (p := p) (c := c) (l := l) (Rd.mono hl (fun x h => by simp [h])) (by have q1 := rawR_le l; have q2 := rawR_le (chs l1); simp only [chs_len] at q2; (try simp only [chs_len]); omega) (hw.cut [0] 0 rfl)) ?_
      clear hw; rintro v w ⟨p3, c4, s5, rfl, hs6, hw⟩
      replace hw : Own z w [s5, L] := Own.open_ (ss := [s5]) hw
      refine SP tyOK 0 5 2 [0, 1, 5, 6] (env' := [(0, .slice p l.length c), (1, .slice p1 l1.length c1), (5, .slice p3 ((rawR l).length) c4), (6, .int .i64 (errR l))]) ?_
      refine sEnd ?_
      refine qThen ?_
      refine cSeq ?_
      refine cSeq ?_
      have hk7 : ((errR l) == 0) = false := by simp [errR, hk]
      refine cReg 18 ?_
      refine SP tyOK 17 1 0 [0, 1, 5, 6, 24] (env' := [(0, .slice p l.length c), (1, .slice p1 l1.length c1), (5, .slice p3 ((rawR l).length) c4), (6, .int .i64 (errR l)), (24, .int .i64 (errR l))]) ?_
      refine SO ?_
      refine O_call (args := #[.int .i64 (errR l)]) Tryz.call21 (num_c (n := errR l) (hw.cut [0, 1] 0 rfl) ) ?_
      clear hw; rintro v w ⟨rfl, hw⟩
      replace hw : Own z w [s5, L] := Own.open_ (ss := []) hw
      refine SP tyOK 14 2 2 [0, 1, 5, 6, 27] (env' := [(0, .slice p l.length c), (1, .slice p1 l1.length c1), (5, .slice p3 ((rawR l).length) c4), (6, .int .i64 (errR l)), (27, .bool ((errR l) == 0))]) ?_
      refine setS 27 (.bool false) (congrArg Value.bool hk7) ?_
      refine SP tyOK 0 14 4 [1, 5, 6, 41] (env' := [(1, .slice p1 l1.length c1), (5, .slice p3 ((rawR l).length) c4), (6, .int .i64 (errR l)), (41, .bool false)]) ?_
      refine sEnd ?_
      refine qThen ?_
      refine cF ?_
      refine cSkip ?_
      refine qThen ?_
      refine cSeq ?_
      refine cReg 3 ?_
      refine SP tyOK 2 1 0 [5, 6, 42] (env' := [(5, .slice p3 ((rawR l).length) c4), (6, .int .i64 (errR l)), (42, .slice p1 l1.length c1)]) ?_
      refine SO ?_
      refine O_call (args := #[.slice p1 l1.length c1]) Tryz.call16 (choices_c (L := ([s5, L] : List HL).flatten) (p := p1) (c := c1) (l := l1) (by have q1 := rawR_le l; have q2 := rawR_le (chs l1); simp only [chs_len] at q2; (try simp only [chs_len]); omega) hc1 (Rd.mono hl1 (fun x h => by simp [h])) (hw.cut [0, 1] 0 rfl)) ?_
      clear hw; rintro v w ⟨p8, c9, s10, rfl, hs11, hw⟩
      replace hw : Own z w [s10, s5, L] := Own.open_ (ss := [s10]) hw
      refine SP tyOK 0 1 2 [5, 6, 7] (env' := [(5, .slice p3 ((rawR l).length) c4), (6, .int .i64 (errR l)), (7, .slice p8 ((chs l1).length) c9)]) ?_
      refine sEnd ?_
      refine qThen ?_
      refine cSeq ?_
      refine cReg 7 ?_
      refine SP tyOK 6 1 0 [5, 6, 7, 45] (env' := [(5, .slice p3 ((rawR l).length) c4), (6, .int .i64 (errR l)), (7, .slice p8 ((chs l1).length) c9), (45, .slice p8 ((chs l1).length) c9)]) ?_
      refine SO ?_
      refine O_call (args := #[.slice p8 ((chs l1).length) c9]) Tryz.call17 (raw_c (L := ([s10, s5, L] : List HL).flatten) (p := p8) (c := c9) (l := (chs l1)) (Rd.mono (Rd.of_sl hs11) (fun x h => by simp [h])) (by have q1 := rawR_le l; have q2 := rawR_le (chs l1); simp only [chs_len] at q2; (try simp only [chs_len]); omega) (hw.cut [0, 1, 2] 0 rfl)) ?_
      clear hw; rintro v w ⟨p12, c13, s14, rfl, hs15, hw⟩
      replace hw : Own z w [s14, s10, s5, L] := Own.open_ (ss := [s14]) hw
      refine SP tyOK 0 5 2 [5, 6, 7, 8, 9] (env' := [(5, .slice p3 ((rawR l).length) c4), (6, .int .i64 (errR l)), (7, .slice p8 ((chs l1).length) c9), (8, .slice p12 ((rawR (chs l1)).length) c13), (9, .int .i64 (errR (chs l1)))]) ?_
      refine sEnd ?_
      refine qThen ?_
      refine cSeq ?_
      have hk16 : ((errR (chs l1)) == 0) = true := by simp [errR, chs_ok]
      have hk17 : (decide ((chs (rawR (chs l1))) = (chs l1))) = true := by simp [rawR, chs_ok, chs_raw (chs_ok l1)]
      have hk18 : ((((rawR l).length : Nat) : Int) == 0) = true := by simp [rawR, hk]
      refine cReg 23 ?_
      refine SP tyOK 22 1 0 [5, 7, 8, 9, 49] (env' := [(5, .slice p3 ((rawR l).length) c4), (7, .slice p8 ((chs l1).length) c9), (8, .slice p12 ((rawR (chs l1)).length) c13), (9, .int .i64 (errR (chs l1))), (49, .int .i64 (errR l))]) ?_
      refine SO ?_
      refine O_call (args := #[.int .i64 (errR l)]) Tryz.call21 (num_c (n := errR l) (hw.cut [0, 1, 2, 3] 0 rfl) ) ?_
      clear hw; rintro v w ⟨rfl, hw⟩
      replace hw : Own z w [s14, s10, s5, L] := Own.open_ (ss := []) hw
      refine SP tyOK 19 2 2 [5, 7, 8, 9, 52] (env' := [(5, .slice p3 ((rawR l).length) c4), (7, .slice p8 ((chs l1).length) c9), (8, .slice p12 ((rawR (chs l1)).length) c13), (9, .int .i64 (errR (chs l1))), (52, .bool ((errR l) == 0))]) ?_
      refine setS 52 (.bool false) (congrArg Value.bool hk7) ?_
      refine SP tyOK 14 5 4 [7, 8, 9, 57] (env' := [(7, .slice p8 ((chs l1).length) c9), (8, .slice p12 ((rawR (chs l1)).length) c13), (9, .int .i64 (errR (chs l1))), (57, .bool ((((rawR l).length : Nat) : Int) == 0))]) ?_
      refine setS 57 (.bool true) (congrArg Value.bool hk18) ?_
      refine SP tyOK 13 1 9 [7, 8, 57, 58] (env' := [(7, .slice p8 ((chs l1).length) c9), (8, .slice p12 ((rawR (chs l1)).length) c13), (57, .bool true), (58, .int .i64 (errR (chs l1)))]) ?_
      refine SO ?_
      refine O_call (args := #[.int .i64 (errR (chs l1))]) Tryz.call21 (num_c (n := errR (chs l1)) (hw.cut [0, 1, 2, 3] 0 rfl) ) ?_
      clear hw; rintro v w ⟨rfl, hw⟩
      replace hw : Own z w [s14, s10, s5, L] := Own.open_ (ss := []) hw
      refine SP tyOK 9 3 11 [7, 8, 62] (env' := [(7, .slice p8 ((chs l1).length) c9), (8, .slice p12 ((rawR (chs l1)).length) c13), (62, .bool ((errR (chs l1)) == 0))]) ?_
      refine setS 62 (.bool true) (congrArg Value.bool hk16) ?_
      refine SP tyOK 8 1 14 [7, 62, 63] (env' := [(7, .slice p8 ((chs l1).length) c9), (62, .bool true), (63, .slice p12 ((rawR (chs l1)).length) c13)]) ?_
      refine SO ?_
      refine O_call (args := #[.slice p12 ((rawR (chs l1)).length) c13]) Tryz.call16 (choices_c (L := ([s14, s10, s5, L] : List HL).flatten) (p := p12) (c := c13) (l := (rawR (chs l1))) (by have q1 := rawR_le l; have q2 := rawR_le (chs l1); simp only [chs_len] at q2; (try simp only [chs_len]); omega) (Sl.le hs15) (Rd.mono (Rd.of_sl hs15) (fun x h => by simp [h])) (hw.cut [0, 1, 2, 3] 0 rfl)) ?_
      clear hw; rintro v w ⟨p19, c20, s21, rfl, hs22, hw⟩
      replace hw : Own z w [s21, s14, s10, s5, L] := Own.open_ (ss := [s21]) hw
      refine SP tyOK 6 1 16 [62, 64, 65] (env' := [(62, .bool true), (64, .slice p19 ((chs (rawR (chs l1))).length) c20), (65, .slice p8 ((chs l1).length) c9)]) ?_
      refine SO ?_
      refine O_call (args := #[.slice p19 ((chs (rawR (chs l1))).length) c20, .slice p8 ((chs l1).length) c9]) Tryz.call19 (rsame_c (L := ([s21, s14, s10, s5, L] : List HL).flatten) (pa := p19) (ca := c20) (la := (chs (rawR (chs l1)))) (pb := p8) (cb := c9) (lb := (chs l1)) (Rd.mono (Rd.of_sl hs22) (fun x h => by simp [h])) (Rd.mono (Rd.of_sl hs11) (fun x h => by simp [h])) (by have q1 := rawR_le l; have q2 := rawR_le (chs l1); simp only [chs_len] at q2; (try simp only [chs_len]); omega) (by have q1 := rawR_le l; have q2 := rawR_le (chs l1); simp only [chs_len] at q2; (try simp only [chs_len]); omega) (hw.cut [0, 1, 2, 3, 4] 0 rfl)) ?_
      clear hw; rintro v w ⟨rfl, hw⟩
      replace hw : Own z w [s21, s14, s10, s5, L] := Own.open_ (ss := []) hw
      refine SP tyOK 3 2 18 [68] (env' := [(68, .bool (decide ((chs (rawR (chs l1))) = (chs l1))))]) ?_
      refine setS 68 (.bool true) (congrArg Value.bool hk17) ?_
      refine SO ?_
      refine O_call (args := #[]) Tryz.call15 (works_c (L := ([s21, s14, s10, s5, L] : List HL).flatten) (et := et) (by simp [h0]) (hw.cut [0, 1, 2, 3, 4] 0 rfl)) ?_
      clear hw; rintro v w ⟨rfl, hw⟩
      replace hw : Own z w [s21, s14, s10, s5, L] := Own.open_ (ss := []) hw
      refine SP tyOK 0 2 21 [4] (env' := [(4, .bool true)]) ?_
      refine sEnd ?_
      refine qThen ?_
      refine cRet ?_
      refine qRet (rs := [.tmp 4]) [.bool true] (.bool true) ⟨rT, trivial⟩ ?_
      exact ⟨by rfl, ((hw.pick [4, 0, 1, 2, 3] rfl).take 1)⟩

theorem back_c {z w : World} {L : HL} {p p1 : Option Addr} {c c1 : Nat} {l : List Choice} {l1 : List UInt8} {et : TypeId} (hl : Rd L encChoice p l) (hl1 : Rd L encB p1 l1) (hc1 : l1.length ≤ c1) (h0 : (0, Obj.cells spA et (0, 0)) ∈ L) (hw : Own z w [L]) :
    Ret Tryz.prog 5 #[.slice p l.length c, .slice p1 l1.length c1] w (fun v w' => v = .bool true ∧ Own z w' [L]) := by
  cases hk : l.all okC with
  | true => exact back_yes hk hl hl1 hc1 h0 hw
  | false => exact back_no hk hl hl1 hc1 h0 hw

end Go.SL