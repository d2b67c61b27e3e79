import Derived.Test.YtkfkfpgnapncaaaGreatDoorScA
set_option linter.unusedSimpArgs false
set_option linter.unusedVariables false
namespace Go.SL
open Go Go.RowKit Go.Proofs
open Go.EV (AggOK eqA spA)
set_option maxRecDepth 100000
set_option linter.unusedVariables false
set_option linter.unusedSimpArgs false

theorem kinds_c {z w : World} {L : HL}  (hw : Own z w [L]) :
    Ret Tryz.prog 35 #[] w (fun v w' => v = .agg #[.int .i64 1, .int .i64 1, .int .i64 2, .int .i64 2, .int .i64 3, .int .i64 3, .int .i64 4, .int .i64 5] ∧ Own z w' [L]) := by
  refine enterE Tryz.ntmps35 Tryz.func35 (args := []) ?_
  refine cSeq ?_
  refine cReg 1 ?_
  refine SO ?_
  refine O_alloc tyOK hw ?_
  clear hw; intro b1 w hw
  replace hw : Own z w [L, [(b1, .cells #[.int .i64 0, .int .i64 0, .int .i64 0, .int .i64 0, .int .i64 0, .int .i64 0, .int .i64 0, .int .i64 0] 96 (0, 0))]] := hw
  refine sEnd ?_
  refine qThen ?_
  refine cSeq ?_
  refine cReg 2 ?_
  refine SP tyOK 1 1 0 [0, 1] (env' := [(0, .pointer (some ⟨b1, 0, none⟩)), (1, .agg #[.int .i64 1, .int .i64 1, .int .i64 2, .int .i64 2, .int .i64 3, .int .i64 3, .int .i64 4, .int .i64 5])]) ?_
  refine SO ?_
  refine O_store tyOK hw 1 (b := b1) (off := 0) (cs' := #[.int .i64 1, .int .i64 1, .int .i64 2, .int .i64 2, .int .i64 3, .int .i64 3, .int .i64 4, .int .i64 5]) ?_
  clear hw; intro w hw
  replace hw : Own z w [L, [(b1, .cells #[.int .i64 1, .int .i64 1, .int .i64 2, .int .i64 2, .int .i64 3, .int .i64 3, .int .i64 4, .int .i64 5] 96 (0, 0))]] := hw
  refine sEnd ?_
  refine qThen ?_
  refine cRet ?_
  refine qRet (rs := [.cell 0 96]) [.agg #[.int .i64 1, .int .i64 1, .int .i64 2, .int .i64 2, .int .i64 3, .int .i64 3, .int .i64 4, .int .i64 5]] (.agg #[.int .i64 1, .int .i64 1, .int .i64 2, .int .i64 2, .int .i64 3, .int .i64 3, .int .i64 4, .int .i64 5]) ⟨rC tyOK (b := b1) (off := 0) hw 1, trivial⟩ ?_
  exact ⟨rfl, hw.take 1⟩

theorem index_c {z w : World} {L : HL} {p : Option Addr} {c : Nat} {l : List Int} {v : Int} (hl : Rd L encK p l) (hlen : l.length ≤ 4000) (hw : Own z w [L]) :
    Ret Tryz.prog 36 #[.slice p l.length c, .int .i64 v] w (fun u w' => u = .int .i64 (ixN v l 0) ∧ Own z w' [L]) := by
  refine enterE Tryz.ntmps36 Tryz.func36 (args := [.slice p l.length c, .int .i64 v]) ?_
  refine cSeq ?_
  refine cReg 1 ?_
  refine SP tyOK 0 1 0 [0, 1] (env' := [(0, .slice p l.length c), (1, .int .i64 v)]) ?_
  refine sEnd ?_
  refine qThen ?_
  refine cSeq ?_
  refine cSeq ?_
  refine cReg 3 ?_
  refine SP tyOK 0 3 0 [0, 1, 7, 8] (env' := [(0, .slice p l.length c), (1, .int .i64 v), (7, .int .i64 ((l.length : Nat) : Int)), (8, .int .i64 0)]) ?_
  refine sEnd ?_
  refine qThen ?_
  refine cBlk ?_
  refine keepC [0, 1, 7, 8] (env' := [(0, .slice p l.length c), (1, .int .i64 v), (7, .int .i64 ((l.length : Nat) : Int)), (8, .int .i64 0)]) ?_
  refine cLoop (fun n env w => ∃ (i : Nat), n = l.length - i ∧ (i ≤ l.length) ∧ (ixN v l 0 = ixN v (l.drop i) i) ∧ env = [(0, .slice p l.length c), (1, .int .i64 v), (7, .int .i64 ((l.length : Nat) : Int)), (8, .int .i64 ((i : Nat) : Int))] ∧ Own z w [L]) (l.length - (0)) ⟨0, rfl, Nat.zero_le _, rfl, rfl, hw⟩ ?_
  clear hw; rintro n env w ⟨i, rfl, hi, he, rfl, hw⟩
  refine cSeq ?_
  refine cReg 1 ?_
  refine SP tyOK 0 1 0 [0, 1, 7, 8, 9] (env' := [(0, .slice p l.length c), (1, .int .i64 v), (7, .int .i64 ((l.length : Nat) : Int)), (8, .int .i64 ((i : Nat) : Int)), (9, .bool (decide (((i : Nat) : Int) < ((l.length : Nat) : Int))))]) ?_
  refine sEnd ?_
  refine qThen ?_
  refine cSeq ?_
  refine two (decide (((i : Nat) : Int) < ((l.length : Nat) : Int))) (fun hb1 => ?_) (fun hb1 => ?_)
  ·
    have hb1p : ((i : Nat) : Int) < ((l.length : Nat) : Int) := of_decide_eq_true hb1
    refine setC 9 (.bool true) (congrArg Value.bool hb1) ?_
    refine cT ?_
    refine cSkip ?_
    refine qThen ?_
    refine cSeq ?_
    refine cBlk ?_
    refine cSeq ?_
    refine cReg 2 ?_
    refine SP tyOK 0 2 0 [0, 1, 5, 7, 8] (env' := [(0, .slice p l.length c), (1, .int .i64 v), (5, .int .i64 ((i : Nat) : Int)), (7, .int .i64 ((l.length : Nat) : Int)), (8, .int .i64 ((i : Nat) : Int))]) ?_
    refine sEnd ?_
    refine qThen ?_
    refine cSeq ?_
    obtain ⟨b2, A3, B4, et5, fr6, rfl, hm7⟩ := hl.some (by omega)
    obtain ⟨x8, hx9⟩ : ∃ x, l[i]? = some x := ⟨_, List.getElem?_eq_getElem (by omega)⟩
    refine cReg 6 ?_
    refine SP tyOK 3 3 0 [0, 1, 5, 7, 8, 11, 12, 13] (env' := [(0, .slice (some ⟨b2, A3.length, none⟩) l.length c), (1, .int .i64 v), (5, .int .i64 ((i : Nat) : Int)), (7, .int .i64 ((l.length : Nat) : Int)), (8, .int .i64 ((i : Nat) : Int)), (11, .int .i64 v), (12, .slice (some ⟨b2, A3.length, none⟩) l.length c), (13, .int .i64 ((i : Nat) : Int))]) ?_
    refine SO ?_
    refine O_idx tyOK (i) (n := l.length) (rfl) (by omega) ?_
    refine SO ?_
    refine O_loadR tyOK hw 0 (b := b2) (off := A3.length + i * 1) (v := .int .i64 x8) hm7 (ldP_rd (T := TY) (t := 37) (size := 1) (fun _ => rfl) hx9 (by as_aux_lemma => kernel_rfl)) ?_
    refine SP tyOK 0 1 5 [0, 1, 5, 7, 8, 16] (env' := [(0, .slice (some ⟨b2, A3.length, none⟩) l.length c), (1, .int .i64 v), (5, .int .i64 ((i : Nat) : Int)), (7, .int .i64 ((l.length : Nat) : Int)), (8, .int .i64 ((i : Nat) : Int)), (16, .bool (v == x8))]) ?_
    refine sEnd ?_
    refine qThen ?_
    refine two (v == x8) (fun hb10 => ?_) (fun hb10 => ?_)
    ·
      have hb10p : v = x8 := by simpa using hb10
      refine setC 16 (.bool true) (congrArg Value.bool hb10) ?_
      refine cT ?_
      refine cSeq ?_
      refine cReg 2 ?_
      refine SP tyOK 0 2 0 [4] (env' := [(4, .int .i64 ((i : Nat) : Int))]) ?_
      refine sEnd ?_
      refine qThen ?_
      refine cRet ?_
      refine qBlkR (qThenR (qThenR (qBlkR (qThenR ?_))))
      refine qRet (rs := [.tmp 4]) [.int .i64 ((i : Nat) : Int)] (.int .i64 ((i : Nat) : Int)) ⟨rT, trivial⟩ ?_
      exact ⟨by rw [ix_found hx9 he hb10p], hw⟩
    ·
      have hb10p : v ≠ x8 := by simpa using hb10
      refine setC 16 (.bool false) (congrArg Value.bool hb10) ?_
      refine cF ?_
      refine cSkip ?_
      refine qBlk ?_
      refine qThen ?_
      refine cReg 2 ?_
      refine SP tyOK 1 1 0 [0, 1, 7, 18] (env' := [(0, .slice (some ⟨b2, A3.length, none⟩) l.length c), (1, .int .i64 v), (7, .int .i64 ((l.length : Nat) : Int)), (18, .int .i64 (IntKind.i64.wrap (((i : Nat) : Int) + 1)))]) ?_
      refine setS 18 (.int .i64 ((i + 1 : Nat) : Int)) (nat_inc (by omega)) ?_
      refine SP tyOK 0 1 1 [0, 1, 7, 8] (env' := [(0, .slice (some ⟨b2, A3.length, none⟩) l.length c), (1, .int .i64 v), (7, .int .i64 ((l.length : Nat) : Int)), (8, .int .i64 ((i + 1 : Nat) : Int))]) ?_
      refine sEnd ?_
      refine qLoop (l.length - ((i + 1))) (by omega) [0, 1, 7, 8] (env' := [(0, .slice (some ⟨b2, A3.length, none⟩) l.length c), (1, .int .i64 v), (7, .int .i64 ((l.length : Nat) : Int)), (8, .int .i64 ((i + 1 : Nat) : Int))]) ?_
      exact ⟨i + 1, rfl, by omega, ix_step hx9 he hb10p, rfl, hw⟩
  ·
    have hb1p : ¬ (((i : Nat) : Int) < ((l.length : Nat) : Int)) := of_decide_eq_false hb1
    refine setC 9 (.bool false) (congrArg Value.bool hb1) ?_
    refine cF ?_
    refine cExit (qThenX (qThenX (qBlkX ?_)))
    refine qThen ?_
    refine cSeq ?_
    refine cReg 1 ?_
    refine SP tyOK 0 1 0 [4] (env' := [(4, .int .i64 (-1))]) ?_
    refine sEnd ?_
    refine qThen ?_
    refine cRet ?_
    refine qRet (rs := [.tmp 4]) [.int .i64 (-1)] (.int .i64 (-1)) ⟨rT, trivial⟩ ?_
    exact ⟨by rw [ix_none (by omega) he], hw⟩

theorem rraw_c {z w : World} {L : HL} {p : Option Addr} {c : Nat} {l : List Choice} (hl : Rd L encChoice p l) (hlen : l.length ≤ 2000) (hw : Own z w [L]) :
    Ret Tryz.prog 18 #[.slice p l.length c] w (fun v w' => ∃ p' c' s', v = .tuple #[.slice p' (rawR l).length c', .int .i64 (errR l)] ∧ Sl 5 1 encB p' c' (rawR l) s' ∧ Own z w' [s', L]) := by
  refine enterE Tryz.ntmps18 Tryz.func18 (args := [.slice p l.length c]) ?_
  refine cSeq ?_
  refine cReg 2 ?_
  refine SP tyOK 0 2 0 [0] (env' := [(0, .slice p l.length c)]) ?_
  refine sEnd ?_
  refine qThen ?_
  refine cSeq ?_
  refine cReg 1 ?_
  refine SP tyOK 0 1 0 [0, 4] (env' := [(0, .slice p l.length c), (4, .slice none 0 0)]) ?_
  refine sEnd ?_
  refine qThen ?_
  refine cSeq ?_
  refine cSeq ?_
  refine cReg 1 ?_
  refine SP tyOK 0 1 0 [0, 4, 5] (env' := [(0, .slice p l.length c), (4, .slice none 0 0), (5, .int .i64 0)]) ?_
  refine sEnd ?_
  refine qThen ?_
  refine cBlk ?_
  replace hw : Own z w [([] : HL), L] := hw.conv (by simp)
  refine keepC [0, 4, 5] (env' := [(0, .slice p l.length c), (4, .slice none 0 0), (5, .int .i64 0)]) ?_
  refine cLoop (fun n env w => ∃ (i : Nat), ∃ (q : Option Addr), ∃ (cq : Nat), ∃ (s : HL), n = l.length - i ∧ (i ≤ l.length) ∧ ((l.take i).all okC = true) ∧ (Sl 5 1 encB q cq (rawC (l.take i)) s) ∧ env = [(0, .slice p l.length c), (4, .slice q (2 * i) cq), (5, .int .i64 ((i : Nat) : Int))] ∧ Own z w [s, L]) (l.length - (0)) ⟨0, none, 0, [], rfl, Nat.zero_le _, rfl, .nil, rfl, hw⟩ ?_
  clear hw; rintro n env w ⟨i, q, cq, s, rfl, hi, hok, hsl, rfl, hw⟩
  refine cSeq ?_
  refine cSeq ?_
  refine cReg 4 ?_
  refine SP tyOK 0 4 0 [0, 4, 5, 10] (env' := [(0, .slice p l.length c), (4, .slice q (2 * i) cq), (5, .int .i64 ((i : Nat) : Int)), (10, .bool (decide (((i : Nat) : Int) < ((l.length : Nat) : Int))))]) ?_
  refine sEnd ?_
  refine qThen ?_
  refine two (decide (((i : Nat) : Int) < ((l.length : Nat) : Int))) (fun hb1 => ?_) (fun hb1 => ?_)
  ·
    have hb1p : ((i : Nat) : Int) < ((l.length : Nat) : Int) := of_decide_eq_true hb1
    refine setC 10 (.bool true) (congrArg Value.bool hb1) ?_
    refine cT ?_
    refine cSkip ?_
    refine qThen ?_
    refine cSeq ?_
    refine cBlk ?_
    refine cSeq ?_
    obtain ⟨b2, A3, B4, et5, fr6, rfl, hm7⟩ := hl.some (by omega)
    obtain ⟨x8, hx9⟩ : ∃ x, l[i]? = some x := ⟨_, List.getElem?_eq_getElem (by omega)⟩
    refine cReg 6 ?_
    refine SP tyOK 4 2 0 [0, 4, 5, 13, 14] (env' := [(0, .slice (some ⟨b2, A3.length, none⟩) l.length c), (4, .slice q (2 * i) cq), (5, .int .i64 ((i : Nat) : Int)), (13, .slice (some ⟨b2, A3.length, none⟩) l.length c), (14, .int .i64 ((i : Nat) : Int))]) ?_
    refine SO ?_
    refine O_idx tyOK (i) (n := l.length) (rfl) (by omega) ?_
    refine SO ?_
    refine O_loadR tyOK hw 1 (b := b2) (off := A3.length + i * 3) (v := .agg ((encChoice x8).toArray)) hm7 (ldP_rd (T := TY) (t := 39) (size := 3) (fun _ => rfl) hx9 (by as_aux_lemma => kernel_rfl)) ?_
    refine SO ?_
    refine O_alloc tyOK hw ?_
    clear hw; intro b10 w hw
    replace hw : Own z w [s, L, [(b10, .cells (encChoice (⟨0, 0, 0⟩)).toArray 39 (0, 0))]] := hw
    refine SO ?_
    refine O_store tyOK hw 2 (b := b10) (off := 0) (cs' := (encChoice x8).toArray) ?_
    clear hw; intro w hw
    replace hw : Own z w [s, L, [(b10, .cells (encChoice x8).toArray 39 (0, 0))]] := hw
    refine sEnd ?_
    refine qThen ?_
    refine cSeq ?_
    refine cSeq ?_
    refine cReg 28 ?_
    refine SP tyOK 27 1 0 [0, 4, 5, 6, 17] (env' := [(0, .slice (some ⟨b2, A3.length, none⟩) l.length c), (4, .slice q (2 * i) cq), (5, .int .i64 ((i : Nat) : Int)), (6, .pointer (some ⟨b10, 0, none⟩)), (17, .pointer (some ⟨b10, 0, none⟩))]) ?_
    refine SO ?_
    refine O_load tyOK hw 2 (b := b10) (off := 0) (v := .int .i64 x8.kind) ?_
    refine SP tyOK 24 2 2 [0, 4, 5, 6, 20] (env' := [(0, .slice (some ⟨b2, A3.length, none⟩) l.length c), (4, .slice q (2 * i) cq), (5, .int .i64 ((i : Nat) : Int)), (6, .pointer (some ⟨b10, 0, none⟩)), (20, .bool (decide (x8.kind < 1)))]) ?_
    refine two (decide (x8.kind < 1)) (fun hb11 => ?_) (fun hb11 => ?_)
    ·
      have hb11p : x8.kind < 1 := of_decide_eq_true hb11
      refine setS 20 (.bool true) (congrArg Value.bool hb11) ?_
      refine SP tyOK 0 24 4 [0, 4, 5, 6, 44] (env' := [(0, .slice (some ⟨b2, A3.length, none⟩) l.length c), (4, .slice q (2 * i) cq), (5, .int .i64 ((i : Nat) : Int)), (6, .pointer (some ⟨b10, 0, none⟩)), (44, .bool true)]) ?_
      refine sEnd ?_
      refine qThen ?_
      refine cT ?_
      refine cSeq ?_
      refine cReg 2 ?_
      refine SP tyOK 0 2 0 [2, 3] (env' := [(2, .slice none 0 0), (3, .int .i64 2)]) ?_
      refine sEnd ?_
      refine qThen ?_
      refine cRet ?_
      refine qThenR (qBlkR (qThenR (qThenR (qBlkR (qThenR ?_)))))
      refine qRet (rs := [.tmp 2, .tmp 3]) [.slice none 0 0, .int .i64 2] (.tuple #[.slice none 0 0, .int .i64 2]) ⟨rT, rT, trivial⟩ ?_
      have hno : okC x8 = false := by
        rw [Bool.eq_false_iff]; intro h
        have h2 := okC_iff.1 h; have h3 := ix_nonneg h; omega
      have hy := raw_no (not_all hx9 hno)
      exact ⟨none, 0, [], by rw [hy.1, hy.2]; rfl, by rw [hy.1]; exact .nil, Own.conv (ss := [L]) ((hw.pick [1, 0, 2] rfl).take 1) (by simp)⟩
    ·
      have hb11p : ¬ (x8.kind < 1) := of_decide_eq_false hb11
      refine setS 20 (.bool false) (congrArg Value.bool hb11) ?_
      refine SP tyOK 23 1 4 [0, 4, 5, 6, 20, 21] (env' := [(0, .slice (some ⟨b2, A3.length, none⟩) l.length c), (4, .slice q (2 * i) cq), (5, .int .i64 ((i : Nat) : Int)), (6, .pointer (some ⟨b10, 0, none⟩)), (20, .bool false), (21, .pointer (some ⟨b10, 0, none⟩))]) ?_
      refine SO ?_
      refine O_load tyOK hw 2 (b := b10) (off := 0) (v := .int .i64 x8.kind) ?_
      refine SP tyOK 19 3 6 [0, 4, 5, 6, 25] (env' := [(0, .slice (some ⟨b2, A3.length, none⟩) l.length c), (4, .slice q (2 * i) cq), (5, .int .i64 ((i : Nat) : Int)), (6, .pointer (some ⟨b10, 0, none⟩)), (25, .bool (decide (x8.kind > 5)))]) ?_
      refine two (decide (x8.kind > 5)) (fun hb12 => ?_) (fun hb12 => ?_)
      ·
        have hb12p : x8.kind > 5 := of_decide_eq_true hb12
        refine setS 25 (.bool true) (congrArg Value.bool hb12) ?_
        refine SP tyOK 0 19 9 [0, 4, 5, 6, 44] (env' := [(0, .slice (some ⟨b2, A3.length, none⟩) l.length c), (4, .slice q (2 * i) cq), (5, .int .i64 ((i : Nat) : Int)), (6, .pointer (some ⟨b10, 0, none⟩)), (44, .bool true)]) ?_
        refine sEnd ?_
        refine qThen ?_
        refine cT ?_
        refine cSeq ?_
        refine cReg 2 ?_
        refine SP tyOK 0 2 0 [2, 3] (env' := [(2, .slice none 0 0), (3, .int .i64 2)]) ?_
        refine sEnd ?_
        refine qThen ?_
        refine cRet ?_
        refine qThenR (qBlkR (qThenR (qThenR (qBlkR (qThenR ?_)))))
        refine qRet (rs := [.tmp 2, .tmp 3]) [.slice none 0 0, .int .i64 2] (.tuple #[.slice none 0 0, .int .i64 2]) ⟨rT, rT, trivial⟩ ?_
        have hno : okC x8 = false := by
          rw [Bool.eq_false_iff]; intro h
          have h2 := okC_iff.1 h; have h3 := ix_nonneg h; omega
        have hy := raw_no (not_all hx9 hno)
        exact ⟨none, 0, [], by rw [hy.1, hy.2]; rfl, by rw [hy.1]; exact .nil, Own.conv (ss := [L]) ((hw.pick [1, 0, 2] rfl).take 1) (by simp)⟩
      ·
        have hb12p : ¬ (x8.kind > 5) := of_decide_eq_false hb12
        refine setS 25 (.bool false) (congrArg Value.bool hb12) ?_
        refine SP tyOK 18 1 9 [0, 4, 5, 6, 25, 26] (env' := [(0, .slice (some ⟨b2, A3.length, none⟩) l.length c), (4, .slice q (2 * i) cq), (5, .int .i64 ((i : Nat) : Int)), (6, .pointer (some ⟨b10, 0, none⟩)), (25, .bool false), (26, .pointer (some ⟨b10, 1, none⟩))]) ?_
        refine SO ?_
        refine O_load tyOK hw 2 (b := b10) (off := 1) (v := .int .i64 x8.hart) ?_
        refine SP tyOK 14 3 11 [0, 4, 5, 6, 30] (env' := [(0, .slice (some ⟨b2, A3.length, none⟩) l.length c), (4, .slice q (2 * i) cq), (5, .int .i64 ((i : Nat) : Int)), (6, .pointer (some ⟨b10, 0, none⟩)), (30, .bool (decide (x8.hart < 0)))]) ?_
        refine two (decide (x8.hart < 0)) (fun hb13 => ?_) (fun hb13 => ?_)
        ·
          have hb13p : x8.hart < 0 := of_decide_eq_true hb13
          refine setS 30 (.bool true) (congrArg Value.bool hb13) ?_
          refine SP tyOK 0 14 14 [0, 4, 5, 6, 44] (env' := [(0, .slice (some ⟨b2, A3.length, none⟩) l.length c), (4, .slice q (2 * i) cq), (5, .int .i64 ((i : Nat) : Int)), (6, .pointer (some ⟨b10, 0, none⟩)), (44, .bool true)]) ?_
          refine sEnd ?_
          refine qThen ?_
          refine cT ?_
          refine cSeq ?_
          refine cReg 2 ?_
          refine SP tyOK 0 2 0 [2, 3] (env' := [(2, .slice none 0 0), (3, .int .i64 2)]) ?_
          refine sEnd ?_
          refine qThen ?_
          refine cRet ?_
          refine qThenR (qBlkR (qThenR (qThenR (qBlkR (qThenR ?_)))))
          refine qRet (rs := [.tmp 2, .tmp 3]) [.slice none 0 0, .int .i64 2] (.tuple #[.slice none 0 0, .int .i64 2]) ⟨rT, rT, trivial⟩ ?_
          have hno : okC x8 = false := by
            rw [Bool.eq_false_iff]; intro h
            have h2 := okC_iff.1 h; have h3 := ix_nonneg h; omega
          have hy := raw_no (not_all hx9 hno)
          exact ⟨none, 0, [], by rw [hy.1, hy.2]; rfl, by rw [hy.1]; exact .nil, Own.conv (ss := [L]) ((hw.pick [1, 0, 2] rfl).take 1) (by simp)⟩
        ·
          have hb13p : ¬ (x8.hart < 0) := of_decide_eq_false hb13
          refine setS 30 (.bool false) (congrArg Value.bool hb13) ?_
          refine SP tyOK 13 1 14 [0, 4, 5, 6, 30, 31] (env' := [(0, .slice (some ⟨b2, A3.length, none⟩) l.length c), (4, .slice q (2 * i) cq), (5, .int .i64 ((i : Nat) : Int)), (6, .pointer (some ⟨b10, 0, none⟩)), (30, .bool false), (31, .pointer (some ⟨b10, 1, none⟩))]) ?_
          refine SO ?_
          refine O_load tyOK hw 2 (b := b10) (off := 1) (v := .int .i64 x8.hart) ?_
          refine SP tyOK 9 3 16 [0, 4, 5, 6, 35] (env' := [(0, .slice (some ⟨b2, A3.length, none⟩) l.length c), (4, .slice q (2 * i) cq), (5, .int .i64 ((i : Nat) : Int)), (6, .pointer (some ⟨b10, 0, none⟩)), (35, .bool (decide (x8.hart > 3)))]) ?_
          refine two (decide (x8.hart > 3)) (fun hb14 => ?_) (fun hb14 => ?_)
          ·
            have hb14p : x8.hart > 3 := of_decide_eq_true hb14
            refine setS 35 (.bool true) (congrArg Value.bool hb14) ?_
            refine SP tyOK 0 9 19 [0, 4, 5, 6, 44] (env' := [(0, .slice (some ⟨b2, A3.length, none⟩) l.length c), (4, .slice q (2 * i) cq), (5, .int .i64 ((i : Nat) : Int)), (6, .pointer (some ⟨b10, 0, none⟩)), (44, .bool true)]) ?_
            refine sEnd ?_
            refine qThen ?_
            refine cT ?_
            refine cSeq ?_
            refine cReg 2 ?_
            refine SP tyOK 0 2 0 [2, 3] (env' := [(2, .slice none 0 0), (3, .int .i64 2)]) ?_
            refine sEnd ?_
            refine qThen ?_
            refine cRet ?_
            refine qThenR (qBlkR (qThenR (qThenR (qBlkR (qThenR ?_)))))
            refine qRet (rs := [.tmp 2, .tmp 3]) [.slice none 0 0, .int .i64 2] (.tuple #[.slice none 0 0, .int .i64 2]) ⟨rT, rT, trivial⟩ ?_
            have hno : okC x8 = false := by
              rw [Bool.eq_false_iff]; intro h
              have h2 := okC_iff.1 h; have h3 := ix_nonneg h; omega
            have hy := raw_no (not_all hx9 hno)
            exact ⟨none, 0, [], by rw [hy.1, hy.2]; rfl, by rw [hy.1]; exact .nil, Own.conv (ss := [L]) ((hw.pick [1, 0, 2] rfl).take 1) (by simp)⟩
          ·
            have hb14p : ¬ (x8.hart > 3) := of_decide_eq_false hb14
            refine setS 35 (.bool false) (congrArg Value.bool hb14) ?_
            refine SP tyOK 8 1 19 [0, 4, 5, 6, 35, 36] (env' := [(0, .slice (some ⟨b2, A3.length, none⟩) l.length c), (4, .slice q (2 * i) cq), (5, .int .i64 ((i : Nat) : Int)), (6, .pointer (some ⟨b10, 0, none⟩)), (35, .bool false), (36, .pointer (some ⟨b10, 2, none⟩))]) ?_
            refine SO ?_
            refine O_load tyOK hw 2 (b := b10) (off := 2) (v := .int .i64 x8.pick) ?_
            refine SP tyOK 4 3 21 [0, 4, 5, 6, 40] (env' := [(0, .slice (some ⟨b2, A3.length, none⟩) l.length c), (4, .slice q (2 * i) cq), (5, .int .i64 ((i : Nat) : Int)), (6, .pointer (some ⟨b10, 0, none⟩)), (40, .bool (decide (x8.pick < 0)))]) ?_
            refine two (decide (x8.pick < 0)) (fun hb15 => ?_) (fun hb15 => ?_)
            ·
              have hb15p : x8.pick < 0 := of_decide_eq_true hb15
              refine setS 40 (.bool true) (congrArg Value.bool hb15) ?_
              refine SP tyOK 0 4 24 [0, 4, 5, 6, 44] (env' := [(0, .slice (some ⟨b2, A3.length, none⟩) l.length c), (4, .slice q (2 * i) cq), (5, .int .i64 ((i : Nat) : Int)), (6, .pointer (some ⟨b10, 0, none⟩)), (44, .bool true)]) ?_
              refine sEnd ?_
              refine qThen ?_
              refine cT ?_
              refine cSeq ?_
              refine cReg 2 ?_
              refine SP tyOK 0 2 0 [2, 3] (env' := [(2, .slice none 0 0), (3, .int .i64 2)]) ?_
              refine sEnd ?_
              refine qThen ?_
              refine cRet ?_
              refine qThenR (qBlkR (qThenR (qThenR (qBlkR (qThenR ?_)))))
              refine qRet (rs := [.tmp 2, .tmp 3]) [.slice none 0 0, .int .i64 2] (.tuple #[.slice none 0 0, .int .i64 2]) ⟨rT, rT, trivial⟩ ?_
              have hno : okC x8 = false := by
                rw [Bool.eq_false_iff]; intro h
                have h2 := okC_iff.1 h; have h3 := ix_nonneg h; omega
              have hy := raw_no (not_all hx9 hno)
              exact ⟨none, 0, [], by rw [hy.1, hy.2]; rfl, by rw [hy.1]; exact .nil, Own.conv (ss := [L]) ((hw.pick [1, 0, 2] rfl).take 1) (by simp)⟩
            ·
              have hb15p : ¬ (x8.pick < 0) := of_decide_eq_false hb15
              refine setS 40 (.bool false) (congrArg Value.bool hb15) ?_
              refine SP tyOK 3 1 24 [0, 4, 5, 6, 40, 41] (env' := [(0, .slice (some ⟨b2, A3.length, none⟩) l.length c), (4, .slice q (2 * i) cq), (5, .int .i64 ((i : Nat) : Int)), (6, .pointer (some ⟨b10, 0, none⟩)), (40, .bool false), (41, .pointer (some ⟨b10, 2, none⟩))]) ?_
              refine SO ?_
              refine O_load tyOK hw 2 (b := b10) (off := 2) (v := .int .i64 x8.pick) ?_
              refine SP tyOK 0 2 26 [0, 4, 5, 6, 44] (env' := [(0, .slice (some ⟨b2, A3.length, none⟩) l.length c), (4, .slice q (2 * i) cq), (5, .int .i64 ((i : Nat) : Int)), (6, .pointer (some ⟨b10, 0, none⟩)), (44, .bool (decide (x8.pick > 255)))]) ?_
              refine sEnd ?_
              refine qThen ?_
              refine two (decide (x8.pick > 255)) (fun hb16 => ?_) (fun hb16 => ?_)
              ·
                have hb16p : x8.pick > 255 := of_decide_eq_true hb16
                refine setC 44 (.bool true) (congrArg Value.bool hb16) ?_
                refine cT ?_
                refine cSeq ?_
                refine cReg 2 ?_
                refine SP tyOK 0 2 0 [2, 3] (env' := [(2, .slice none 0 0), (3, .int .i64 2)]) ?_
                refine sEnd ?_
                refine qThen ?_
                refine cRet ?_
                refine qThenR (qBlkR (qThenR (qThenR (qBlkR (qThenR ?_)))))
                refine qRet (rs := [.tmp 2, .tmp 3]) [.slice none 0 0, .int .i64 2] (.tuple #[.slice none 0 0, .int .i64 2]) ⟨rT, rT, trivial⟩ ?_
                have hno : okC x8 = false := by
                  rw [Bool.eq_false_iff]; intro h
                  have h2 := okC_iff.1 h; have h3 := ix_nonneg h; omega
                have hy := raw_no (not_all hx9 hno)
                exact ⟨none, 0, [], by rw [hy.1, hy.2]; rfl, by rw [hy.1]; exact .nil, Own.conv (ss := [L]) ((hw.pick [1, 0, 2] rfl).take 1) (by simp)⟩
              ·
                have hb16p : ¬ (x8.pick > 255) := of_decide_eq_false hb16
                refine setC 44 (.bool false) (congrArg Value.bool hb16) ?_
                refine cF ?_
                refine cSkip ?_
                refine qThen ?_
                refine noPan_of (cDraw (Has [(b10, .cells (encChoice x8).toArray 39 (0, 0))]) 16 [.q 0, .q 2, .q 3, .q 6, .q 7, .q 8, .q 9, .q 11, .q 12, .q 13, .e 1, .q 4, .e 5, .q 10, .e 14, .e 15, .e 16] hw mixed pdNo ?_)
                clear hw; intro w hw
                refine MP (r := [.q 3, .q 6, .q 7, .q 8, .q 9, .q 11, .q 12, .q 13, .e 1, .q 4, .e 5, .q 10, .e 14, .e 15, .e 16]) tyOK (has_cons (hw.blk 2 rfl) has_nil) [0, 2] [0, 4, 5, 6, 45, 47] (env' := [(0, .slice (some ⟨b2, A3.length, none⟩) l.length c), (4, .slice q (2 * i) cq), (5, .int .i64 ((i : Nat) : Int)), (6, .pointer (some ⟨b10, 0, none⟩)), (45, .slice q (2 * i) cq), (47, .pointer (some ⟨b10, 0, none⟩))]) ?_
                refine ML tyOK (has_cons (hw.blk 2 rfl) has_nil) (b := b10) (off := 0) (v := .int .i64 x8.kind) mem0 ?_
                refine MP (r := [.q 7, .q 8, .q 9, .q 11, .q 12, .q 13, .e 1, .q 4, .e 5, .q 10, .e 14, .e 15, .e 16]) tyOK (has_cons (hw.blk 2 rfl) has_nil) [6] [0, 4, 5, 6, 45, 48, 51] (env' := [(0, .slice (some ⟨b2, A3.length, none⟩) l.length c), (4, .slice q (2 * i) cq), (5, .int .i64 ((i : Nat) : Int)), (6, .pointer (some ⟨b10, 0, none⟩)), (45, .slice q (2 * i) cq), (48, .int .i64 x8.kind), (51, .pointer (some ⟨b10, 1, none⟩))]) ?_
                refine ML tyOK (has_cons (hw.blk 2 rfl) has_nil) (b := b10) (off := 1) (v := .int .i64 x8.hart) mem0 ?_
                refine MP (r := [.q 12, .q 13, .e 1, .q 4, .e 5, .q 10, .e 14, .e 15, .e 16]) tyOK (has_cons (hw.blk 2 rfl) has_nil) [8, 9, 11] [0, 4, 5, 45, 48, 54, 56] (env' := [(0, .slice (some ⟨b2, A3.length, none⟩) l.length c), (4, .slice q (2 * i) cq), (5, .int .i64 ((i : Nat) : Int)), (45, .slice q (2 * i) cq), (48, .int .i64 x8.kind), (54, .int .u8 (IntKind.u8.wrap (IntKind.i64.wrap (8 * x8.hart)))), (56, .pointer (some ⟨b10, 2, none⟩))]) ?_
                refine ML tyOK (has_cons (hw.blk 2 rfl) has_nil) (b := b10) (off := 2) (v := .int .i64 x8.pick) mem0 ?_
                refine MP (r := [.e 1, .q 4, .e 5, .q 10, .e 14, .e 15, .e 16]) tyOK (has_cons (hw.blk 2 rfl) has_nil) [13] [0, 4, 5, 45, 48, 54, 58] (env' := [(0, .slice (some ⟨b2, A3.length, none⟩) l.length c), (4, .slice q (2 * i) cq), (5, .int .i64 ((i : Nat) : Int)), (45, .slice q (2 * i) cq), (48, .int .i64 x8.kind), (54, .int .u8 (IntKind.u8.wrap (IntKind.i64.wrap (8 * x8.hart)))), (58, .int .u8 (IntKind.u8.wrap x8.pick))]) ?_
                refine MO ?_
                refine O_buildSlice tyOK hw (el := 5) (#[.int .u8 0, .int .u8 0, .int .u8 2, .int .u8 4, .int .u8 6, .int .u8 7]) ?_
                clear hw; intro b17 w hw
                replace hw : Own z w [s, L, [(b10, .cells (encChoice x8).toArray 39 (0, 0))], [(b17, .cells #[.int .u8 0, .int .u8 0, .int .u8 2, .int .u8 4, .int .u8 6, .int .u8 7] 5 (0, 0))]] := hw
                refine ⟨fun _ => (has_cons (hw.blk 2 rfl) has_nil), ?_⟩
                refine M_idx tyOK (has_cons (hw.blk 2 rfl) has_nil) (x8.kind.toNat) (n := 6) (b := b17) (off := 0) (nn0 (show 0 ≤ x8.kind by omega)) (by omega) ?_
                refine MO ?_
                refine O_load tyOK hw 3 (b := b17) (off := 0 + x8.kind.toNat * 1) (v := .int .u8 ((tblC x8.kind : Nat) : Int)) (hv := tbl_ld (by omega) (by omega)) ?_
                refine ⟨fun _ => (has_cons (hw.blk 2 rfl) has_nil), ?_⟩
                refine MP (r := [.e 14, .e 15, .e 16]) tyOK (has_cons (hw.blk 2 rfl) has_nil) [10] [0, 4, 5, 45, 55, 58] (env' := [(0, .slice (some ⟨b2, A3.length, none⟩) l.length c), (4, .slice q (2 * i) cq), (5, .int .i64 ((i : Nat) : Int)), (45, .slice q (2 * i) cq), (55, .int .u8 (IntKind.u8.wrap (((tblC x8.kind : Nat) : Int) + (IntKind.u8.wrap (IntKind.i64.wrap (8 * x8.hart)))))), (58, .int .u8 (IntKind.u8.wrap x8.pick))]) ?_
                refine MO ?_
                refine O_buildSlice tyOK hw (el := 5) (#[.int .u8 (IntKind.u8.wrap (((tblC x8.kind : Nat) : Int) + (IntKind.u8.wrap (IntKind.i64.wrap (8 * x8.hart))))), .int .u8 (IntKind.u8.wrap x8.pick)]) ?_
                clear hw; intro b18 w hw
                replace hw : Own z w [s, L, [(b10, .cells (encChoice x8).toArray 39 (0, 0))], [(b17, .cells #[.int .u8 0, .int .u8 0, .int .u8 2, .int .u8 4, .int .u8 6, .int .u8 7] 5 (0, 0))], [(b18, .cells #[.int .u8 (IntKind.u8.wrap (((tblC x8.kind : Nat) : Int) + (IntKind.u8.wrap (IntKind.i64.wrap (8 * x8.hart))))), .int .u8 (IntKind.u8.wrap x8.pick)] 5 (0, 0))]] := hw
                refine ⟨fun _ => (has_cons (hw.blk 2 rfl) has_nil), ?_⟩
                refine MO ?_
                have hkk : okC x8 = true := ok_of2 hb11p hb12p hb13p hb14p hb15p hb16p
                have hb0 : IntKind.u8.wrap (((tblC x8.kind : Nat) : Int) + (IntKind.u8.wrap (IntKind.i64.wrap (8 * x8.hart)))) = (((byt0 x8).toNat : Nat) : Int) := rraw_b0 hkk
                have hb1 : IntKind.u8.wrap x8.pick = (((byt1 x8).toNat : Nat) : Int) := raw_b1 hkk
                rw [hb0, hb1] at hw
                replace hw : Own z w [s, L, [(b10, .cells (encChoice x8).toArray 39 (0, 0))], [(b17, .cells #[.int .u8 0, .int .u8 0, .int .u8 2, .int .u8 4, .int .u8 6, .int .u8 7] 5 (0, 0))], [(b18, .cells #[.int .u8 (((byt0 x8).toNat : Nat) : Int), .int .u8 (((byt1 x8).toNat : Nat) : Int)] 5 (0, 0))]] := hw
                have hoki := all_take hok hx9 hkk
                refine O_append tyOK hw 0 (enc := encB) (size := 1) (l := (rawC (l.take i))) (ys := (bytC x8)) (n := (2 * i)) (fun _ => rfl) (by intro x; simp [encB, Value.oneCell']) hsl ((rawT_len (by omega)).symm) (fun w hw => Src.all (c := 2) (enc := encB) (et := 5) (fr := (0, 0)) (l := (bytC x8)) (fun _ => rfl) (hw.blk 4 rfl)) (g := te5) (by show _ * 1 ≤ _; simp only [rawT_len (show i ≤ l.length by omega)]; show (2 * i + 2) * 1 ≤ _; omega) ?_
                clear hw; intro p19 c20 s21 w hs' hw
                rw [rawC_take hx9] at hs'
                rw [show ((rawC (l.take i)) ++ (bytC x8)).length = 2 * (i + 1) by rw [rawC_take hx9, rawT_len (by omega)]]
                replace hw : Own z w [s21, L, [(b10, .cells (encChoice x8).toArray 39 (0, 0))], [(b17, .cells #[.int .u8 0, .int .u8 0, .int .u8 2, .int .u8 4, .int .u8 6, .int .u8 7] 5 (0, 0))], [(b18, .cells #[.int .u8 (((byt0 x8).toNat : Nat) : Int), .int .u8 (((byt1 x8).toNat : Nat) : Int)] 5 (0, 0))]] := hw
                refine ⟨fun _ => (has_cons (hw.blk 2 rfl) has_nil), ?_⟩
                refine MO ?_
                refine O_pure tyOK (.slice p19 (2 * (i + 1)) c20) ?_
                refine ⟨fun h => absurd h (by decide), ?_⟩
                refine mEnd (qNo ?_)
                refine qBlk ?_
                refine qThen ?_
                refine cReg 3 ?_
                refine SP tyOK 1 2 0 [0, 4, 12] (env' := [(0, .slice (some ⟨b2, A3.length, none⟩) l.length c), (4, .slice p19 (2 * (i + 1)) c20), (12, .int .i64 (IntKind.i64.wrap (((i : Nat) : Int) + 1)))]) ?_
                refine setS 12 (.int .i64 ((i + 1 : Nat) : Int)) (nat_inc (by omega)) ?_
                refine SP tyOK 0 1 2 [0, 4, 5] (env' := [(0, .slice (some ⟨b2, A3.length, none⟩) l.length c), (4, .slice p19 (2 * (i + 1)) c20), (5, .int .i64 ((i + 1 : Nat) : Int))]) ?_
                refine sEnd ?_
                refine qLoop (l.length - ((i + 1))) (by omega) [0, 4, 5] (env' := [(0, .slice (some ⟨b2, A3.length, none⟩) l.length c), (4, .slice p19 (2 * (i + 1)) c20), (5, .int .i64 ((i + 1 : Nat) : Int))]) ?_
                exact ⟨i + 1, p19, c20, s21, rfl, by omega, hoki, hs', rfl, hw.take 2⟩
  ·
    have hb1p : ¬ (((i : Nat) : Int) < ((l.length : Nat) : Int)) := of_decide_eq_false hb1
    refine setC 10 (.bool false) (congrArg Value.bool hb1) ?_
    refine cF ?_
    refine cExit (qThenX (qThenX (qBlkX ?_)))
    refine qThen ?_
    refine cSeq ?_
    refine cReg 3 ?_
    refine SP tyOK 0 3 0 [2, 3] (env' := [(2, .slice q (2 * i) cq), (3, .int .i64 0)]) ?_
    refine sEnd ?_
    refine qThen ?_
    refine cRet ?_
    refine qRet (rs := [.tmp 2, .tmp 3]) [.slice q (2 * i) cq, .int .i64 0] (.tuple #[.slice q (2 * i) cq, .int .i64 0]) ⟨rT, rT, trivial⟩ ?_
    have hT : l.take i = l := List.take_of_length_le (by omega)
    rw [hT] at hok hsl
    have hy := raw_yes hok
    have hn : 2 * i = (rawC l).length := by rw [rawC_len]; omega
    exact ⟨q, cq, s, by rw [hy.1, hy.2, hn], by rw [hy.1]; exact hsl, hw⟩

end Go.SL