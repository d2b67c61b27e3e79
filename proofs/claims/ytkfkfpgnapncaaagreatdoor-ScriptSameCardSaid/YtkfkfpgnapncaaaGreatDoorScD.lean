import Derived.Test.YtkfkfpgnapncaaaGreatDoorScC
set_option linter.unusedSimpArgs false
set_option linter.unusedVariables false
namespace Go.SL
open Go Go.RowKit Go.Proofs
open Go.EV (AggOK eqA spA)
set_option maxRecDepth 100000
set_option linter.unusedVariables false
set_option linter.unusedSimpArgs false

theorem raw_c {z w : World} {L : HL} {p : Option Addr} {c : Nat} {l : List Choice} (hl : Rd L encChoice p l) (hlen : l.length ≤ 2000) (hw : Own z w [L]) :
    Ret Tryz.prog 17 #[.slice p l.length c] w (fun v w' => ∃ p' c' s', v = .tuple #[.slice p' (rawR l).length c', .int .i64 (errR l)] ∧ Sl 5 1 encB p' c' (rawR l) s' ∧ Own z w' [s', L]) := by
  refine enterE Tryz.ntmps17 Tryz.func17 (args := [.slice p l.length c]) ?_
  refine cSeq ?_
  refine cReg 2 ?_
  refine SP tyOK 0 2 0 [0] (env' := [(0, .slice p l.length c)]) ?_
  refine sEnd ?_
  refine qThen ?_
  refine cScope ?_
  refine cSeq ?_
  refine cReg 3 ?_
  refine SO ?_
  refine O_call (args := #[]) Tryz.call35 (kinds_c  (hw.cut [0] 0 rfl) ) ?_
  clear hw; rintro v w ⟨rfl, hw⟩
  replace hw : Own z w [L] := Own.open_ (ss := []) hw
  refine SO ?_
  refine O_alloc tyOK hw ?_
  clear hw; intro b1 w hw
  replace hw : Own z w [L, [(b1, .cells #[.int .i64 0, .int .i64 0, .int .i64 0, .int .i64 0, .int .i64 0, .int .i64 0, .int .i64 0, .int .i64 0] 96 (0, 0))]] := hw
  refine SO ?_
  refine O_store tyOK hw 1 (b := b1) (off := 0) (cs' := #[.int .i64 1, .int .i64 1, .int .i64 2, .int .i64 2, .int .i64 3, .int .i64 3, .int .i64 4, .int .i64 5]) ?_
  clear hw; intro w hw
  replace hw : Own z w [L, [(b1, .cells #[.int .i64 1, .int .i64 1, .int .i64 2, .int .i64 2, .int .i64 3, .int .i64 3, .int .i64 4, .int .i64 5] 96 (0, 0))]] := hw
  refine sEnd ?_
  refine qThen ?_
  refine cSeq ?_
  refine cReg 6 ?_
  refine SP tyOK 3 3 0 [0, 4, 13] (env' := [(0, .slice p l.length c), (4, .pointer (some ⟨b1, 0, none⟩)), (13, .int .i64 (IntKind.i64.wrap (2 * ((l.length : Nat) : Int))))]) ?_
  refine setS 13 (.int .i64 ((2 * l.length : Nat) : Int)) (nat_dbl (by omega)) ?_
  refine SO ?_
  refine O_makeCap tyOK hw (g := te5) (enc := encB) (size := 1) (kk := .i64) (kk' := .i64) (0 : UInt8) (2 * l.length) (fun _ => rfl) rfl rfl (by show 2 * l.length * 1 ≤ 2 ^ 47; omega) rfl ?_
  clear hw; intro b2 w hw
  replace hw : Own z w [L, [(b1, .cells #[.int .i64 1, .int .i64 1, .int .i64 2, .int .i64 2, .int .i64 3, .int .i64 3, .int .i64 4, .int .i64 5] 96 (0, 0))], [(b2, .cells (rows encB ([] : List UInt8) ((List.replicate (2 * l.length) (0 : UInt8)).flatMap encB)) 5 (0, 0))]] := hw
  refine SP tyOK 0 2 4 [0, 4, 5, 6] (env' := [(0, .slice p l.length c), (4, .pointer (some ⟨b1, 0, none⟩)), (5, .slice (some ⟨b2, 0, none⟩) 0 (2 * l.length)), (6, .bool true)]) ?_
  refine sEnd ?_
  refine qThen ?_
  refine cSeq ?_
  refine cLabel ?_
  refine qThen ?_
  refine cSeq ?_
  refine cSeq ?_
  refine cReg 3 ?_
  refine SP tyOK 0 3 0 [4, 5, 6, 15, 16, 17] (env' := [(4, .pointer (some ⟨b1, 0, none⟩)), (5, .slice (some ⟨b2, 0, none⟩) 0 (2 * l.length)), (6, .bool true), (15, .slice p l.length c), (16, .int .i64 ((l.length : Nat) : Int)), (17, .int .i64 0)]) ?_
  refine sEnd ?_
  refine qThen ?_
  refine cBlk ?_
  refine keepC [4, 5, 6, 15, 16, 17] (env' := [(4, .pointer (some ⟨b1, 0, none⟩)), (5, .slice (some ⟨b2, 0, none⟩) 0 (2 * l.length)), (6, .bool true), (15, .slice p l.length c), (16, .int .i64 ((l.length : Nat) : Int)), (17, .int .i64 0)]) ?_
  refine cLoop (fun n env w => ∃ (i : Nat), ∃ (q : Option Addr), ∃ (cq : Nat), ∃ (s : HL), n = l.length - i ∧ (i ≤ l.length) ∧ ((l.take i).all okC = true) ∧ (Sl 5 1 encB q cq (rawC (l.take i)) s) ∧ env = [(4, .pointer (some ⟨b1, 0, none⟩)), (5, .slice q (2 * i) cq), (6, .bool true), (15, .slice p l.length c), (16, .int .i64 ((l.length : Nat) : Int)), (17, .int .i64 ((i : Nat) : Int))] ∧ Own z w [L, [(b1, .cells #[.int .i64 1, .int .i64 1, .int .i64 2, .int .i64 2, .int .i64 3, .int .i64 3, .int .i64 4, .int .i64 5] 96 (0, 0))], s]) (l.length - (0)) ⟨0, (some ⟨b2, 0, none⟩), (2 * l.length), _, rfl, Nat.zero_le _, rfl, Sl.row b2 _ _ [] (Nat.zero_le _) (by simp [encB]), rfl, hw⟩ ?_
  clear hw; rintro n env w ⟨i, q, cq, s, rfl, hi, hok, hsl, rfl, hw⟩
  refine cSeq ?_
  refine cReg 1 ?_
  refine SP tyOK 0 1 0 [4, 5, 6, 15, 16, 17, 18] (env' := [(4, .pointer (some ⟨b1, 0, none⟩)), (5, .slice q (2 * i) cq), (6, .bool true), (15, .slice p l.length c), (16, .int .i64 ((l.length : Nat) : Int)), (17, .int .i64 ((i : Nat) : Int)), (18, .bool (decide (((i : Nat) : Int) < ((l.length : Nat) : Int))))]) ?_
  refine sEnd ?_
  refine qThen ?_
  refine cSeq ?_
  refine two (decide (((i : Nat) : Int) < ((l.length : Nat) : Int))) (fun hb3 => ?_) (fun hb3 => ?_)
  ·
    have hb3p : ((i : Nat) : Int) < ((l.length : Nat) : Int) := of_decide_eq_true hb3
    refine setC 18 (.bool true) (congrArg Value.bool hb3) ?_
    refine cT ?_
    refine cSkip ?_
    refine qThen ?_
    refine cSeq ?_
    refine cBlk ?_
    refine cSeq ?_
    obtain ⟨b4, A5, B6, et7, fr8, rfl, hm9⟩ := hl.some (by omega)
    obtain ⟨x10, hx11⟩ : ∃ x, l[i]? = some x := ⟨_, List.getElem?_eq_getElem (by omega)⟩
    refine cReg 4 ?_
    refine SO ?_
    refine O_idx tyOK (i) (n := l.length) (rfl) (by omega) ?_
    refine SO ?_
    refine O_loadR tyOK hw 0 (b := b4) (off := A5.length + i * 3) (v := .agg ((encChoice x10).toArray)) hm9 (ldP_rd (T := TY) (t := 39) (size := 3) (fun _ => rfl) hx11 (by as_aux_lemma => kernel_rfl)) ?_
    refine SO ?_
    refine O_alloc tyOK hw ?_
    clear hw; intro b12 w hw
    replace hw : Own z w [L, [(b1, .cells #[.int .i64 1, .int .i64 1, .int .i64 2, .int .i64 2, .int .i64 3, .int .i64 3, .int .i64 4, .int .i64 5] 96 (0, 0))], s, [(b12, .cells (encChoice (⟨0, 0, 0⟩)).toArray 39 (0, 0))]] := hw
    refine SO ?_
    refine O_store tyOK hw 3 (b := b12) (off := 0) (cs' := (encChoice x10).toArray) ?_
    clear hw; intro w hw
    replace hw : Own z w [L, [(b1, .cells #[.int .i64 1, .int .i64 1, .int .i64 2, .int .i64 2, .int .i64 3, .int .i64 3, .int .i64 4, .int .i64 5] 96 (0, 0))], s, [(b12, .cells (encChoice x10).toArray 39 (0, 0))]] := hw
    refine sEnd ?_
    refine qThen ?_
    refine cSeq ?_
    refine noPan_of (cDraw (Has [(b12, .cells (encChoice x10).toArray 39 (0, 0))]) 4 [.q 1, .q 2, .e 0, .e 3, .e 4] hw mixed pdNo ?_)
    clear hw; intro w hw
    refine MP (r := [.q 2, .e 0, .e 3, .e 4]) tyOK (has_cons (hw.blk 3 rfl) has_nil) [1] [4, 5, 6, 8, 15, 16, 17, 22] (env' := [(4, .pointer (some ⟨b1, 0, none⟩)), (5, .slice q (2 * i) cq), (6, .bool true), (8, .pointer (some ⟨b12, 0, none⟩)), (15, .slice (some ⟨b4, A5.length, none⟩) l.length c), (16, .int .i64 ((l.length : Nat) : Int)), (17, .int .i64 ((i : Nat) : Int)), (22, .pointer (some ⟨b12, 0, none⟩))]) ?_
    refine ML tyOK (has_cons (hw.blk 3 rfl) has_nil) (b := b12) (off := 0) (v := .int .i64 x10.kind) mem0 ?_
    refine MO ?_
    refine O_sliceB tyOK 0 8 8 (n := 8) (ad := ⟨b1, 0, none⟩) rfl rfl rfl (by omega) (by omega) (by omega) ?_
    refine ⟨fun _ => (has_cons (hw.blk 3 rfl) has_nil), ?_⟩
    refine MO ?_
    refine O_call (args := #[.slice (some ⟨b1, 0, none⟩) 8 8, .int .i64 x10.kind]) Tryz.call36 (index_c (L := [L, [(b1, .cells #[.int .i64 1, .int .i64 1, .int .i64 2, .int .i64 2, .int .i64 3, .int .i64 3, .int .i64 4, .int .i64 5] 96 (0, 0))], s, [(b12, .cells (encChoice x10).toArray 39 (0, 0))]].flatten) (p := some ⟨b1, 0, none⟩) (l := [1, 1, 2, 2, 3, 3, 4, 5]) (Rd.at_ (enc := encK) (A := []) (B := []) (l := [1, 1, 2, 2, 3, 3, 4, 5]) (show (b1, Obj.cells #[.int .i64 1, .int .i64 1, .int .i64 2, .int .i64 2, .int .i64 3, .int .i64 3, .int .i64 4, .int .i64 5] 96 (0, 0)) ∈ [L, [(b1, .cells #[.int .i64 1, .int .i64 1, .int .i64 2, .int .i64 2, .int .i64 3, .int .i64 3, .int .i64 4, .int .i64 5] 96 (0, 0))], s, [(b12, .cells (encChoice x10).toArray 39 (0, 0))]].flatten from by simp)) (by decide) (hw.cut [0, 1, 2, 3] 0 rfl)) ?_
    clear hw; rintro v w ⟨rfl, hw⟩
    replace hw : Own z w [L, [(b1, .cells #[.int .i64 1, .int .i64 1, .int .i64 2, .int .i64 2, .int .i64 3, .int .i64 3, .int .i64 4, .int .i64 5] 96 (0, 0))], s, [(b12, .cells (encChoice x10).toArray 39 (0, 0))]] := Own.open_ (ss := []) hw
    refine ⟨fun _ => (has_cons (hw.blk 3 rfl) has_nil), ?_⟩
    refine MO ?_
    refine O_pure tyOK (.int .i64 (ixK x10.kind)) ?_
    refine ⟨fun h => absurd h (by decide), ?_⟩
    refine mEnd (qNo ?_)
    refine qThen ?_
    refine cSeq ?_
    refine cSeq ?_
    refine cReg 22 ?_
    refine SP tyOK 19 3 0 [4, 5, 6, 8, 9, 15, 16, 17, 27] (env' := [(4, .pointer (some ⟨b1, 0, none⟩)), (5, .slice q (2 * i) cq), (6, .bool true), (8, .pointer (some ⟨b12, 0, none⟩)), (9, .int .i64 (ixK x10.kind)), (15, .slice (some ⟨b4, A5.length, none⟩) l.length c), (16, .int .i64 ((l.length : Nat) : Int)), (17, .int .i64 ((i : Nat) : Int)), (27, .bool (decide ((ixK x10.kind) < 0)))]) ?_
    refine two (decide ((ixK x10.kind) < 0)) (fun hb13 => ?_) (fun hb13 => ?_)
    ·
      have hb13p : (ixK x10.kind) < 0 := of_decide_eq_true hb13
      refine setS 27 (.bool true) (congrArg Value.bool hb13) ?_
      refine SP tyOK 0 19 3 [4, 5, 6, 8, 9, 15, 16, 17, 46] (env' := [(4, .pointer (some ⟨b1, 0, none⟩)), (5, .slice q (2 * i) cq), (6, .bool true), (8, .pointer (some ⟨b12, 0, none⟩)), (9, .int .i64 (ixK x10.kind)), (15, .slice (some ⟨b4, A5.length, none⟩) l.length c), (16, .int .i64 ((l.length : Nat) : Int)), (17, .int .i64 ((i : Nat) : Int)), (46, .bool true)]) ?_
      refine sEnd ?_
      refine qThen ?_
      refine cT ?_
      refine cSeq ?_
      refine cReg 1 ?_
      refine SP tyOK 0 1 0 [5, 6] (env' := [(5, .slice q (2 * i) cq), (6, .bool false)]) ?_
      refine sEnd ?_
      refine qThen ?_
      refine cExit (qThenX (qBlkY (qThenX (qThenX (qBlkX ?_)))))
      refine qThen ?_
      refine cSeq ?_
      refine cSeq ?_
      refine cReg 2 ?_
      refine SP tyOK 0 2 0 [5, 61] (env' := [(5, .slice q (2 * i) cq), (61, .bool true)]) ?_
      refine sEnd ?_
      refine qThen ?_
      refine cT ?_
      refine cSeq ?_
      refine cReg 2 ?_
      refine SP tyOK 0 2 0 [2, 3] (env' := [(2, .slice none 0 0), (3, .int .i64 2)]) ?_
      refine sEnd ?_
      refine qThen ?_
      refine cRet ?_
      refine qThenR (qScR ?_)
      refine qRet (rs := [.tmp 2, .tmp 3]) [.slice none 0 0, .int .i64 2] (.tuple #[.slice none 0 0, .int .i64 2]) ⟨rT, rT, trivial⟩ ?_
      have hno : okC x10 = false := by
        rw [Bool.eq_false_iff]; intro h
        have h2 := okC_iff.1 h; have h3 := ix_nonneg h; omega
      have hy := raw_no (not_all hx11 hno)
      exact ⟨none, 0, [], by rw [hy.1, hy.2]; rfl, by rw [hy.1]; exact .nil, Own.conv (ss := [L]) ((hw.pick [0, 1, 2, 3] rfl).take 1) (by simp)⟩
    ·
      have hb13p : ¬ ((ixK x10.kind) < 0) := of_decide_eq_false hb13
      refine setS 27 (.bool false) (congrArg Value.bool hb13) ?_
      refine SP tyOK 18 1 3 [4, 5, 6, 8, 9, 15, 16, 17, 27, 28] (env' := [(4, .pointer (some ⟨b1, 0, none⟩)), (5, .slice q (2 * i) cq), (6, .bool true), (8, .pointer (some ⟨b12, 0, none⟩)), (9, .int .i64 (ixK x10.kind)), (15, .slice (some ⟨b4, A5.length, none⟩) l.length c), (16, .int .i64 ((l.length : Nat) : Int)), (17, .int .i64 ((i : Nat) : Int)), (27, .bool false), (28, .pointer (some ⟨b12, 1, none⟩))]) ?_
      refine SO ?_
      refine O_load tyOK hw 3 (b := b12) (off := 1) (v := .int .i64 x10.hart) ?_
      refine SP tyOK 14 3 5 [4, 5, 6, 8, 9, 15, 16, 17, 32] (env' := [(4, .pointer (some ⟨b1, 0, none⟩)), (5, .slice q (2 * i) cq), (6, .bool true), (8, .pointer (some ⟨b12, 0, none⟩)), (9, .int .i64 (ixK x10.kind)), (15, .slice (some ⟨b4, A5.length, none⟩) l.length c), (16, .int .i64 ((l.length : Nat) : Int)), (17, .int .i64 ((i : Nat) : Int)), (32, .bool (decide (x10.hart < 0)))]) ?_
      refine two (decide (x10.hart < 0)) (fun hb14 => ?_) (fun hb14 => ?_)
      ·
        have hb14p : x10.hart < 0 := of_decide_eq_true hb14
        refine setS 32 (.bool true) (congrArg Value.bool hb14) ?_
        refine SP tyOK 0 14 8 [4, 5, 6, 8, 9, 15, 16, 17, 46] (env' := [(4, .pointer (some ⟨b1, 0, none⟩)), (5, .slice q (2 * i) cq), (6, .bool true), (8, .pointer (some ⟨b12, 0, none⟩)), (9, .int .i64 (ixK x10.kind)), (15, .slice (some ⟨b4, A5.length, none⟩) l.length c), (16, .int .i64 ((l.length : Nat) : Int)), (17, .int .i64 ((i : Nat) : Int)), (46, .bool true)]) ?_
        refine sEnd ?_
        refine qThen ?_
        refine cT ?_
        refine cSeq ?_
        refine cReg 1 ?_
        refine SP tyOK 0 1 0 [5, 6] (env' := [(5, .slice q (2 * i) cq), (6, .bool false)]) ?_
        refine sEnd ?_
        refine qThen ?_
        refine cExit (qThenX (qBlkY (qThenX (qThenX (qBlkX ?_)))))
        refine qThen ?_
        refine cSeq ?_
        refine cSeq ?_
        refine cReg 2 ?_
        refine SP tyOK 0 2 0 [5, 61] (env' := [(5, .slice q (2 * i) cq), (61, .bool true)]) ?_
        refine sEnd ?_
        refine qThen ?_
        refine cT ?_
        refine cSeq ?_
        refine cReg 2 ?_
        refine SP tyOK 0 2 0 [2, 3] (env' := [(2, .slice none 0 0), (3, .int .i64 2)]) ?_
        refine sEnd ?_
        refine qThen ?_
        refine cRet ?_
        refine qThenR (qScR ?_)
        refine qRet (rs := [.tmp 2, .tmp 3]) [.slice none 0 0, .int .i64 2] (.tuple #[.slice none 0 0, .int .i64 2]) ⟨rT, rT, trivial⟩ ?_
        have hno : okC x10 = false := by
          rw [Bool.eq_false_iff]; intro h
          have h2 := okC_iff.1 h; have h3 := ix_nonneg h; omega
        have hy := raw_no (not_all hx11 hno)
        exact ⟨none, 0, [], by rw [hy.1, hy.2]; rfl, by rw [hy.1]; exact .nil, Own.conv (ss := [L]) ((hw.pick [0, 1, 2, 3] rfl).take 1) (by simp)⟩
      ·
        have hb14p : ¬ (x10.hart < 0) := of_decide_eq_false hb14
        refine setS 32 (.bool false) (congrArg Value.bool hb14) ?_
        refine SP tyOK 13 1 8 [4, 5, 6, 8, 9, 15, 16, 17, 32, 33] (env' := [(4, .pointer (some ⟨b1, 0, none⟩)), (5, .slice q (2 * i) cq), (6, .bool true), (8, .pointer (some ⟨b12, 0, none⟩)), (9, .int .i64 (ixK x10.kind)), (15, .slice (some ⟨b4, A5.length, none⟩) l.length c), (16, .int .i64 ((l.length : Nat) : Int)), (17, .int .i64 ((i : Nat) : Int)), (32, .bool false), (33, .pointer (some ⟨b12, 1, none⟩))]) ?_
        refine SO ?_
        refine O_load tyOK hw 3 (b := b12) (off := 1) (v := .int .i64 x10.hart) ?_
        refine SP tyOK 9 3 10 [4, 5, 6, 8, 9, 15, 16, 17, 37] (env' := [(4, .pointer (some ⟨b1, 0, none⟩)), (5, .slice q (2 * i) cq), (6, .bool true), (8, .pointer (some ⟨b12, 0, none⟩)), (9, .int .i64 (ixK x10.kind)), (15, .slice (some ⟨b4, A5.length, none⟩) l.length c), (16, .int .i64 ((l.length : Nat) : Int)), (17, .int .i64 ((i : Nat) : Int)), (37, .bool (decide (x10.hart ≥ 4)))]) ?_
        refine two (decide (x10.hart ≥ 4)) (fun hb15 => ?_) (fun hb15 => ?_)
        ·
          have hb15p : x10.hart ≥ 4 := of_decide_eq_true hb15
          refine setS 37 (.bool true) (congrArg Value.bool hb15) ?_
          refine SP tyOK 0 9 13 [4, 5, 6, 8, 9, 15, 16, 17, 46] (env' := [(4, .pointer (some ⟨b1, 0, none⟩)), (5, .slice q (2 * i) cq), (6, .bool true), (8, .pointer (some ⟨b12, 0, none⟩)), (9, .int .i64 (ixK x10.kind)), (15, .slice (some ⟨b4, A5.length, none⟩) l.length c), (16, .int .i64 ((l.length : Nat) : Int)), (17, .int .i64 ((i : Nat) : Int)), (46, .bool true)]) ?_
          refine sEnd ?_
          refine qThen ?_
          refine cT ?_
          refine cSeq ?_
          refine cReg 1 ?_
          refine SP tyOK 0 1 0 [5, 6] (env' := [(5, .slice q (2 * i) cq), (6, .bool false)]) ?_
          refine sEnd ?_
          refine qThen ?_
          refine cExit (qThenX (qBlkY (qThenX (qThenX (qBlkX ?_)))))
          refine qThen ?_
          refine cSeq ?_
          refine cSeq ?_
          refine cReg 2 ?_
          refine SP tyOK 0 2 0 [5, 61] (env' := [(5, .slice q (2 * i) cq), (61, .bool true)]) ?_
          refine sEnd ?_
          refine qThen ?_
          refine cT ?_
          refine cSeq ?_
          refine cReg 2 ?_
          refine SP tyOK 0 2 0 [2, 3] (env' := [(2, .slice none 0 0), (3, .int .i64 2)]) ?_
          refine sEnd ?_
          refine qThen ?_
          refine cRet ?_
          refine qThenR (qScR ?_)
          refine qRet (rs := [.tmp 2, .tmp 3]) [.slice none 0 0, .int .i64 2] (.tuple #[.slice none 0 0, .int .i64 2]) ⟨rT, rT, trivial⟩ ?_
          have hno : okC x10 = false := by
            rw [Bool.eq_false_iff]; intro h
            have h2 := okC_iff.1 h; have h3 := ix_nonneg h; omega
          have hy := raw_no (not_all hx11 hno)
          exact ⟨none, 0, [], by rw [hy.1, hy.2]; rfl, by rw [hy.1]; exact .nil, Own.conv (ss := [L]) ((hw.pick [0, 1, 2, 3] rfl).take 1) (by simp)⟩
        ·
          have hb15p : ¬ (x10.hart ≥ 4) := of_decide_eq_false hb15
          refine setS 37 (.bool false) (congrArg Value.bool hb15) ?_
          refine SP tyOK 8 1 13 [4, 5, 6, 8, 9, 15, 16, 17, 37, 38] (env' := [(4, .pointer (some ⟨b1, 0, none⟩)), (5, .slice q (2 * i) cq), (6, .bool true), (8, .pointer (some ⟨b12, 0, none⟩)), (9, .int .i64 (ixK x10.kind)), (15, .slice (some ⟨b4, A5.length, none⟩) l.length c), (16, .int .i64 ((l.length : Nat) : Int)), (17, .int .i64 ((i : Nat) : Int)), (37, .bool false), (38, .pointer (some ⟨b12, 2, none⟩))]) ?_
          refine SO ?_
          refine O_load tyOK hw 3 (b := b12) (off := 2) (v := .int .i64 x10.pick) ?_
          refine SP tyOK 4 3 15 [4, 5, 6, 8, 9, 15, 16, 17, 42] (env' := [(4, .pointer (some ⟨b1, 0, none⟩)), (5, .slice q (2 * i) cq), (6, .bool true), (8, .pointer (some ⟨b12, 0, none⟩)), (9, .int .i64 (ixK x10.kind)), (15, .slice (some ⟨b4, A5.length, none⟩) l.length c), (16, .int .i64 ((l.length : Nat) : Int)), (17, .int .i64 ((i : Nat) : Int)), (42, .bool (decide (x10.pick < 0)))]) ?_
          refine two (decide (x10.pick < 0)) (fun hb16 => ?_) (fun hb16 => ?_)
          ·
            have hb16p : x10.pick < 0 := of_decide_eq_true hb16
            refine setS 42 (.bool true) (congrArg Value.bool hb16) ?_
            refine SP tyOK 0 4 18 [4, 5, 6, 8, 9, 15, 16, 17, 46] (env' := [(4, .pointer (some ⟨b1, 0, none⟩)), (5, .slice q (2 * i) cq), (6, .bool true), (8, .pointer (some ⟨b12, 0, none⟩)), (9, .int .i64 (ixK x10.kind)), (15, .slice (some ⟨b4, A5.length, none⟩) l.length c), (16, .int .i64 ((l.length : Nat) : Int)), (17, .int .i64 ((i : Nat) : Int)), (46, .bool true)]) ?_
            refine sEnd ?_
            refine qThen ?_
            refine cT ?_
            refine cSeq ?_
            refine cReg 1 ?_
            refine SP tyOK 0 1 0 [5, 6] (env' := [(5, .slice q (2 * i) cq), (6, .bool false)]) ?_
            refine sEnd ?_
            refine qThen ?_
            refine cExit (qThenX (qBlkY (qThenX (qThenX (qBlkX ?_)))))
            refine qThen ?_
            refine cSeq ?_
            refine cSeq ?_
            refine cReg 2 ?_
            refine SP tyOK 0 2 0 [5, 61] (env' := [(5, .slice q (2 * i) cq), (61, .bool true)]) ?_
            refine sEnd ?_
            refine qThen ?_
            refine cT ?_
            refine cSeq ?_
            refine cReg 2 ?_
            refine SP tyOK 0 2 0 [2, 3] (env' := [(2, .slice none 0 0), (3, .int .i64 2)]) ?_
            refine sEnd ?_
            refine qThen ?_
            refine cRet ?_
            refine qThenR (qScR ?_)
            refine qRet (rs := [.tmp 2, .tmp 3]) [.slice none 0 0, .int .i64 2] (.tuple #[.slice none 0 0, .int .i64 2]) ⟨rT, rT, trivial⟩ ?_
            have hno : okC x10 = false := by
              rw [Bool.eq_false_iff]; intro h
              have h2 := okC_iff.1 h; have h3 := ix_nonneg h; omega
            have hy := raw_no (not_all hx11 hno)
            exact ⟨none, 0, [], by rw [hy.1, hy.2]; rfl, by rw [hy.1]; exact .nil, Own.conv (ss := [L]) ((hw.pick [0, 1, 2, 3] rfl).take 1) (by simp)⟩
          ·
            have hb16p : ¬ (x10.pick < 0) := of_decide_eq_false hb16
            refine setS 42 (.bool false) (congrArg Value.bool hb16) ?_
            refine SP tyOK 3 1 18 [4, 5, 6, 8, 9, 15, 16, 17, 42, 43] (env' := [(4, .pointer (some ⟨b1, 0, none⟩)), (5, .slice q (2 * i) cq), (6, .bool true), (8, .pointer (some ⟨b12, 0, none⟩)), (9, .int .i64 (ixK x10.kind)), (15, .slice (some ⟨b4, A5.length, none⟩) l.length c), (16, .int .i64 ((l.length : Nat) : Int)), (17, .int .i64 ((i : Nat) : Int)), (42, .bool false), (43, .pointer (some ⟨b12, 2, none⟩))]) ?_
            refine SO ?_
            refine O_load tyOK hw 3 (b := b12) (off := 2) (v := .int .i64 x10.pick) ?_
            refine SP tyOK 0 2 20 [4, 5, 6, 8, 9, 15, 16, 17, 46] (env' := [(4, .pointer (some ⟨b1, 0, none⟩)), (5, .slice q (2 * i) cq), (6, .bool true), (8, .pointer (some ⟨b12, 0, none⟩)), (9, .int .i64 (ixK x10.kind)), (15, .slice (some ⟨b4, A5.length, none⟩) l.length c), (16, .int .i64 ((l.length : Nat) : Int)), (17, .int .i64 ((i : Nat) : Int)), (46, .bool (decide (x10.pick > 255)))]) ?_
            refine sEnd ?_
            refine qThen ?_
            refine two (decide (x10.pick > 255)) (fun hb17 => ?_) (fun hb17 => ?_)
            ·
              have hb17p : x10.pick > 255 := of_decide_eq_true hb17
              refine setC 46 (.bool true) (congrArg Value.bool hb17) ?_
              refine cT ?_
              refine cSeq ?_
              refine cReg 1 ?_
              refine SP tyOK 0 1 0 [5, 6] (env' := [(5, .slice q (2 * i) cq), (6, .bool false)]) ?_
              refine sEnd ?_
              refine qThen ?_
              refine cExit (qThenX (qBlkY (qThenX (qThenX (qBlkX ?_)))))
              refine qThen ?_
              refine cSeq ?_
              refine cSeq ?_
              refine cReg 2 ?_
              refine SP tyOK 0 2 0 [5, 61] (env' := [(5, .slice q (2 * i) cq), (61, .bool true)]) ?_
              refine sEnd ?_
              refine qThen ?_
              refine cT ?_
              refine cSeq ?_
              refine cReg 2 ?_
              refine SP tyOK 0 2 0 [2, 3] (env' := [(2, .slice none 0 0), (3, .int .i64 2)]) ?_
              refine sEnd ?_
              refine qThen ?_
              refine cRet ?_
              refine qThenR (qScR ?_)
              refine qRet (rs := [.tmp 2, .tmp 3]) [.slice none 0 0, .int .i64 2] (.tuple #[.slice none 0 0, .int .i64 2]) ⟨rT, rT, trivial⟩ ?_
              have hno : okC x10 = false := by
                rw [Bool.eq_false_iff]; intro h
                have h2 := okC_iff.1 h; have h3 := ix_nonneg h; omega
              have hy := raw_no (not_all hx11 hno)
              exact ⟨none, 0, [], by rw [hy.1, hy.2]; rfl, by rw [hy.1]; exact .nil, Own.conv (ss := [L]) ((hw.pick [0, 1, 2, 3] rfl).take 1) (by simp)⟩
            ·
              have hb17p : ¬ (x10.pick > 255) := of_decide_eq_false hb17
              refine setC 46 (.bool false) (congrArg Value.bool hb17) ?_
              refine cF ?_
              refine cSkip ?_
              refine qThen ?_
              refine cReg 13 ?_
              refine SP tyOK 10 3 0 [4, 6, 8, 15, 16, 17, 47, 48, 49] (env' := [(4, .pointer (some ⟨b1, 0, none⟩)), (6, .bool true), (8, .pointer (some ⟨b12, 0, none⟩)), (15, .slice (some ⟨b4, A5.length, none⟩) l.length c), (16, .int .i64 ((l.length : Nat) : Int)), (17, .int .i64 ((i : Nat) : Int)), (47, .slice q (2 * i) cq), (48, .int .i64 (ixK x10.kind)), (49, .pointer (some ⟨b12, 1, none⟩))]) ?_
              refine SO ?_
              refine O_load tyOK hw 3 (b := b12) (off := 1) (v := .int .i64 x10.hart) ?_
              refine SP tyOK 5 4 4 [4, 6, 15, 16, 17, 47, 53, 54] (env' := [(4, .pointer (some ⟨b1, 0, none⟩)), (6, .bool true), (15, .slice (some ⟨b4, A5.length, none⟩) l.length c), (16, .int .i64 ((l.length : Nat) : Int)), (17, .int .i64 ((i : Nat) : Int)), (47, .slice q (2 * i) cq), (53, .int .u8 (IntKind.u8.wrap (IntKind.i64.wrap (BitVec.ofInt 64 (ixK x10.kind) ||| BitVec.ofInt 64 (IntKind.i64.wrap (x10.hart * 2 ^ 3))).toNat))), (54, .pointer (some ⟨b12, 2, none⟩))]) ?_
              refine SO ?_
              refine O_load tyOK hw 3 (b := b12) (off := 2) (v := .int .i64 x10.pick) ?_
              refine SP tyOK 3 1 9 [4, 6, 15, 16, 17, 47, 53, 56] (env' := [(4, .pointer (some ⟨b1, 0, none⟩)), (6, .bool true), (15, .slice (some ⟨b4, A5.length, none⟩) l.length c), (16, .int .i64 ((l.length : Nat) : Int)), (17, .int .i64 ((i : Nat) : Int)), (47, .slice q (2 * i) cq), (53, .int .u8 (IntKind.u8.wrap (IntKind.i64.wrap (BitVec.ofInt 64 (ixK x10.kind) ||| BitVec.ofInt 64 (IntKind.i64.wrap (x10.hart * 2 ^ 3))).toNat))), (56, .int .u8 (IntKind.u8.wrap x10.pick))]) ?_
              refine SO ?_
              refine O_buildSlice tyOK hw (el := 5) (#[.int .u8 (IntKind.u8.wrap (IntKind.i64.wrap (BitVec.ofInt 64 (ixK x10.kind) ||| BitVec.ofInt 64 (IntKind.i64.wrap (x10.hart * 2 ^ 3))).toNat)), .int .u8 (IntKind.u8.wrap x10.pick)]) ?_
              clear hw; intro b18 w hw
              replace hw : Own z w [L, [(b1, .cells #[.int .i64 1, .int .i64 1, .int .i64 2, .int .i64 2, .int .i64 3, .int .i64 3, .int .i64 4, .int .i64 5] 96 (0, 0))], s, [(b12, .cells (encChoice x10).toArray 39 (0, 0))], [(b18, .cells #[.int .u8 (IntKind.u8.wrap (IntKind.i64.wrap (BitVec.ofInt 64 (ixK x10.kind) ||| BitVec.ofInt 64 (IntKind.i64.wrap (x10.hart * 2 ^ 3))).toNat)), .int .u8 (IntKind.u8.wrap x10.pick)] 5 (0, 0))]] := hw
              refine SO ?_
              have hkk : okC x10 = true := ok_of hb13p hb14p hb15p hb16p hb17p
              have hb0 : IntKind.u8.wrap (IntKind.i64.wrap (BitVec.ofInt 64 (ixK x10.kind) ||| BitVec.ofInt 64 (IntKind.i64.wrap (x10.hart * 2 ^ 3))).toNat) = (((byt0 x10).toNat : Nat) : Int) := raw_b0 hkk
              have hb1 : IntKind.u8.wrap x10.pick = (((byt1 x10).toNat : Nat) : Int) := raw_b1 hkk
              rw [hb0, hb1] at hw
              replace hw : Own z w [L, [(b1, .cells #[.int .i64 1, .int .i64 1, .int .i64 2, .int .i64 2, .int .i64 3, .int .i64 3, .int .i64 4, .int .i64 5] 96 (0, 0))], s, [(b12, .cells (encChoice x10).toArray 39 (0, 0))], [(b18, .cells #[.int .u8 (((byt0 x10).toNat : Nat) : Int), .int .u8 (((byt1 x10).toNat : Nat) : Int)] 5 (0, 0))]] := hw
              have hoki := all_take hok hx11 hkk
              refine O_append tyOK hw 2 (enc := encB) (size := 1) (l := (rawC (l.take i))) (ys := (bytC x10)) (n := (2 * i)) (fun _ => rfl) (by intro x; simp [encB, Value.oneCell']) hsl ((rawT_len (by omega)).symm) (fun w hw => Src.all (c := 2) (enc := encB) (et := 5) (fr := (0, 0)) (l := (bytC x10)) (fun _ => rfl) (hw.blk 4 rfl)) (g := te5) (by show _ * 1 ≤ _; simp only [rawT_len (show i ≤ l.length by omega)]; show (2 * i + 2) * 1 ≤ _; omega) ?_
              clear hw; intro p19 c20 s21 w hs' hw
              rw [rawC_take hx11] at hs'
              rw [show ((rawC (l.take i)) ++ (bytC x10)).length = 2 * (i + 1) by rw [rawC_take hx11, rawT_len (by omega)]]
              replace hw : Own z w [L, [(b1, .cells #[.int .i64 1, .int .i64 1, .int .i64 2, .int .i64 2, .int .i64 3, .int .i64 3, .int .i64 4, .int .i64 5] 96 (0, 0))], s21, [(b12, .cells (encChoice x10).toArray 39 (0, 0))], [(b18, .cells #[.int .u8 (((byt0 x10).toNat : Nat) : Int), .int .u8 (((byt1 x10).toNat : Nat) : Int)] 5 (0, 0))]] := hw
              refine SP tyOK 0 1 12 [4, 5, 6, 15, 16, 17] (env' := [(4, .pointer (some ⟨b1, 0, none⟩)), (5, .slice p19 (2 * (i + 1)) c20), (6, .bool true), (15, .slice (some ⟨b4, A5.length, none⟩) l.length c), (16, .int .i64 ((l.length : Nat) : Int)), (17, .int .i64 ((i : Nat) : Int))]) ?_
              refine sEnd ?_
              refine qBlk ?_
              refine qThen ?_
              refine cReg 2 ?_
              refine SP tyOK 1 1 0 [4, 5, 6, 15, 16, 59] (env' := [(4, .pointer (some ⟨b1, 0, none⟩)), (5, .slice p19 (2 * (i + 1)) c20), (6, .bool true), (15, .slice (some ⟨b4, A5.length, none⟩) l.length c), (16, .int .i64 ((l.length : Nat) : Int)), (59, .int .i64 (IntKind.i64.wrap (((i : Nat) : Int) + 1)))]) ?_
              refine setS 59 (.int .i64 ((i + 1 : Nat) : Int)) (nat_inc (by omega)) ?_
              refine SP tyOK 0 1 1 [4, 5, 6, 15, 16, 17] (env' := [(4, .pointer (some ⟨b1, 0, none⟩)), (5, .slice p19 (2 * (i + 1)) c20), (6, .bool true), (15, .slice (some ⟨b4, A5.length, none⟩) l.length c), (16, .int .i64 ((l.length : Nat) : Int)), (17, .int .i64 ((i + 1 : Nat) : Int))]) ?_
              refine sEnd ?_
              refine qLoop (l.length - ((i + 1))) (by omega) [4, 5, 6, 15, 16, 17] (env' := [(4, .pointer (some ⟨b1, 0, none⟩)), (5, .slice p19 (2 * (i + 1)) c20), (6, .bool true), (15, .slice (some ⟨b4, A5.length, none⟩) l.length c), (16, .int .i64 ((l.length : Nat) : Int)), (17, .int .i64 ((i + 1 : Nat) : Int))]) ?_
              exact ⟨i + 1, p19, c20, s21, rfl, by omega, hoki, hs', rfl, hw.take 3⟩
  ·
    have hb3p : ¬ (((i : Nat) : Int) < ((l.length : Nat) : Int)) := of_decide_eq_false hb3
    refine setC 18 (.bool false) (congrArg Value.bool hb3) ?_
    refine cF ?_
    refine cExit (qThenX (qThenX (qBlkX ?_)))
    refine qThen ?_
    refine cSeq ?_
    refine cSeq ?_
    refine cReg 2 ?_
    refine SP tyOK 0 2 0 [5, 61] (env' := [(5, .slice q (2 * i) cq), (61, .bool false)]) ?_
    refine sEnd ?_
    refine qThen ?_
    refine cF ?_
    refine cSkip ?_
    refine qThen ?_
    refine cSeq ?_
    refine cReg 3 ?_
    refine SP tyOK 0 3 0 [2, 3] (env' := [(2, .slice q (2 * i) cq), (3, .int .i64 0)]) ?_
    refine sEnd ?_
    refine qThen ?_
    refine cRet ?_
    refine qScR ?_
    refine qRet (rs := [.tmp 2, .tmp 3]) [.slice q (2 * i) cq, .int .i64 0] (.tuple #[.slice q (2 * i) cq, .int .i64 0]) ⟨rT, rT, trivial⟩ ?_
    have hT : l.take i = l := List.take_of_length_le (by omega)
    rw [hT] at hok hsl
    have hy := raw_yes hok
    have hn : 2 * i = (rawC l).length := by rw [rawC_len]; omega
    exact ⟨q, cq, s, by rw [hy.1, hy.2, hn], by rw [hy.1]; exact hsl, ((hw.pick [2, 0, 1] rfl).take 2)⟩

end Go.SL