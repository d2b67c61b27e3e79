import Derived.Test.YtkfkfpgnapncaaaGreatDoorScA
set_option linter.unusedSimpArgs false
set_option linter.unusedVariables false
namespace Go.SL
open Go Go.RowKit Go.Proofs
open Go.EV (AggOK eqA spA)
set_option maxRecDepth 100000
set_option linter.unusedVariables false
set_option linter.unusedSimpArgs false

theorem rchoices_c {z w : World} {L : HL} {p : Option Addr} {c : Nat} {l : List UInt8} (hl : Rd L encB p l) (hlen : l.length ≤ 4000) (hw : Own z w [L]) :
    Ret Tryz.prog 20 #[.slice p l.length c] w (fun v w' => ∃ p' c' s', v = .slice p' (chs l).length c' ∧ Sl 39 3 encChoice p' c' (chs l) s' ∧ Own z w' [s', L]) := by
  refine enterE Tryz.ntmps20 Tryz.func20 (args := [.slice p l.length c]) ?_
  refine cSeq ?_
  refine cReg 1 ?_
  refine SP tyOK 0 1 0 [0] (env' := [(0, .slice p l.length c)]) ?_
  refine sEnd ?_
  refine qThen ?_
  refine cSeq ?_
  refine cReg 1 ?_
  refine SP tyOK 0 1 0 [0, 3] (env' := [(0, .slice p l.length c), (3, .slice none 0 0)]) ?_
  refine sEnd ?_
  refine qThen ?_
  refine cSeq ?_
  refine cSeq ?_
  refine cReg 1 ?_
  refine SP tyOK 0 1 0 [0, 3, 4] (env' := [(0, .slice p l.length c), (3, .slice none 0 0), (4, .int .i64 0)]) ?_
  refine sEnd ?_
  refine qThen ?_
  refine cBlk ?_
  replace hw : Own z w [([] : HL), L] := hw.conv (by simp)
  refine keepC [0, 3, 4] (env' := [(0, .slice p l.length c), (3, .slice none 0 0), (4, .int .i64 0)]) ?_
  refine cLoop (fun n env w => ∃ (m : Nat), ∃ (q : Option Addr), ∃ (cq : Nat), ∃ (s : HL), n = l.length - 2 * m ∧ (2 * m ≤ l.length + 1) ∧ (Sl 39 3 encChoice q cq (chsN l m) s) ∧ env = [(0, .slice p l.length c), (3, .slice q m cq), (4, .int .i64 ((2 * m : Nat) : Int))] ∧ Own z w [s, L]) (l.length - 2 * (0)) ⟨0, none, 0, [], rfl, by omega, .nil, rfl, hw⟩ ?_
  clear hw; rintro n env w ⟨m, q, cq, s, rfl, hm, hsl, rfl, hw⟩
  refine cSeq ?_
  refine cSeq ?_
  refine cReg 4 ?_
  refine SP tyOK 0 4 0 [0, 3, 4, 9] (env' := [(0, .slice p l.length c), (3, .slice q m cq), (4, .int .i64 ((2 * m : Nat) : Int)), (9, .bool (decide (((2 * m : Nat) : Int) < ((l.length : Nat) : Int))))]) ?_
  refine sEnd ?_
  refine qThen ?_
  refine two (decide (((2 * m : Nat) : Int) < ((l.length : Nat) : Int))) (fun hb1 => ?_) (fun hb1 => ?_)
  ·
    have hb1p : ((2 * m : Nat) : Int) < ((l.length : Nat) : Int) := of_decide_eq_true hb1
    refine setC 9 (.bool true) (congrArg Value.bool hb1) ?_
    refine cT ?_
    refine cSkip ?_
    refine qThen ?_
    refine cSeq ?_
    refine cBlk ?_
    refine cSeq ?_
    obtain ⟨b2, A3, B4, et5, fr6, rfl, hm7⟩ := hl.some (by omega)
    obtain ⟨x8, hx9⟩ : ∃ x, l[2 * m]? = some x := ⟨_, List.getElem?_eq_getElem (by omega)⟩
    refine cReg 10 ?_
    refine SP tyOK 8 2 0 [0, 3, 4, 12, 13] (env' := [(0, .slice (some ⟨b2, A3.length, none⟩) l.length c), (3, .slice q m cq), (4, .int .i64 ((2 * m : Nat) : Int)), (12, .slice (some ⟨b2, A3.length, none⟩) l.length c), (13, .int .i64 ((2 * m : Nat) : Int))]) ?_
    refine SO ?_
    refine O_idx tyOK (2 * m) (n := l.length) (rfl) (by omega) ?_
    refine SO ?_
    refine O_loadR tyOK hw 1 (b := b2) (off := A3.length + (2 * m) * 1) (v := .int .u8 ((x8.toNat : Nat) : Int)) hm7 (ldP_rd (T := TY) (t := 5) (size := 1) (fun _ => rfl) hx9 (by as_aux_lemma => kernel_rfl)) ?_
    refine SP tyOK 3 3 4 [0, 3, 4, 18] (env' := [(0, .slice (some ⟨b2, A3.length, none⟩) l.length c), (3, .slice q m cq), (4, .int .i64 ((2 * m : Nat) : Int)), (18, .int .i64 (Int.tmod (IntKind.i64.wrap (IntKind.u8.wrap (Int.tdiv ((x8.toNat : Nat) : Int) 8))) 4))]) ?_
    refine setS 18 (.int .i64 ((x8.toNat / 8 % 4 : Nat) : Int)) (congrArg (Value.int .i64) (u8_hart x8)) ?_
    refine SP tyOK 2 1 7 [0, 3, 4, 19] (env' := [(0, .slice (some ⟨b2, A3.length, none⟩) l.length c), (3, .slice q m cq), (4, .int .i64 ((2 * m : Nat) : Int)), (19, .agg ((encChoice (⟨0, ((x8.toNat / 8 % 4 : Nat) : Int), 0⟩)).toArray))]) ?_
    refine SO ?_
    refine O_alloc tyOK hw ?_
    clear hw; intro b10 w hw
    replace hw : Own z w [s, L, [(b10, .cells (encChoice (⟨0, 0, 0⟩)).toArray 39 (0, 0))]] := hw
    refine SO ?_
    refine O_store tyOK hw 2 (b := b10) (off := 0) (cs' := (encChoice (⟨0, ((x8.toNat / 8 % 4 : Nat) : Int), 0⟩)).toArray) ?_
    clear hw; intro w hw
    replace hw : Own z w [s, L, [(b10, .cells (encChoice (⟨0, ((x8.toNat / 8 % 4 : Nat) : Int), 0⟩)).toArray 39 (0, 0))]] := hw
    refine sEnd ?_
    refine qThen ?_
    refine cSeq ?_
    refine cSeq ?_
    refine cReg 5 ?_
    refine SP tyOK 3 2 0 [0, 3, 4, 5, 20, 21] (env' := [(0, .slice (some ⟨b2, A3.length, none⟩) l.length c), (3, .slice q m cq), (4, .int .i64 ((2 * m : Nat) : Int)), (5, .pointer (some ⟨b10, 0, none⟩)), (20, .slice (some ⟨b2, A3.length, none⟩) l.length c), (21, .int .i64 ((2 * m : Nat) : Int))]) ?_
    refine SO ?_
    refine O_idx tyOK (2 * m) (n := l.length) (rfl) (by omega) ?_
    refine SO ?_
    refine O_loadR tyOK hw 1 (b := b2) (off := A3.length + (2 * m) * 1) (v := .int .u8 ((x8.toNat : Nat) : Int)) hm7 (ldP_rd (T := TY) (t := 5) (size := 1) (fun _ => rfl) hx9 (by as_aux_lemma => kernel_rfl)) ?_
    refine SP tyOK 0 1 4 [0, 3, 4, 5, 24] (env' := [(0, .slice (some ⟨b2, A3.length, none⟩) l.length c), (3, .slice q m cq), (4, .int .i64 ((2 * m : Nat) : Int)), (5, .pointer (some ⟨b10, 0, none⟩)), (24, .int .u8 (Int.tmod ((x8.toNat : Nat) : Int) 8))]) ?_
    refine setS 24 (.int .u8 ((x8.toNat % 8 : Nat) : Int)) (congrArg (Value.int .u8) (u8_mod8 x8)) ?_
    refine sEnd ?_
    refine qThen ?_
    refine cBlk ?_
    refine cSeq ?_
    refine cSeq ?_
    refine cReg 2 ?_
    refine SP tyOK 0 2 0 [0, 3, 4, 5, 24, 26] (env' := [(0, .slice (some ⟨b2, A3.length, none⟩) l.length c), (3, .slice q m cq), (4, .int .i64 ((2 * m : Nat) : Int)), (5, .pointer (some ⟨b10, 0, none⟩)), (24, .int .u8 ((x8.toNat % 8 : Nat) : Int)), (26, .bool (((x8.toNat % 8 : Nat) : Int) == 0))]) ?_
    refine sEnd ?_
    refine qThen ?_
    refine two (((x8.toNat % 8 : Nat) : Int) == 0) (fun hb11 => ?_) (fun hb11 => ?_)
    ·
      have hb11p : ((x8.toNat % 8 : Nat) : Int) = 0 := by simpa using hb11
      refine setC 26 (.bool true) (congrArg Value.bool hb11) ?_
      refine cT ?_
      refine cSkip ?_
      refine qThen ?_
      refine cT ?_
      refine cReg 2 ?_
      refine SP tyOK 1 1 0 [0, 3, 4, 5, 29] (env' := [(0, .slice (some ⟨b2, A3.length, none⟩) l.length c), (3, .slice q m cq), (4, .int .i64 ((2 * m : Nat) : Int)), (5, .pointer (some ⟨b10, 0, none⟩)), (29, .pointer (some ⟨b10, 0, none⟩))]) ?_
      refine SO ?_
      refine O_store tyOK hw 2 (b := b10) (off := 0) (cs' := (encChoice (⟨1, ((x8.toNat / 8 % 4 : Nat) : Int), 0⟩)).toArray) ?_
      clear hw; intro w hw
      replace hw : Own z w [s, L, [(b10, .cells (encChoice (⟨1, ((x8.toNat / 8 % 4 : Nat) : Int), 0⟩)).toArray 39 (0, 0))]] := hw
      refine sEnd ?_
      refine qBlk ?_
      refine qThen ?_
      refine cSeq ?_
      refine cSeq ?_
      refine cReg 5 ?_
      refine SP tyOK 3 2 0 [0, 3, 4, 5, 42] (env' := [(0, .slice (some ⟨b2, A3.length, none⟩) l.length c), (3, .slice q m cq), (4, .int .i64 ((2 * m : Nat) : Int)), (5, .pointer (some ⟨b10, 0, none⟩)), (42, .int .i64 (IntKind.i64.wrap (((2 * m : Nat) : Int) + 1)))]) ?_
      refine setS 42 (.int .i64 ((2 * m + 1 : Nat) : Int)) (nat_inc (by omega)) ?_
      refine SP tyOK 0 3 2 [0, 3, 4, 5, 45] (env' := [(0, .slice (some ⟨b2, A3.length, none⟩) l.length c), (3, .slice q m cq), (4, .int .i64 ((2 * m : Nat) : Int)), (5, .pointer (some ⟨b10, 0, none⟩)), (45, .bool (decide (((2 * m + 1 : Nat) : Int) < ((l.length : Nat) : Int))))]) ?_
      refine sEnd ?_
      refine qThen ?_
      refine two (decide (((2 * m + 1 : Nat) : Int) < ((l.length : Nat) : Int))) (fun hb12 => ?_) (fun hb12 => ?_)
      ·
        have hb12p : ((2 * m + 1 : Nat) : Int) < ((l.length : Nat) : Int) := of_decide_eq_true hb12
        refine setC 45 (.bool true) (congrArg Value.bool hb12) ?_
        refine cT ?_
        obtain ⟨x13, hx14⟩ : ∃ x, l[2 * m + 1]? = some x := ⟨_, List.getElem?_eq_getElem (by omega)⟩
        refine cReg 8 ?_
        refine SP tyOK 5 3 0 [0, 3, 4, 5, 46, 48] (env' := [(0, .slice (some ⟨b2, A3.length, none⟩) l.length c), (3, .slice q m cq), (4, .int .i64 ((2 * m : Nat) : Int)), (5, .pointer (some ⟨b10, 0, none⟩)), (46, .slice (some ⟨b2, A3.length, none⟩) l.length c), (48, .int .i64 (IntKind.i64.wrap (((2 * m : Nat) : Int) + 1)))]) ?_
        refine setS 48 (.int .i64 ((2 * m + 1 : Nat) : Int)) (nat_inc (by omega)) ?_
        refine SO ?_
        refine O_idx tyOK (2 * m + 1) (n := l.length) (rfl) (by omega) ?_
        refine SO ?_
        refine O_loadR tyOK hw 1 (b := b2) (off := A3.length + (2 * m + 1) * 1) (v := .int .u8 ((x13.toNat : Nat) : Int)) hm7 (ldP_rd (T := TY) (t := 5) (size := 1) (fun _ => rfl) hx14 (by as_aux_lemma => kernel_rfl)) ?_
        refine SP tyOK 2 1 5 [0, 3, 4, 5, 51] (env' := [(0, .slice (some ⟨b2, A3.length, none⟩) l.length c), (3, .slice q m cq), (4, .int .i64 ((2 * m : Nat) : Int)), (5, .pointer (some ⟨b10, 0, none⟩)), (51, .int .i64 (IntKind.i64.wrap ((x13.toNat : Nat) : Int)))]) ?_
        refine setS 51 (.int .i64 ((x13.toNat : Nat) : Int)) (congrArg (Value.int .i64) (u8_i64 x13)) ?_
        refine SP tyOK 1 1 6 [0, 3, 4, 5, 51, 52] (env' := [(0, .slice (some ⟨b2, A3.length, none⟩) l.length c), (3, .slice q m cq), (4, .int .i64 ((2 * m : Nat) : Int)), (5, .pointer (some ⟨b10, 0, none⟩)), (51, .int .i64 ((x13.toNat : Nat) : Int)), (52, .pointer (some ⟨b10, 2, none⟩))]) ?_
        refine SO ?_
        refine O_store tyOK hw 2 (b := b10) (off := 2) (cs' := (encChoice (⟨1, ((x8.toNat / 8 % 4 : Nat) : Int), ((x13.toNat : Nat) : Int)⟩)).toArray) ?_
        clear hw; intro w hw
        replace hw : Own z w [s, L, [(b10, .cells (encChoice (⟨1, ((x8.toNat / 8 % 4 : Nat) : Int), ((x13.toNat : Nat) : Int)⟩)).toArray 39 (0, 0))]] := hw
        refine sEnd ?_
        refine qThen ?_
        refine cReg 5 ?_
        refine SP tyOK 4 1 0 [0, 4, 5, 53] (env' := [(0, .slice (some ⟨b2, A3.length, none⟩) l.length c), (4, .int .i64 ((2 * m : Nat) : Int)), (5, .pointer (some ⟨b10, 0, none⟩)), (53, .slice q m cq)]) ?_
        refine SO ?_
        refine O_load tyOK hw 2 (b := b10) (off := 0) (v := .agg ((encChoice (⟨1, ((x8.toNat / 8 % 4 : Nat) : Int), ((x13.toNat : Nat) : Int)⟩)).toArray)) ?_
        refine SO ?_
        refine O_buildSlice tyOK hw (el := 39) ((encChoice (⟨1, ((x8.toNat / 8 % 4 : Nat) : Int), ((x13.toNat : Nat) : Int)⟩)).toArray) ?_
        clear hw; intro b15 w hw
        replace hw : Own z w [s, L, [(b10, .cells (encChoice (⟨1, ((x8.toNat / 8 % 4 : Nat) : Int), ((x13.toNat : Nat) : Int)⟩)).toArray 39 (0, 0))], [(b15, .cells (encChoice (⟨1, ((x8.toNat / 8 % 4 : Nat) : Int), ((x13.toNat : Nat) : Int)⟩)).toArray 39 (0, 0))]] := hw
        refine SO ?_
        have hch : (⟨1, ((x8.toNat / 8 % 4 : Nat) : Int), ((x13.toNat : Nat) : Int)⟩ : Choice) = chAt l m := chAt_mk hx9 hx14 ((kind_mod (show x8.toNat % 8 = 0 by omega)).trans rfl)
        rw [hch] at hw
        replace hw : Own z w [s, L, [(b10, .cells (encChoice (chAt l m)).toArray 39 (0, 0))], [(b15, .cells (encChoice (chAt l m)).toArray 39 (0, 0))]] := hw
        refine O_append tyOK hw 0 (enc := encChoice) (size := 3) (l := (chsN l m)) (ys := [chAt l m]) (n := m) (fun _ => rfl) (by intro x; simp [encChoice, Value.oneCell']) hsl (by simp [chsN_len]) (fun w hw => Src.all (c := 1) (enc := encChoice) (et := 39) (fr := (0, 0)) (l := [chAt l m]) (fun _ => rfl) (hw.blk 3 rfl)) (g := te39) (by show _ * 24 ≤ _; simp [chsN_len]; omega) ?_
        clear hw; intro p16 c17 s18 w hs' hw
        rw [chsN_succ] at hs'
        rw [show ((chsN l m) ++ [chAt l m]).length = m + 1 by simp [chsN_len]]
        replace hw : Own z w [s18, L, [(b10, .cells (encChoice (chAt l m)).toArray 39 (0, 0))], [(b15, .cells (encChoice (chAt l m)).toArray 39 (0, 0))]] := hw
        refine SP tyOK 0 1 4 [0, 3, 4] (env' := [(0, .slice (some ⟨b2, A3.length, none⟩) l.length c), (3, .slice p16 (m + 1) c17), (4, .int .i64 ((2 * m : Nat) : Int))]) ?_
        refine sEnd ?_
        refine qBlk ?_
        refine qThen ?_
        refine cReg 3 ?_
        refine SP tyOK 1 2 0 [0, 3, 11] (env' := [(0, .slice (some ⟨b2, A3.length, none⟩) l.length c), (3, .slice p16 (m + 1) c17), (11, .int .i64 (IntKind.i64.wrap (((2 * m : Nat) : Int) + 2)))]) ?_
        refine setS 11 (.int .i64 ((2 * (m + 1) : Nat) : Int)) (nat_add2 (by omega)) ?_
        refine SP tyOK 0 1 2 [0, 3, 4] (env' := [(0, .slice (some ⟨b2, A3.length, none⟩) l.length c), (3, .slice p16 (m + 1) c17), (4, .int .i64 ((2 * (m + 1) : Nat) : Int))]) ?_
        refine sEnd ?_
        refine qLoop (l.length - 2 * ((m + 1))) (by omega) [0, 3, 4] (env' := [(0, .slice (some ⟨b2, A3.length, none⟩) l.length c), (3, .slice p16 (m + 1) c17), (4, .int .i64 ((2 * (m + 1) : Nat) : Int))]) ?_
        exact ⟨m + 1, p16, c17, s18, rfl, by omega, hs', rfl, hw.take 2⟩
      ·
        have hb12p : ¬ (((2 * m + 1 : Nat) : Int) < ((l.length : Nat) : Int)) := of_decide_eq_false hb12
        refine setC 45 (.bool false) (congrArg Value.bool hb12) ?_
        refine cF ?_
        refine cSkip ?_
        refine qThen ?_
        refine cReg 5 ?_
        refine SP tyOK 4 1 0 [0, 4, 5, 53] (env' := [(0, .slice (some ⟨b2, A3.length, none⟩) l.length c), (4, .int .i64 ((2 * m : Nat) : Int)), (5, .pointer (some ⟨b10, 0, none⟩)), (53, .slice q m cq)]) ?_
        refine SO ?_
        refine O_load tyOK hw 2 (b := b10) (off := 0) (v := .agg ((encChoice (⟨1, ((x8.toNat / 8 % 4 : Nat) : Int), 0⟩)).toArray)) ?_
        refine SO ?_
        refine O_buildSlice tyOK hw (el := 39) ((encChoice (⟨1, ((x8.toNat / 8 % 4 : Nat) : Int), 0⟩)).toArray) ?_
        clear hw; intro b19 w hw
        replace hw : Own z w [s, L, [(b10, .cells (encChoice (⟨1, ((x8.toNat / 8 % 4 : Nat) : Int), 0⟩)).toArray 39 (0, 0))], [(b19, .cells (encChoice (⟨1, ((x8.toNat / 8 % 4 : Nat) : Int), 0⟩)).toArray 39 (0, 0))]] := hw
        refine SO ?_
        have hch : (⟨1, ((x8.toNat / 8 % 4 : Nat) : Int), 0⟩ : Choice) = chAt l m := chAt_mk0 hx9 (by omega) ((kind_mod (show x8.toNat % 8 = 0 by omega)).trans rfl)
        rw [hch] at hw
        replace hw : Own z w [s, L, [(b10, .cells (encChoice (chAt l m)).toArray 39 (0, 0))], [(b19, .cells (encChoice (chAt l m)).toArray 39 (0, 0))]] := hw
        refine O_append tyOK hw 0 (enc := encChoice) (size := 3) (l := (chsN l m)) (ys := [chAt l m]) (n := m) (fun _ => rfl) (by intro x; simp [encChoice, Value.oneCell']) hsl (by simp [chsN_len]) (fun w hw => Src.all (c := 1) (enc := encChoice) (et := 39) (fr := (0, 0)) (l := [chAt l m]) (fun _ => rfl) (hw.blk 3 rfl)) (g := te39) (by show _ * 24 ≤ _; simp [chsN_len]; omega) ?_
        clear hw; intro p20 c21 s22 w hs' hw
        rw [chsN_succ] at hs'
        rw [show ((chsN l m) ++ [chAt l m]).length = m + 1 by simp [chsN_len]]
        replace hw : Own z w [s22, L, [(b10, .cells (encChoice (chAt l m)).toArray 39 (0, 0))], [(b19, .cells (encChoice (chAt l m)).toArray 39 (0, 0))]] := hw
        refine SP tyOK 0 1 4 [0, 3, 4] (env' := [(0, .slice (some ⟨b2, A3.length, none⟩) l.length c), (3, .slice p20 (m + 1) c21), (4, .int .i64 ((2 * m : Nat) : Int))]) ?_
        refine sEnd ?_
        refine qBlk ?_
        refine qThen ?_
        refine cReg 3 ?_
        refine SP tyOK 1 2 0 [0, 3, 11] (env' := [(0, .slice (some ⟨b2, A3.length, none⟩) l.length c), (3, .slice p20 (m + 1) c21), (11, .int .i64 (IntKind.i64.wrap (((2 * m : Nat) : Int) + 2)))]) ?_
        refine setS 11 (.int .i64 ((2 * (m + 1) : Nat) : Int)) (nat_add2 (by omega)) ?_
        refine SP tyOK 0 1 2 [0, 3, 4] (env' := [(0, .slice (some ⟨b2, A3.length, none⟩) l.length c), (3, .slice p20 (m + 1) c21), (4, .int .i64 ((2 * (m + 1) : Nat) : Int))]) ?_
        refine sEnd ?_
        refine qLoop (l.length - 2 * ((m + 1))) (by omega) [0, 3, 4] (env' := [(0, .slice (some ⟨b2, A3.length, none⟩) l.length c), (3, .slice p20 (m + 1) c21), (4, .int .i64 ((2 * (m + 1) : Nat) : Int))]) ?_
        exact ⟨m + 1, p20, c21, s22, rfl, by omega, hs', rfl, hw.take 2⟩
    ·
      have hb11p : ((x8.toNat % 8 : Nat) : Int) ≠ 0 := by simpa using hb11
      refine setC 26 (.bool false) (congrArg Value.bool hb11) ?_
      refine cF ?_
      refine cReg 2 ?_
      refine SP tyOK 0 2 0 [0, 3, 4, 5, 24, 26] (env' := [(0, .slice (some ⟨b2, A3.length, none⟩) l.length c), (3, .slice q m cq), (4, .int .i64 ((2 * m : Nat) : Int)), (5, .pointer (some ⟨b10, 0, none⟩)), (24, .int .u8 ((x8.toNat % 8 : Nat) : Int)), (26, .bool (((x8.toNat % 8 : Nat) : Int) == 1))]) ?_
      refine sEnd ?_
      refine qThen ?_
      refine two (((x8.toNat % 8 : Nat) : Int) == 1) (fun hb23 => ?_) (fun hb23 => ?_)
      ·
        have hb23p : ((x8.toNat % 8 : Nat) : Int) = 1 := by simpa using hb23
        refine setC 26 (.bool true) (congrArg Value.bool hb23) ?_
        refine cT ?_
        refine cReg 2 ?_
        refine SP tyOK 1 1 0 [0, 3, 4, 5, 29] (env' := [(0, .slice (some ⟨b2, A3.length, none⟩) l.length c), (3, .slice q m cq), (4, .int .i64 ((2 * m : Nat) : Int)), (5, .pointer (some ⟨b10, 0, none⟩)), (29, .pointer (some ⟨b10, 0, none⟩))]) ?_
        refine SO ?_
        refine O_store tyOK hw 2 (b := b10) (off := 0) (cs' := (encChoice (⟨1, ((x8.toNat / 8 % 4 : Nat) : Int), 0⟩)).toArray) ?_
        clear hw; intro w hw
        replace hw : Own z w [s, L, [(b10, .cells (encChoice (⟨1, ((x8.toNat / 8 % 4 : Nat) : Int), 0⟩)).toArray 39 (0, 0))]] := hw
        refine sEnd ?_
        refine qBlk ?_
        refine qThen ?_
        refine cSeq ?_
        refine cSeq ?_
        refine cReg 5 ?_
        refine SP tyOK 3 2 0 [0, 3, 4, 5, 42] (env' := [(0, .slice (some ⟨b2, A3.length, none⟩) l.length c), (3, .slice q m cq), (4, .int .i64 ((2 * m : Nat) : Int)), (5, .pointer (some ⟨b10, 0, none⟩)), (42, .int .i64 (IntKind.i64.wrap (((2 * m : Nat) : Int) + 1)))]) ?_
        refine setS 42 (.int .i64 ((2 * m + 1 : Nat) : Int)) (nat_inc (by omega)) ?_
        refine SP tyOK 0 3 2 [0, 3, 4, 5, 45] (env' := [(0, .slice (some ⟨b2, A3.length, none⟩) l.length c), (3, .slice q m cq), (4, .int .i64 ((2 * m : Nat) : Int)), (5, .pointer (some ⟨b10, 0, none⟩)), (45, .bool (decide (((2 * m + 1 : Nat) : Int) < ((l.length : Nat) : Int))))]) ?_
        refine sEnd ?_
        refine qThen ?_
        refine two (decide (((2 * m + 1 : Nat) : Int) < ((l.length : Nat) : Int))) (fun hb24 => ?_) (fun hb24 => ?_)
        ·
          have hb24p : ((2 * m + 1 : Nat) : Int) < ((l.length : Nat) : Int) := of_decide_eq_true hb24
          refine setC 45 (.bool true) (congrArg Value.bool hb24) ?_
          refine cT ?_
          obtain ⟨x25, hx26⟩ : ∃ x, l[2 * m + 1]? = some x := ⟨_, List.getElem?_eq_getElem (by omega)⟩
          refine cReg 8 ?_
          refine SP tyOK 5 3 0 [0, 3, 4, 5, 46, 48] (env' := [(0, .slice (some ⟨b2, A3.length, none⟩) l.length c), (3, .slice q m cq), (4, .int .i64 ((2 * m : Nat) : Int)), (5, .pointer (some ⟨b10, 0, none⟩)), (46, .slice (some ⟨b2, A3.length, none⟩) l.length c), (48, .int .i64 (IntKind.i64.wrap (((2 * m : Nat) : Int) + 1)))]) ?_
          refine setS 48 (.int .i64 ((2 * m + 1 : Nat) : Int)) (nat_inc (by omega)) ?_
          refine SO ?_
          refine O_idx tyOK (2 * m + 1) (n := l.length) (rfl) (by omega) ?_
          refine SO ?_
          refine O_loadR tyOK hw 1 (b := b2) (off := A3.length + (2 * m + 1) * 1) (v := .int .u8 ((x25.toNat : Nat) : Int)) hm7 (ldP_rd (T := TY) (t := 5) (size := 1) (fun _ => rfl) hx26 (by as_aux_lemma => kernel_rfl)) ?_
          refine SP tyOK 2 1 5 [0, 3, 4, 5, 51] (env' := [(0, .slice (some ⟨b2, A3.length, none⟩) l.length c), (3, .slice q m cq), (4, .int .i64 ((2 * m : Nat) : Int)), (5, .pointer (some ⟨b10, 0, none⟩)), (51, .int .i64 (IntKind.i64.wrap ((x25.toNat : Nat) : Int)))]) ?_
          refine setS 51 (.int .i64 ((x25.toNat : Nat) : Int)) (congrArg (Value.int .i64) (u8_i64 x25)) ?_
          refine SP tyOK 1 1 6 [0, 3, 4, 5, 51, 52] (env' := [(0, .slice (some ⟨b2, A3.length, none⟩) l.length c), (3, .slice q m cq), (4, .int .i64 ((2 * m : Nat) : Int)), (5, .pointer (some ⟨b10, 0, none⟩)), (51, .int .i64 ((x25.toNat : Nat) : Int)), (52, .pointer (some ⟨b10, 2, none⟩))]) ?_
          refine SO ?_
          refine O_store tyOK hw 2 (b := b10) (off := 2) (cs' := (encChoice (⟨1, ((x8.toNat / 8 % 4 : Nat) : Int), ((x25.toNat : Nat) : Int)⟩)).toArray) ?_
          clear hw; intro w hw
          replace hw : Own z w [s, L, [(b10, .cells (encChoice (⟨1, ((x8.toNat / 8 % 4 : Nat) : Int), ((x25.toNat : Nat) : Int)⟩)).toArray 39 (0, 0))]] := hw
          refine sEnd ?_
          refine qThen ?_
          refine cReg 5 ?_
          refine SP tyOK 4 1 0 [0, 4, 5, 53] (env' := [(0, .slice (some ⟨b2, A3.length, none⟩) l.length c), (4, .int .i64 ((2 * m : Nat) : Int)), (5, .pointer (some ⟨b10, 0, none⟩)), (53, .slice q m cq)]) ?_
          refine SO ?_
          refine O_load tyOK hw 2 (b := b10) (off := 0) (v := .agg ((encChoice (⟨1, ((x8.toNat / 8 % 4 : Nat) : Int), ((x25.toNat : Nat) : Int)⟩)).toArray)) ?_
          refine SO ?_
          refine O_buildSlice tyOK hw (el := 39) ((encChoice (⟨1, ((x8.toNat / 8 % 4 : Nat) : Int), ((x25.toNat : Nat) : Int)⟩)).toArray) ?_
          clear hw; intro b27 w hw
          replace hw : Own z w [s, L, [(b10, .cells (encChoice (⟨1, ((x8.toNat / 8 % 4 : Nat) : Int), ((x25.toNat : Nat) : Int)⟩)).toArray 39 (0, 0))], [(b27, .cells (encChoice (⟨1, ((x8.toNat / 8 % 4 : Nat) : Int), ((x25.toNat : Nat) : Int)⟩)).toArray 39 (0, 0))]] := hw
          refine SO ?_
          have hch : (⟨1, ((x8.toNat / 8 % 4 : Nat) : Int), ((x25.toNat : Nat) : Int)⟩ : Choice) = chAt l m := chAt_mk hx9 hx26 ((kind_mod (show x8.toNat % 8 = 1 by omega)).trans rfl)
          rw [hch] at hw
          replace hw : Own z w [s, L, [(b10, .cells (encChoice (chAt l m)).toArray 39 (0, 0))], [(b27, .cells (encChoice (chAt l m)).toArray 39 (0, 0))]] := hw
          refine O_append tyOK hw 0 (enc := encChoice) (size := 3) (l := (chsN l m)) (ys := [chAt l m]) (n := m) (fun _ => rfl) (by intro x; simp [encChoice, Value.oneCell']) hsl (by simp [chsN_len]) (fun w hw => Src.all (c := 1) (enc := encChoice) (et := 39) (fr := (0, 0)) (l := [chAt l m]) (fun _ => rfl) (hw.blk 3 rfl)) (g := te39) (by show _ * 24 ≤ _; simp [chsN_len]; omega) ?_
          clear hw; intro p28 c29 s30 w hs' hw
          rw [chsN_succ] at hs'
          rw [show ((chsN l m) ++ [chAt l m]).length = m + 1 by simp [chsN_len]]
          replace hw : Own z w [s30, L, [(b10, .cells (encChoice (chAt l m)).toArray 39 (0, 0))], [(b27, .cells (encChoice (chAt l m)).toArray 39 (0, 0))]] := hw
          refine SP tyOK 0 1 4 [0, 3, 4] (env' := [(0, .slice (some ⟨b2, A3.length, none⟩) l.length c), (3, .slice p28 (m + 1) c29), (4, .int .i64 ((2 * m : Nat) : Int))]) ?_
          refine sEnd ?_
          refine qBlk ?_
          refine qThen ?_
          refine cReg 3 ?_
          refine SP tyOK 1 2 0 [0, 3, 11] (env' := [(0, .slice (some ⟨b2, A3.length, none⟩) l.length c), (3, .slice p28 (m + 1) c29), (11, .int .i64 (IntKind.i64.wrap (((2 * m : Nat) : Int) + 2)))]) ?_
          refine setS 11 (.int .i64 ((2 * (m + 1) : Nat) : Int)) (nat_add2 (by omega)) ?_
          refine SP tyOK 0 1 2 [0, 3, 4] (env' := [(0, .slice (some ⟨b2, A3.length, none⟩) l.length c), (3, .slice p28 (m + 1) c29), (4, .int .i64 ((2 * (m + 1) : Nat) : Int))]) ?_
          refine sEnd ?_
          refine qLoop (l.length - 2 * ((m + 1))) (by omega) [0, 3, 4] (env' := [(0, .slice (some ⟨b2, A3.length, none⟩) l.length c), (3, .slice p28 (m + 1) c29), (4, .int .i64 ((2 * (m + 1) : Nat) : Int))]) ?_
          exact ⟨m + 1, p28, c29, s30, rfl, by omega, hs', rfl, hw.take 2⟩
        ·
          have hb24p : ¬ (((2 * m + 1 : Nat) : Int) < ((l.length : Nat) : Int)) := of_decide_eq_false hb24
          refine setC 45 (.bool false) (congrArg Value.bool hb24) ?_
          refine cF ?_
          refine cSkip ?_
          refine qThen ?_
          refine cReg 5 ?_
          refine SP tyOK 4 1 0 [0, 4, 5, 53] (env' := [(0, .slice (some ⟨b2, A3.length, none⟩) l.length c), (4, .int .i64 ((2 * m : Nat) : Int)), (5, .pointer (some ⟨b10, 0, none⟩)), (53, .slice q m cq)]) ?_
          refine SO ?_
          refine O_load tyOK hw 2 (b := b10) (off := 0) (v := .agg ((encChoice (⟨1, ((x8.toNat / 8 % 4 : Nat) : Int), 0⟩)).toArray)) ?_
          refine SO ?_
          refine O_buildSlice tyOK hw (el := 39) ((encChoice (⟨1, ((x8.toNat / 8 % 4 : Nat) : Int), 0⟩)).toArray) ?_
          clear hw; intro b31 w hw
          replace hw : Own z w [s, L, [(b10, .cells (encChoice (⟨1, ((x8.toNat / 8 % 4 : Nat) : Int), 0⟩)).toArray 39 (0, 0))], [(b31, .cells (encChoice (⟨1, ((x8.toNat / 8 % 4 : Nat) : Int), 0⟩)).toArray 39 (0, 0))]] := hw
          refine SO ?_
          have hch : (⟨1, ((x8.toNat / 8 % 4 : Nat) : Int), 0⟩ : Choice) = chAt l m := chAt_mk0 hx9 (by omega) ((kind_mod (show x8.toNat % 8 = 1 by omega)).trans rfl)
          rw [hch] at hw
          replace hw : Own z w [s, L, [(b10, .cells (encChoice (chAt l m)).toArray 39 (0, 0))], [(b31, .cells (encChoice (chAt l m)).toArray 39 (0, 0))]] := hw
          refine O_append tyOK hw 0 (enc := encChoice) (size := 3) (l := (chsN l m)) (ys := [chAt l m]) (n := m) (fun _ => rfl) (by intro x; simp [encChoice, Value.oneCell']) hsl (by simp [chsN_len]) (fun w hw => Src.all (c := 1) (enc := encChoice) (et := 39) (fr := (0, 0)) (l := [chAt l m]) (fun _ => rfl) (hw.blk 3 rfl)) (g := te39) (by show _ * 24 ≤ _; simp [chsN_len]; omega) ?_
          clear hw; intro p32 c33 s34 w hs' hw
          rw [chsN_succ] at hs'
          rw [show ((chsN l m) ++ [chAt l m]).length = m + 1 by simp [chsN_len]]
          replace hw : Own z w [s34, L, [(b10, .cells (encChoice (chAt l m)).toArray 39 (0, 0))], [(b31, .cells (encChoice (chAt l m)).toArray 39 (0, 0))]] := hw
          refine SP tyOK 0 1 4 [0, 3, 4] (env' := [(0, .slice (some ⟨b2, A3.length, none⟩) l.length c), (3, .slice p32 (m + 1) c33), (4, .int .i64 ((2 * m : Nat) : Int))]) ?_
          refine sEnd ?_
          refine qBlk ?_
          refine qThen ?_
          refine cReg 3 ?_
          refine SP tyOK 1 2 0 [0, 3, 11] (env' := [(0, .slice (some ⟨b2, A3.length, none⟩) l.length c), (3, .slice p32 (m + 1) c33), (11, .int .i64 (IntKind.i64.wrap (((2 * m : Nat) : Int) + 2)))]) ?_
          refine setS 11 (.int .i64 ((2 * (m + 1) : Nat) : Int)) (nat_add2 (by omega)) ?_
          refine SP tyOK 0 1 2 [0, 3, 4] (env' := [(0, .slice (some ⟨b2, A3.length, none⟩) l.length c), (3, .slice p32 (m + 1) c33), (4, .int .i64 ((2 * (m + 1) : Nat) : Int))]) ?_
          refine sEnd ?_
          refine qLoop (l.length - 2 * ((m + 1))) (by omega) [0, 3, 4] (env' := [(0, .slice (some ⟨b2, A3.length, none⟩) l.length c), (3, .slice p32 (m + 1) c33), (4, .int .i64 ((2 * (m + 1) : Nat) : Int))]) ?_
          exact ⟨m + 1, p32, c33, s34, rfl, by omega, hs', rfl, hw.take 2⟩
      ·
        have hb23p : ((x8.toNat % 8 : Nat) : Int) ≠ 1 := by simpa using hb23
        refine setC 26 (.bool false) (congrArg Value.bool hb23) ?_
        refine cF ?_
        refine cSeq ?_
        refine cSeq ?_
        refine cReg 2 ?_
        refine SP tyOK 0 2 0 [0, 3, 4, 5, 24, 30] (env' := [(0, .slice (some ⟨b2, A3.length, none⟩) l.length c), (3, .slice q m cq), (4, .int .i64 ((2 * m : Nat) : Int)), (5, .pointer (some ⟨b10, 0, none⟩)), (24, .int .u8 ((x8.toNat % 8 : Nat) : Int)), (30, .bool (((x8.toNat % 8 : Nat) : Int) == 2))]) ?_
        refine sEnd ?_
        refine qThen ?_
        refine two (((x8.toNat % 8 : Nat) : Int) == 2) (fun hb35 => ?_) (fun hb35 => ?_)
        ·
          have hb35p : ((x8.toNat % 8 : Nat) : Int) = 2 := by simpa using hb35
          refine setC 30 (.bool true) (congrArg Value.bool hb35) ?_
          refine cT ?_
          refine cSkip ?_
          refine qThen ?_
          refine cT ?_
          refine cReg 2 ?_
          refine SP tyOK 1 1 0 [0, 3, 4, 5, 33] (env' := [(0, .slice (some ⟨b2, A3.length, none⟩) l.length c), (3, .slice q m cq), (4, .int .i64 ((2 * m : Nat) : Int)), (5, .pointer (some ⟨b10, 0, none⟩)), (33, .pointer (some ⟨b10, 0, none⟩))]) ?_
          refine SO ?_
          refine O_store tyOK hw 2 (b := b10) (off := 0) (cs' := (encChoice (⟨2, ((x8.toNat / 8 % 4 : Nat) : Int), 0⟩)).toArray) ?_
          clear hw; intro w hw
          replace hw : Own z w [s, L, [(b10, .cells (encChoice (⟨2, ((x8.toNat / 8 % 4 : Nat) : Int), 0⟩)).toArray 39 (0, 0))]] := hw
          refine sEnd ?_
          refine qBlk ?_
          refine qThen ?_
          refine cSeq ?_
          refine cSeq ?_
          refine cReg 5 ?_
          refine SP tyOK 3 2 0 [0, 3, 4, 5, 42] (env' := [(0, .slice (some ⟨b2, A3.length, none⟩) l.length c), (3, .slice q m cq), (4, .int .i64 ((2 * m : Nat) : Int)), (5, .pointer (some ⟨b10, 0, none⟩)), (42, .int .i64 (IntKind.i64.wrap (((2 * m : Nat) : Int) + 1)))]) ?_
          refine setS 42 (.int .i64 ((2 * m + 1 : Nat) : Int)) (nat_inc (by omega)) ?_
          refine SP tyOK 0 3 2 [0, 3, 4, 5, 45] (env' := [(0, .slice (some ⟨b2, A3.length, none⟩) l.length c), (3, .slice q m cq), (4, .int .i64 ((2 * m : Nat) : Int)), (5, .pointer (some ⟨b10, 0, none⟩)), (45, .bool (decide (((2 * m + 1 : Nat) : Int) < ((l.length : Nat) : Int))))]) ?_
          refine sEnd ?_
          refine qThen ?_
          refine two (decide (((2 * m + 1 : Nat) : Int) < ((l.length : Nat) : Int))) (fun hb36 => ?_) (fun hb36 => ?_)
          ·
            have hb36p : ((2 * m + 1 : Nat) : Int) < ((l.length : Nat) : Int) := of_decide_eq_true hb36
            refine setC 45 (.bool true) (congrArg Value.bool hb36) ?_
            refine cT ?_
            obtain ⟨x37, hx38⟩ : ∃ x, l[2 * m + 1]? = some x := ⟨_, List.getElem?_eq_getElem (by omega)⟩
            refine cReg 8 ?_
            refine SP tyOK 5 3 0 [0, 3, 4, 5, 46, 48] (env' := [(0, .slice (some ⟨b2, A3.length, none⟩) l.length c), (3, .slice q m cq), (4, .int .i64 ((2 * m : Nat) : Int)), (5, .pointer (some ⟨b10, 0, none⟩)), (46, .slice (some ⟨b2, A3.length, none⟩) l.length c), (48, .int .i64 (IntKind.i64.wrap (((2 * m : Nat) : Int) + 1)))]) ?_
            refine setS 48 (.int .i64 ((2 * m + 1 : Nat) : Int)) (nat_inc (by omega)) ?_
            refine SO ?_
            refine O_idx tyOK (2 * m + 1) (n := l.length) (rfl) (by omega) ?_
            refine SO ?_
            refine O_loadR tyOK hw 1 (b := b2) (off := A3.length + (2 * m + 1) * 1) (v := .int .u8 ((x37.toNat : Nat) : Int)) hm7 (ldP_rd (T := TY) (t := 5) (size := 1) (fun _ => rfl) hx38 (by as_aux_lemma => kernel_rfl)) ?_
            refine SP tyOK 2 1 5 [0, 3, 4, 5, 51] (env' := [(0, .slice (some ⟨b2, A3.length, none⟩) l.length c), (3, .slice q m cq), (4, .int .i64 ((2 * m : Nat) : Int)), (5, .pointer (some ⟨b10, 0, none⟩)), (51, .int .i64 (IntKind.i64.wrap ((x37.toNat : Nat) : Int)))]) ?_
            refine setS 51 (.int .i64 ((x37.toNat : Nat) : Int)) (congrArg (Value.int .i64) (u8_i64 x37)) ?_
            refine SP tyOK 1 1 6 [0, 3, 4, 5, 51, 52] (env' := [(0, .slice (some ⟨b2, A3.length, none⟩) l.length c), (3, .slice q m cq), (4, .int .i64 ((2 * m : Nat) : Int)), (5, .pointer (some ⟨b10, 0, none⟩)), (51, .int .i64 ((x37.toNat : Nat) : Int)), (52, .pointer (some ⟨b10, 2, none⟩))]) ?_
            refine SO ?_
            refine O_store tyOK hw 2 (b := b10) (off := 2) (cs' := (encChoice (⟨2, ((x8.toNat / 8 % 4 : Nat) : Int), ((x37.toNat : Nat) : Int)⟩)).toArray) ?_
            clear hw; intro w hw
            replace hw : Own z w [s, L, [(b10, .cells (encChoice (⟨2, ((x8.toNat / 8 % 4 : Nat) : Int), ((x37.toNat : Nat) : Int)⟩)).toArray 39 (0, 0))]] := hw
            refine sEnd ?_
            refine qThen ?_
            refine cReg 5 ?_
            refine SP tyOK 4 1 0 [0, 4, 5, 53] (env' := [(0, .slice (some ⟨b2, A3.length, none⟩) l.length c), (4, .int .i64 ((2 * m : Nat) : Int)), (5, .pointer (some ⟨b10, 0, none⟩)), (53, .slice q m cq)]) ?_
            refine SO ?_
            refine O_load tyOK hw 2 (b := b10) (off := 0) (v := .agg ((encChoice (⟨2, ((x8.toNat / 8 % 4 : Nat) : Int), ((x37.toNat : Nat) : Int)⟩)).toArray)) ?_
            refine SO ?_
            refine O_buildSlice tyOK hw (el := 39) ((encChoice (⟨2, ((x8.toNat / 8 % 4 : Nat) : Int), ((x37.toNat : Nat) : Int)⟩)).toArray) ?_
            clear hw; intro b39 w hw
            replace hw : Own z w [s, L, [(b10, .cells (encChoice (⟨2, ((x8.toNat / 8 % 4 : Nat) : Int), ((x37.toNat : Nat) : Int)⟩)).toArray 39 (0, 0))], [(b39, .cells (encChoice (⟨2, ((x8.toNat / 8 % 4 : Nat) : Int), ((x37.toNat : Nat) : Int)⟩)).toArray 39 (0, 0))]] := hw
            refine SO ?_
            have hch : (⟨2, ((x8.toNat / 8 % 4 : Nat) : Int), ((x37.toNat : Nat) : Int)⟩ : Choice) = chAt l m := chAt_mk hx9 hx38 ((kind_mod (show x8.toNat % 8 = 2 by omega)).trans rfl)
            rw [hch] at hw
            replace hw : Own z w [s, L, [(b10, .cells (encChoice (chAt l m)).toArray 39 (0, 0))], [(b39, .cells (encChoice (chAt l m)).toArray 39 (0, 0))]] := hw
            refine O_append tyOK hw 0 (enc := encChoice) (size := 3) (l := (chsN l m)) (ys := [chAt l m]) (n := m) (fun _ => rfl) (by intro x; simp [encChoice, Value.oneCell']) hsl (by simp [chsN_len]) (fun w hw => Src.all (c := 1) (enc := encChoice) (et := 39) (fr := (0, 0)) (l := [chAt l m]) (fun _ => rfl) (hw.blk 3 rfl)) (g := te39) (by show _ * 24 ≤ _; simp [chsN_len]; omega) ?_
            clear hw; intro p40 c41 s42 w hs' hw
            rw [chsN_succ] at hs'
            rw [show ((chsN l m) ++ [chAt l m]).length = m + 1 by simp [chsN_len]]
            replace hw : Own z w [s42, L, [(b10, .cells (encChoice (chAt l m)).toArray 39 (0, 0))], [(b39, .cells (encChoice (chAt l m)).toArray 39 (0, 0))]] := hw
            refine SP tyOK 0 1 4 [0, 3, 4] (env' := [(0, .slice (some ⟨b2, A3.length, none⟩) l.length c), (3, .slice p40 (m + 1) c41), (4, .int .i64 ((2 * m : Nat) : Int))]) ?_
            refine sEnd ?_
            refine qBlk ?_
            refine qThen ?_
            refine cReg 3 ?_
            refine SP tyOK 1 2 0 [0, 3, 11] (env' := [(0, .slice (some ⟨b2, A3.length, none⟩) l.length c), (3, .slice p40 (m + 1) c41), (11, .int .i64 (IntKind.i64.wrap (((2 * m : Nat) : Int) + 2)))]) ?_
            refine setS 11 (.int .i64 ((2 * (m + 1) : Nat) : Int)) (nat_add2 (by omega)) ?_
            refine SP tyOK 0 1 2 [0, 3, 4] (env' := [(0, .slice (some ⟨b2, A3.length, none⟩) l.length c), (3, .slice p40 (m + 1) c41), (4, .int .i64 ((2 * (m + 1) : Nat) : Int))]) ?_
            refine sEnd ?_
            refine qLoop (l.length - 2 * ((m + 1))) (by omega) [0, 3, 4] (env' := [(0, .slice (some ⟨b2, A3.length, none⟩) l.length c), (3, .slice p40 (m + 1) c41), (4, .int .i64 ((2 * (m + 1) : Nat) : Int))]) ?_
            exact ⟨m + 1, p40, c41, s42, rfl, by omega, hs', rfl, hw.take 2⟩
          ·
            have hb36p : ¬ (((2 * m + 1 : Nat) : Int) < ((l.length : Nat) : Int)) := of_decide_eq_false hb36
            refine setC 45 (.bool false) (congrArg Value.bool hb36) ?_
            refine cF ?_
            refine cSkip ?_
            refine qThen ?_
            refine cReg 5 ?_
            refine SP tyOK 4 1 0 [0, 4, 5, 53] (env' := [(0, .slice (some ⟨b2, A3.length, none⟩) l.length c), (4, .int .i64 ((2 * m : Nat) : Int)), (5, .pointer (some ⟨b10, 0, none⟩)), (53, .slice q m cq)]) ?_
            refine SO ?_
            refine O_load tyOK hw 2 (b := b10) (off := 0) (v := .agg ((encChoice (⟨2, ((x8.toNat / 8 % 4 : Nat) : Int), 0⟩)).toArray)) ?_
            refine SO ?_
            refine O_buildSlice tyOK hw (el := 39) ((encChoice (⟨2, ((x8.toNat / 8 % 4 : Nat) : Int), 0⟩)).toArray) ?_
            clear hw; intro b43 w hw
            replace hw : Own z w [s, L, [(b10, .cells (encChoice (⟨2, ((x8.toNat / 8 % 4 : Nat) : Int), 0⟩)).toArray 39 (0, 0))], [(b43, .cells (encChoice (⟨2, ((x8.toNat / 8 % 4 : Nat) : Int), 0⟩)).toArray 39 (0, 0))]] := hw
            refine SO ?_
            have hch : (⟨2, ((x8.toNat / 8 % 4 : Nat) : Int), 0⟩ : Choice) = chAt l m := chAt_mk0 hx9 (by omega) ((kind_mod (show x8.toNat % 8 = 2 by omega)).trans rfl)
            rw [hch] at hw
            replace hw : Own z w [s, L, [(b10, .cells (encChoice (chAt l m)).toArray 39 (0, 0))], [(b43, .cells (encChoice (chAt l m)).toArray 39 (0, 0))]] := hw
            refine O_append tyOK hw 0 (enc := encChoice) (size := 3) (l := (chsN l m)) (ys := [chAt l m]) (n := m) (fun _ => rfl) (by intro x; simp [encChoice, Value.oneCell']) hsl (by simp [chsN_len]) (fun w hw => Src.all (c := 1) (enc := encChoice) (et := 39) (fr := (0, 0)) (l := [chAt l m]) (fun _ => rfl) (hw.blk 3 rfl)) (g := te39) (by show _ * 24 ≤ _; simp [chsN_len]; omega) ?_
            clear hw; intro p44 c45 s46 w hs' hw
            rw [chsN_succ] at hs'
            rw [show ((chsN l m) ++ [chAt l m]).length = m + 1 by simp [chsN_len]]
            replace hw : Own z w [s46, L, [(b10, .cells (encChoice (chAt l m)).toArray 39 (0, 0))], [(b43, .cells (encChoice (chAt l m)).toArray 39 (0, 0))]] := hw
            refine SP tyOK 0 1 4 [0, 3, 4] (env' := [(0, .slice (some ⟨b2, A3.length, none⟩) l.length c), (3, .slice p44 (m + 1) c45), (4, .int .i64 ((2 * m : Nat) : Int))]) ?_
            refine sEnd ?_
            refine qBlk ?_
            refine qThen ?_
            refine cReg 3 ?_
            refine SP tyOK 1 2 0 [0, 3, 11] (env' := [(0, .slice (some ⟨b2, A3.length, none⟩) l.length c), (3, .slice p44 (m + 1) c45), (11, .int .i64 (IntKind.i64.wrap (((2 * m : Nat) : Int) + 2)))]) ?_
            refine setS 11 (.int .i64 ((2 * (m + 1) : Nat) : Int)) (nat_add2 (by omega)) ?_
            refine SP tyOK 0 1 2 [0, 3, 4] (env' := [(0, .slice (some ⟨b2, A3.length, none⟩) l.length c), (3, .slice p44 (m + 1) c45), (4, .int .i64 ((2 * (m + 1) : Nat) : Int))]) ?_
            refine sEnd ?_
            refine qLoop (l.length - 2 * ((m + 1))) (by omega) [0, 3, 4] (env' := [(0, .slice (some ⟨b2, A3.length, none⟩) l.length c), (3, .slice p44 (m + 1) c45), (4, .int .i64 ((2 * (m + 1) : Nat) : Int))]) ?_
            exact ⟨m + 1, p44, c45, s46, rfl, by omega, hs', rfl, hw.take 2⟩
        ·
          have hb35p : ((x8.toNat % 8 : Nat) : Int) ≠ 2 := by simpa using hb35
          refine setC 30 (.bool false) (congrArg Value.bool hb35) ?_
          refine cF ?_
          refine cReg 2 ?_
          refine SP tyOK 0 2 0 [0, 3, 4, 5, 24, 30] (env' := [(0, .slice (some ⟨b2, A3.length, none⟩) l.length c), (3, .slice q m cq), (4, .int .i64 ((2 * m : Nat) : Int)), (5, .pointer (some ⟨b10, 0, none⟩)), (24, .int .u8 ((x8.toNat % 8 : Nat) : Int)), (30, .bool (((x8.toNat % 8 : Nat) : Int) == 3))]) ?_
          refine sEnd ?_
          refine qThen ?_
          refine two (((x8.toNat % 8 : Nat) : Int) == 3) (fun hb47 => ?_) (fun hb47 => ?_)
          ·
            have hb47p : ((x8.toNat % 8 : Nat) : Int) = 3 := by simpa using hb47
            refine setC 30 (.bool true) (congrArg Value.bool hb47) ?_
            refine cT ?_
            refine cReg 2 ?_
            refine SP tyOK 1 1 0 [0, 3, 4, 5, 33] (env' := [(0, .slice (some ⟨b2, A3.length, none⟩) l.length c), (3, .slice q m cq), (4, .int .i64 ((2 * m : Nat) : Int)), (5, .pointer (some ⟨b10, 0, none⟩)), (33, .pointer (some ⟨b10, 0, none⟩))]) ?_
            refine SO ?_
            refine O_store tyOK hw 2 (b := b10) (off := 0) (cs' := (encChoice (⟨2, ((x8.toNat / 8 % 4 : Nat) : Int), 0⟩)).toArray) ?_
            clear hw; intro w hw
            replace hw : Own z w [s, L, [(b10, .cells (encChoice (⟨2, ((x8.toNat / 8 % 4 : Nat) : Int), 0⟩)).toArray 39 (0, 0))]] := hw
            refine sEnd ?_
            refine qBlk ?_
            refine qThen ?_
            refine cSeq ?_
            refine cSeq ?_
            refine cReg 5 ?_
            refine SP tyOK 3 2 0 [0, 3, 4, 5, 42] (env' := [(0, .slice (some ⟨b2, A3.length, none⟩) l.length c), (3, .slice q m cq), (4, .int .i64 ((2 * m : Nat) : Int)), (5, .pointer (some ⟨b10, 0, none⟩)), (42, .int .i64 (IntKind.i64.wrap (((2 * m : Nat) : Int) + 1)))]) ?_
            refine setS 42 (.int .i64 ((2 * m + 1 : Nat) : Int)) (nat_inc (by omega)) ?_
            refine SP tyOK 0 3 2 [0, 3, 4, 5, 45] (env' := [(0, .slice (some ⟨b2, A3.length, none⟩) l.length c), (3, .slice q m cq), (4, .int .i64 ((2 * m : Nat) : Int)), (5, .pointer (some ⟨b10, 0, none⟩)), (45, .bool (decide (((2 * m + 1 : Nat) : Int) < ((l.length : Nat) : Int))))]) ?_
            refine sEnd ?_
            refine qThen ?_
            refine two (decide (((2 * m + 1 : Nat) : Int) < ((l.length : Nat) : Int))) (fun hb48 => ?_) (fun hb48 => ?_)
            ·
              have hb48p : ((2 * m + 1 : Nat) : Int) < ((l.length : Nat) : Int) := of_decide_eq_true hb48
              refine setC 45 (.bool true) (congrArg Value.bool hb48) ?_
              refine cT ?_
              obtain ⟨x49, hx50⟩ : ∃ x, l[2 * m + 1]? = some x := ⟨_, List.getElem?_eq_getElem (by omega)⟩
              refine cReg 8 ?_
              refine SP tyOK 5 3 0 [0, 3, 4, 5, 46, 48] (env' := [(0, .slice (some ⟨b2, A3.length, none⟩) l.length c), (3, .slice q m cq), (4, .int .i64 ((2 * m : Nat) : Int)), (5, .pointer (some ⟨b10, 0, none⟩)), (46, .slice (some ⟨b2, A3.length, none⟩) l.length c), (48, .int .i64 (IntKind.i64.wrap (((2 * m : Nat) : Int) + 1)))]) ?_
              refine setS 48 (.int .i64 ((2 * m + 1 : Nat) : Int)) (nat_inc (by omega)) ?_
              refine SO ?_
              refine O_idx tyOK (2 * m + 1) (n := l.length) (rfl) (by omega) ?_
              refine SO ?_
              refine O_loadR tyOK hw 1 (b := b2) (off := A3.length + (2 * m + 1) * 1) (v := .int .u8 ((x49.toNat : Nat) : Int)) hm7 (ldP_rd (T := TY) (t := 5) (size := 1) (fun _ => rfl) hx50 (by as_aux_lemma => kernel_rfl)) ?_
              refine SP tyOK 2 1 5 [0, 3, 4, 5, 51] (env' := [(0, .slice (some ⟨b2, A3.length, none⟩) l.length c), (3, .slice q m cq), (4, .int .i64 ((2 * m : Nat) : Int)), (5, .pointer (some ⟨b10, 0, none⟩)), (51, .int .i64 (IntKind.i64.wrap ((x49.toNat : Nat) : Int)))]) ?_
              refine setS 51 (.int .i64 ((x49.toNat : Nat) : Int)) (congrArg (Value.int .i64) (u8_i64 x49)) ?_
              refine SP tyOK 1 1 6 [0, 3, 4, 5, 51, 52] (env' := [(0, .slice (some ⟨b2, A3.length, none⟩) l.length c), (3, .slice q m cq), (4, .int .i64 ((2 * m : Nat) : Int)), (5, .pointer (some ⟨b10, 0, none⟩)), (51, .int .i64 ((x49.toNat : Nat) : Int)), (52, .pointer (some ⟨b10, 2, none⟩))]) ?_
              refine SO ?_
              refine O_store tyOK hw 2 (b := b10) (off := 2) (cs' := (encChoice (⟨2, ((x8.toNat / 8 % 4 : Nat) : Int), ((x49.toNat : Nat) : Int)⟩)).toArray) ?_
              clear hw; intro w hw
              replace hw : Own z w [s, L, [(b10, .cells (encChoice (⟨2, ((x8.toNat / 8 % 4 : Nat) : Int), ((x49.toNat : Nat) : Int)⟩)).toArray 39 (0, 0))]] := hw
              refine sEnd ?_
              refine qThen ?_
              refine cReg 5 ?_
              refine SP tyOK 4 1 0 [0, 4, 5, 53] (env' := [(0, .slice (some ⟨b2, A3.length, none⟩) l.length c), (4, .int .i64 ((2 * m : Nat) : Int)), (5, .pointer (some ⟨b10, 0, none⟩)), (53, .slice q m cq)]) ?_
              refine SO ?_
              refine O_load tyOK hw 2 (b := b10) (off := 0) (v := .agg ((encChoice (⟨2, ((x8.toNat / 8 % 4 : Nat) : Int), ((x49.toNat : Nat) : Int)⟩)).toArray)) ?_
              refine SO ?_
              refine O_buildSlice tyOK hw (el := 39) ((encChoice (⟨2, ((x8.toNat / 8 % 4 : Nat) : Int), ((x49.toNat : Nat) : Int)⟩)).toArray) ?_
              clear hw; intro b51 w hw
              replace hw : Own z w [s, L, [(b10, .cells (encChoice (⟨2, ((x8.toNat / 8 % 4 : Nat) : Int), ((x49.toNat : Nat) : Int)⟩)).toArray 39 (0, 0))], [(b51, .cells (encChoice (⟨2, ((x8.toNat / 8 % 4 : Nat) : Int), ((x49.toNat : Nat) : Int)⟩)).toArray 39 (0, 0))]] := hw
              refine SO ?_
              have hch : (⟨2, ((x8.toNat / 8 % 4 : Nat) : Int), ((x49.toNat : Nat) : Int)⟩ : Choice) = chAt l m := chAt_mk hx9 hx50 ((kind_mod (show x8.toNat % 8 = 3 by omega)).trans rfl)
              rw [hch] at hw
              replace hw : Own z w [s, L, [(b10, .cells (encChoice (chAt l m)).toArray 39 (0, 0))], [(b51, .cells (encChoice (chAt l m)).toArray 39 (0, 0))]] := hw
              refine O_append tyOK hw 0 (enc := encChoice) (size := 3) (l := (chsN l m)) (ys := [chAt l m]) (n := m) (fun _ => rfl) (by intro x; simp [encChoice, Value.oneCell']) hsl (by simp [chsN_len]) (fun w hw => Src.all (c := 1) (enc := encChoice) (et := 39) (fr := (0, 0)) (l := [chAt l m]) (fun _ => rfl) (hw.blk 3 rfl)) (g := te39) (by show _ * 24 ≤ _; simp [chsN_len]; omega) ?_
              clear hw; intro p52 c53 s54 w hs' hw
              rw [chsN_succ] at hs'
              rw [show ((chsN l m) ++ [chAt l m]).length = m + 1 by simp [chsN_len]]
              replace hw : Own z w [s54, L, [(b10, .cells (encChoice (chAt l m)).toArray 39 (0, 0))], [(b51, .cells (encChoice (chAt l m)).toArray 39 (0, 0))]] := hw
              refine SP tyOK 0 1 4 [0, 3, 4] (env' := [(0, .slice (some ⟨b2, A3.length, none⟩) l.length c), (3, .slice p52 (m + 1) c53), (4, .int .i64 ((2 * m : Nat) : Int))]) ?_
              refine sEnd ?_
              refine qBlk ?_
              refine qThen ?_
              refine cReg 3 ?_
              refine SP tyOK 1 2 0 [0, 3, 11] (env' := [(0, .slice (some ⟨b2, A3.length, none⟩) l.length c), (3, .slice p52 (m + 1) c53), (11, .int .i64 (IntKind.i64.wrap (((2 * m : Nat) : Int) + 2)))]) ?_
              refine setS 11 (.int .i64 ((2 * (m + 1) : Nat) : Int)) (nat_add2 (by omega)) ?_
              refine SP tyOK 0 1 2 [0, 3, 4] (env' := [(0, .slice (some ⟨b2, A3.length, none⟩) l.length c), (3, .slice p52 (m + 1) c53), (4, .int .i64 ((2 * (m + 1) : Nat) : Int))]) ?_
              refine sEnd ?_
              refine qLoop (l.length - 2 * ((m + 1))) (by omega) [0, 3, 4] (env' := [(0, .slice (some ⟨b2, A3.length, none⟩) l.length c), (3, .slice p52 (m + 1) c53), (4, .int .i64 ((2 * (m + 1) : Nat) : Int))]) ?_
              exact ⟨m + 1, p52, c53, s54, rfl, by omega, hs', rfl, hw.take 2⟩
            ·
              have hb48p : ¬ (((2 * m + 1 : Nat) : Int) < ((l.length : Nat) : Int)) := of_decide_eq_false hb48
              refine setC 45 (.bool false) (congrArg Value.bool hb48) ?_
              refine cF ?_
              refine cSkip ?_
              refine qThen ?_
              refine cReg 5 ?_
              refine SP tyOK 4 1 0 [0, 4, 5, 53] (env' := [(0, .slice (some ⟨b2, A3.length, none⟩) l.length c), (4, .int .i64 ((2 * m : Nat) : Int)), (5, .pointer (some ⟨b10, 0, none⟩)), (53, .slice q m cq)]) ?_
              refine SO ?_
              refine O_load tyOK hw 2 (b := b10) (off := 0) (v := .agg ((encChoice (⟨2, ((x8.toNat / 8 % 4 : Nat) : Int), 0⟩)).toArray)) ?_
              refine SO ?_
              refine O_buildSlice tyOK hw (el := 39) ((encChoice (⟨2, ((x8.toNat / 8 % 4 : Nat) : Int), 0⟩)).toArray) ?_
              clear hw; intro b55 w hw
              replace hw : Own z w [s, L, [(b10, .cells (encChoice (⟨2, ((x8.toNat / 8 % 4 : Nat) : Int), 0⟩)).toArray 39 (0, 0))], [(b55, .cells (encChoice (⟨2, ((x8.toNat / 8 % 4 : Nat) : Int), 0⟩)).toArray 39 (0, 0))]] := hw
              refine SO ?_
              have hch : (⟨2, ((x8.toNat / 8 % 4 : Nat) : Int), 0⟩ : Choice) = chAt l m := chAt_mk0 hx9 (by omega) ((kind_mod (show x8.toNat % 8 = 3 by omega)).trans rfl)
              rw [hch] at hw
              replace hw : Own z w [s, L, [(b10, .cells (encChoice (chAt l m)).toArray 39 (0, 0))], [(b55, .cells (encChoice (chAt l m)).toArray 39 (0, 0))]] := hw
              refine O_append tyOK hw 0 (enc := encChoice) (size := 3) (l := (chsN l m)) (ys := [chAt l m]) (n := m) (fun _ => rfl) (by intro x; simp [encChoice, Value.oneCell']) hsl (by simp [chsN_len]) (fun w hw => Src.all (c := 1) (enc := encChoice) (et := 39) (fr := (0, 0)) (l := [chAt l m]) (fun _ => rfl) (hw.blk 3 rfl)) (g := te39) (by show _ * 24 ≤ _; simp [chsN_len]; omega) ?_
              clear hw; intro p56 c57 s58 w hs' hw
              rw [chsN_succ] at hs'
              rw [show ((chsN l m) ++ [chAt l m]).length = m + 1 by simp [chsN_len]]
              replace hw : Own z w [s58, L, [(b10, .cells (encChoice (chAt l m)).toArray 39 (0, 0))], [(b55, .cells (encChoice (chAt l m)).toArray 39 (0, 0))]] := hw
              refine SP tyOK 0 1 4 [0, 3, 4] (env' := [(0, .slice (some ⟨b2, A3.length, none⟩) l.length c), (3, .slice p56 (m + 1) c57), (4, .int .i64 ((2 * m : Nat) : Int))]) ?_
              refine sEnd ?_
              refine qBlk ?_
              refine qThen ?_
              refine cReg 3 ?_
              refine SP tyOK 1 2 0 [0, 3, 11] (env' := [(0, .slice (some ⟨b2, A3.length, none⟩) l.length c), (3, .slice p56 (m + 1) c57), (11, .int .i64 (IntKind.i64.wrap (((2 * m : Nat) : Int) + 2)))]) ?_
              refine setS 11 (.int .i64 ((2 * (m + 1) : Nat) : Int)) (nat_add2 (by omega)) ?_
              refine SP tyOK 0 1 2 [0, 3, 4] (env' := [(0, .slice (some ⟨b2, A3.length, none⟩) l.length c), (3, .slice p56 (m + 1) c57), (4, .int .i64 ((2 * (m + 1) : Nat) : Int))]) ?_
              refine sEnd ?_
              refine qLoop (l.length - 2 * ((m + 1))) (by omega) [0, 3, 4] (env' := [(0, .slice (some ⟨b2, A3.length, none⟩) l.length c), (3, .slice p56 (m + 1) c57), (4, .int .i64 ((2 * (m + 1) : Nat) : Int))]) ?_
              exact ⟨m + 1, p56, c57, s58, rfl, by omega, hs', rfl, hw.take 2⟩
          ·
            have hb47p : ((x8.toNat % 8 : Nat) : Int) ≠ 3 := by simpa using hb47
            refine setC 30 (.bool false) (congrArg Value.bool hb47) ?_
            refine cF ?_
            refine cSeq ?_
            refine cSeq ?_
            refine cReg 2 ?_
            refine SP tyOK 0 2 0 [0, 3, 4, 5, 24, 34] (env' := [(0, .slice (some ⟨b2, A3.length, none⟩) l.length c), (3, .slice q m cq), (4, .int .i64 ((2 * m : Nat) : Int)), (5, .pointer (some ⟨b10, 0, none⟩)), (24, .int .u8 ((x8.toNat % 8 : Nat) : Int)), (34, .bool (((x8.toNat % 8 : Nat) : Int) == 4))]) ?_
            refine sEnd ?_
            refine qThen ?_
            refine two (((x8.toNat % 8 : Nat) : Int) == 4) (fun hb59 => ?_) (fun hb59 => ?_)
            ·
              have hb59p : ((x8.toNat % 8 : Nat) : Int) = 4 := by simpa using hb59
              refine setC 34 (.bool true) (congrArg Value.bool hb59) ?_
              refine cT ?_
              refine cSkip ?_
              refine qThen ?_
              refine cT ?_
              refine cReg 2 ?_
              refine SP tyOK 1 1 0 [0, 3, 4, 5, 37] (env' := [(0, .slice (some ⟨b2, A3.length, none⟩) l.length c), (3, .slice q m cq), (4, .int .i64 ((2 * m : Nat) : Int)), (5, .pointer (some ⟨b10, 0, none⟩)), (37, .pointer (some ⟨b10, 0, none⟩))]) ?_
              refine SO ?_
              refine O_store tyOK hw 2 (b := b10) (off := 0) (cs' := (encChoice (⟨3, ((x8.toNat / 8 % 4 : Nat) : Int), 0⟩)).toArray) ?_
              clear hw; intro w hw
              replace hw : Own z w [s, L, [(b10, .cells (encChoice (⟨3, ((x8.toNat / 8 % 4 : Nat) : Int), 0⟩)).toArray 39 (0, 0))]] := hw
              refine sEnd ?_
              refine qBlk ?_
              refine qThen ?_
              refine cSeq ?_
              refine cSeq ?_
              refine cReg 5 ?_
              refine SP tyOK 3 2 0 [0, 3, 4, 5, 42] (env' := [(0, .slice (some ⟨b2, A3.length, none⟩) l.length c), (3, .slice q m cq), (4, .int .i64 ((2 * m : Nat) : Int)), (5, .pointer (some ⟨b10, 0, none⟩)), (42, .int .i64 (IntKind.i64.wrap (((2 * m : Nat) : Int) + 1)))]) ?_
              refine setS 42 (.int .i64 ((2 * m + 1 : Nat) : Int)) (nat_inc (by omega)) ?_
              refine SP tyOK 0 3 2 [0, 3, 4, 5, 45] (env' := [(0, .slice (some ⟨b2, A3.length, none⟩) l.length c), (3, .slice q m cq), (4, .int .i64 ((2 * m : Nat) : Int)), (5, .pointer (some ⟨b10, 0, none⟩)), (45, .bool (decide (((2 * m + 1 : Nat) : Int) < ((l.length : Nat) : Int))))]) ?_
              refine sEnd ?_
              refine qThen ?_
              refine two (decide (((2 * m + 1 : Nat) : Int) < ((l.length : Nat) : Int))) (fun hb60 => ?_) (fun hb60 => ?_)
              ·
                have hb60p : ((2 * m + 1 : Nat) : Int) < ((l.length : Nat) : Int) := of_decide_eq_true hb60
                refine setC 45 (.bool true) (congrArg Value.bool hb60) ?_
                refine cT ?_
                obtain ⟨x61, hx62⟩ : ∃ x, l[2 * m + 1]? = some x := ⟨_, List.getElem?_eq_getElem (by omega)⟩
                refine cReg 8 ?_
                refine SP tyOK 5 3 0 [0, 3, 4, 5, 46, 48] (env' := [(0, .slice (some ⟨b2, A3.length, none⟩) l.length c), (3, .slice q m cq), (4, .int .i64 ((2 * m : Nat) : Int)), (5, .pointer (some ⟨b10, 0, none⟩)), (46, .slice (some ⟨b2, A3.length, none⟩) l.length c), (48, .int .i64 (IntKind.i64.wrap (((2 * m : Nat) : Int) + 1)))]) ?_
                refine setS 48 (.int .i64 ((2 * m + 1 : Nat) : Int)) (nat_inc (by omega)) ?_
                refine SO ?_
                refine O_idx tyOK (2 * m + 1) (n := l.length) (rfl) (by omega) ?_
                refine SO ?_
                refine O_loadR tyOK hw 1 (b := b2) (off := A3.length + (2 * m + 1) * 1) (v := .int .u8 ((x61.toNat : Nat) : Int)) hm7 (ldP_rd (T := TY) (t := 5) (size := 1) (fun _ => rfl) hx62 (by as_aux_lemma => kernel_rfl)) ?_
                refine SP tyOK 2 1 5 [0, 3, 4, 5, 51] (env' := [(0, .slice (some ⟨b2, A3.length, none⟩) l.length c), (3, .slice q m cq), (4, .int .i64 ((2 * m : Nat) : Int)), (5, .pointer (some ⟨b10, 0, none⟩)), (51, .int .i64 (IntKind.i64.wrap ((x61.toNat : Nat) : Int)))]) ?_
                refine setS 51 (.int .i64 ((x61.toNat : Nat) : Int)) (congrArg (Value.int .i64) (u8_i64 x61)) ?_
                refine SP tyOK 1 1 6 [0, 3, 4, 5, 51, 52] (env' := [(0, .slice (some ⟨b2, A3.length, none⟩) l.length c), (3, .slice q m cq), (4, .int .i64 ((2 * m : Nat) : Int)), (5, .pointer (some ⟨b10, 0, none⟩)), (51, .int .i64 ((x61.toNat : Nat) : Int)), (52, .pointer (some ⟨b10, 2, none⟩))]) ?_
                refine SO ?_
                refine O_store tyOK hw 2 (b := b10) (off := 2) (cs' := (encChoice (⟨3, ((x8.toNat / 8 % 4 : Nat) : Int), ((x61.toNat : Nat) : Int)⟩)).toArray) ?_
                clear hw; intro w hw
                replace hw : Own z w [s, L, [(b10, .cells (encChoice (⟨3, ((x8.toNat / 8 % 4 : Nat) : Int), ((x61.toNat : Nat) : Int)⟩)).toArray 39 (0, 0))]] := hw
                refine sEnd ?_
                refine qThen ?_
                refine cReg 5 ?_
                refine SP tyOK 4 1 0 [0, 4, 5, 53] (env' := [(0, .slice (some ⟨b2, A3.length, none⟩) l.length c), (4, .int .i64 ((2 * m : Nat) : Int)), (5, .pointer (some ⟨b10, 0, none⟩)), (53, .slice q m cq)]) ?_
                refine SO ?_
                refine O_load tyOK hw 2 (b := b10) (off := 0) (v := .agg ((encChoice (⟨3, ((x8.toNat / 8 % 4 : Nat) : Int), ((x61.toNat : Nat) : Int)⟩)).toArray)) ?_
                refine SO ?_
                refine O_buildSlice tyOK hw (el := 39) ((encChoice (⟨3, ((x8.toNat / 8 % 4 : Nat) : Int), ((x61.toNat : Nat) : Int)⟩)).toArray) ?_
                clear hw; intro b63 w hw
                replace hw : Own z w [s, L, [(b10, .cells (encChoice (⟨3, ((x8.toNat / 8 % 4 : Nat) : Int), ((x61.toNat : Nat) : Int)⟩)).toArray 39 (0, 0))], [(b63, .cells (encChoice (⟨3, ((x8.toNat / 8 % 4 : Nat) : Int), ((x61.toNat : Nat) : Int)⟩)).toArray 39 (0, 0))]] := hw
                refine SO ?_
                have hch : (⟨3, ((x8.toNat / 8 % 4 : Nat) : Int), ((x61.toNat : Nat) : Int)⟩ : Choice) = chAt l m := chAt_mk hx9 hx62 ((kind_mod (show x8.toNat % 8 = 4 by omega)).trans rfl)
                rw [hch] at hw
                replace hw : Own z w [s, L, [(b10, .cells (encChoice (chAt l m)).toArray 39 (0, 0))], [(b63, .cells (encChoice (chAt l m)).toArray 39 (0, 0))]] := hw
                refine O_append tyOK hw 0 (enc := encChoice) (size := 3) (l := (chsN l m)) (ys := [chAt l m]) (n := m) (fun _ => rfl) (by intro x; simp [encChoice, Value.oneCell']) hsl (by simp [chsN_len]) (fun w hw => Src.all (c := 1) (enc := encChoice) (et := 39) (fr := (0, 0)) (l := [chAt l m]) (fun _ => rfl) (hw.blk 3 rfl)) (g := te39) (by show _ * 24 ≤ _; simp [chsN_len]; omega) ?_
                clear hw; intro p64 c65 s66 w hs' hw
                rw [chsN_succ] at hs'
                rw [show ((chsN l m) ++ [chAt l m]).length = m + 1 by simp [chsN_len]]
                replace hw : Own z w [s66, L, [(b10, .cells (encChoice (chAt l m)).toArray 39 (0, 0))], [(b63, .cells (encChoice (chAt l m)).toArray 39 (0, 0))]] := hw
                refine SP tyOK 0 1 4 [0, 3, 4] (env' := [(0, .slice (some ⟨b2, A3.length, none⟩) l.length c), (3, .slice p64 (m + 1) c65), (4, .int .i64 ((2 * m : Nat) : Int))]) ?_
                refine sEnd ?_
                refine qBlk ?_
                refine qThen ?_
                refine cReg 3 ?_
                refine SP tyOK 1 2 0 [0, 3, 11] (env' := [(0, .slice (some ⟨b2, A3.length, none⟩) l.length c), (3, .slice p64 (m + 1) c65), (11, .int .i64 (IntKind.i64.wrap (((2 * m : Nat) : Int) + 2)))]) ?_
                refine setS 11 (.int .i64 ((2 * (m + 1) : Nat) : Int)) (nat_add2 (by omega)) ?_
                refine SP tyOK 0 1 2 [0, 3, 4] (env' := [(0, .slice (some ⟨b2, A3.length, none⟩) l.length c), (3, .slice p64 (m + 1) c65), (4, .int .i64 ((2 * (m + 1) : Nat) : Int))]) ?_
                refine sEnd ?_
                refine qLoop (l.length - 2 * ((m + 1))) (by omega) [0, 3, 4] (env' := [(0, .slice (some ⟨b2, A3.length, none⟩) l.length c), (3, .slice p64 (m + 1) c65), (4, .int .i64 ((2 * (m + 1) : Nat) : Int))]) ?_
                exact ⟨m + 1, p64, c65, s66, rfl, by omega, hs', rfl, hw.take 2⟩
              ·
                have hb60p : ¬ (((2 * m + 1 : Nat) : Int) < ((l.length : Nat) : Int)) := of_decide_eq_false hb60
                refine setC 45 (.bool false) (congrArg Value.bool hb60) ?_
                refine cF ?_
                refine cSkip ?_
                refine qThen ?_
                refine cReg 5 ?_
                refine SP tyOK 4 1 0 [0, 4, 5, 53] (env' := [(0, .slice (some ⟨b2, A3.length, none⟩) l.length c), (4, .int .i64 ((2 * m : Nat) : Int)), (5, .pointer (some ⟨b10, 0, none⟩)), (53, .slice q m cq)]) ?_
                refine SO ?_
                refine O_load tyOK hw 2 (b := b10) (off := 0) (v := .agg ((encChoice (⟨3, ((x8.toNat / 8 % 4 : Nat) : Int), 0⟩)).toArray)) ?_
                refine SO ?_
                refine O_buildSlice tyOK hw (el := 39) ((encChoice (⟨3, ((x8.toNat / 8 % 4 : Nat) : Int), 0⟩)).toArray) ?_
                clear hw; intro b67 w hw
                replace hw : Own z w [s, L, [(b10, .cells (encChoice (⟨3, ((x8.toNat / 8 % 4 : Nat) : Int), 0⟩)).toArray 39 (0, 0))], [(b67, .cells (encChoice (⟨3, ((x8.toNat / 8 % 4 : Nat) : Int), 0⟩)).toArray 39 (0, 0))]] := hw
                refine SO ?_
                have hch : (⟨3, ((x8.toNat / 8 % 4 : Nat) : Int), 0⟩ : Choice) = chAt l m := chAt_mk0 hx9 (by omega) ((kind_mod (show x8.toNat % 8 = 4 by omega)).trans rfl)
                rw [hch] at hw
                replace hw : Own z w [s, L, [(b10, .cells (encChoice (chAt l m)).toArray 39 (0, 0))], [(b67, .cells (encChoice (chAt l m)).toArray 39 (0, 0))]] := hw
                refine O_append tyOK hw 0 (enc := encChoice) (size := 3) (l := (chsN l m)) (ys := [chAt l m]) (n := m) (fun _ => rfl) (by intro x; simp [encChoice, Value.oneCell']) hsl (by simp [chsN_len]) (fun w hw => Src.all (c := 1) (enc := encChoice) (et := 39) (fr := (0, 0)) (l := [chAt l m]) (fun _ => rfl) (hw.blk 3 rfl)) (g := te39) (by show _ * 24 ≤ _; simp [chsN_len]; omega) ?_
                clear hw; intro p68 c69 s70 w hs' hw
                rw [chsN_succ] at hs'
                rw [show ((chsN l m) ++ [chAt l m]).length = m + 1 by simp [chsN_len]]
                replace hw : Own z w [s70, L, [(b10, .cells (encChoice (chAt l m)).toArray 39 (0, 0))], [(b67, .cells (encChoice (chAt l m)).toArray 39 (0, 0))]] := hw
                refine SP tyOK 0 1 4 [0, 3, 4] (env' := [(0, .slice (some ⟨b2, A3.length, none⟩) l.length c), (3, .slice p68 (m + 1) c69), (4, .int .i64 ((2 * m : Nat) : Int))]) ?_
                refine sEnd ?_
                refine qBlk ?_
                refine qThen ?_
                refine cReg 3 ?_
                refine SP tyOK 1 2 0 [0, 3, 11] (env' := [(0, .slice (some ⟨b2, A3.length, none⟩) l.length c), (3, .slice p68 (m + 1) c69), (11, .int .i64 (IntKind.i64.wrap (((2 * m : Nat) : Int) + 2)))]) ?_
                refine setS 11 (.int .i64 ((2 * (m + 1) : Nat) : Int)) (nat_add2 (by omega)) ?_
                refine SP tyOK 0 1 2 [0, 3, 4] (env' := [(0, .slice (some ⟨b2, A3.length, none⟩) l.length c), (3, .slice p68 (m + 1) c69), (4, .int .i64 ((2 * (m + 1) : Nat) : Int))]) ?_
                refine sEnd ?_
                refine qLoop (l.length - 2 * ((m + 1))) (by omega) [0, 3, 4] (env' := [(0, .slice (some ⟨b2, A3.length, none⟩) l.length c), (3, .slice p68 (m + 1) c69), (4, .int .i64 ((2 * (m + 1) : Nat) : Int))]) ?_
                exact ⟨m + 1, p68, c69, s70, rfl, by omega, hs', rfl, hw.take 2⟩
            ·
              have hb59p : ((x8.toNat % 8 : Nat) : Int) ≠ 4 := by simpa using hb59
              refine setC 34 (.bool false) (congrArg Value.bool hb59) ?_
              refine cF ?_
              refine cReg 2 ?_
              refine SP tyOK 0 2 0 [0, 3, 4, 5, 24, 34] (env' := [(0, .slice (some ⟨b2, A3.length, none⟩) l.length c), (3, .slice q m cq), (4, .int .i64 ((2 * m : Nat) : Int)), (5, .pointer (some ⟨b10, 0, none⟩)), (24, .int .u8 ((x8.toNat % 8 : Nat) : Int)), (34, .bool (((x8.toNat % 8 : Nat) : Int) == 5))]) ?_
              refine sEnd ?_
              refine qThen ?_
              refine two (((x8.toNat % 8 : Nat) : Int) == 5) (fun hb71 => ?_) (fun hb71 => ?_)
              ·
                have hb71p : ((x8.toNat % 8 : Nat) : Int) = 5 := by simpa using hb71
                refine setC 34 (.bool true) (congrArg Value.bool hb71) ?_
                refine cT ?_
                refine cReg 2 ?_
                refine SP tyOK 1 1 0 [0, 3, 4, 5, 37] (env' := [(0, .slice (some ⟨b2, A3.length, none⟩) l.length c), (3, .slice q m cq), (4, .int .i64 ((2 * m : Nat) : Int)), (5, .pointer (some ⟨b10, 0, none⟩)), (37, .pointer (some ⟨b10, 0, none⟩))]) ?_
                refine SO ?_
                refine O_store tyOK hw 2 (b := b10) (off := 0) (cs' := (encChoice (⟨3, ((x8.toNat / 8 % 4 : Nat) : Int), 0⟩)).toArray) ?_
                clear hw; intro w hw
                replace hw : Own z w [s, L, [(b10, .cells (encChoice (⟨3, ((x8.toNat / 8 % 4 : Nat) : Int), 0⟩)).toArray 39 (0, 0))]] := hw
                refine sEnd ?_
                refine qBlk ?_
                refine qThen ?_
                refine cSeq ?_
                refine cSeq ?_
                refine cReg 5 ?_
                refine SP tyOK 3 2 0 [0, 3, 4, 5, 42] (env' := [(0, .slice (some ⟨b2, A3.length, none⟩) l.length c), (3, .slice q m cq), (4, .int .i64 ((2 * m : Nat) : Int)), (5, .pointer (some ⟨b10, 0, none⟩)), (42, .int .i64 (IntKind.i64.wrap (((2 * m : Nat) : Int) + 1)))]) ?_
                refine setS 42 (.int .i64 ((2 * m + 1 : Nat) : Int)) (nat_inc (by omega)) ?_
                refine SP tyOK 0 3 2 [0, 3, 4, 5, 45] (env' := [(0, .slice (some ⟨b2, A3.length, none⟩) l.length c), (3, .slice q m cq), (4, .int .i64 ((2 * m : Nat) : Int)), (5, .pointer (some ⟨b10, 0, none⟩)), (45, .bool (decide (((2 * m + 1 : Nat) : Int) < ((l.length : Nat) : Int))))]) ?_
                refine sEnd ?_
                refine qThen ?_
                refine two (decide (((2 * m + 1 : Nat) : Int) < ((l.length : Nat) : Int))) (fun hb72 => ?_) (fun hb72 => ?_)
                ·
                  have hb72p : ((2 * m + 1 : Nat) : Int) < ((l.length : Nat) : Int) := of_decide_eq_true hb72
                  refine setC 45 (.bool true) (congrArg Value.bool hb72) ?_
                  refine cT ?_
                  obtain ⟨x73, hx74⟩ : ∃ x, l[2 * m + 1]? = some x := ⟨_, List.getElem?_eq_getElem (by omega)⟩
                  refine cReg 8 ?_
                  refine SP tyOK 5 3 0 [0, 3, 4, 5, 46, 48] (env' := [(0, .slice (some ⟨b2, A3.length, none⟩) l.length c), (3, .slice q m cq), (4, .int .i64 ((2 * m : Nat) : Int)), (5, .pointer (some ⟨b10, 0, none⟩)), (46, .slice (some ⟨b2, A3.length, none⟩) l.length c), (48, .int .i64 (IntKind.i64.wrap (((2 * m : Nat) : Int) + 1)))]) ?_
                  refine setS 48 (.int .i64 ((2 * m + 1 : Nat) : Int)) (nat_inc (by omega)) ?_
                  refine SO ?_
                  refine O_idx tyOK (2 * m + 1) (n := l.length) (rfl) (by omega) ?_
                  refine SO ?_
                  refine O_loadR tyOK hw 1 (b := b2) (off := A3.length + (2 * m + 1) * 1) (v := .int .u8 ((x73.toNat : Nat) : Int)) hm7 (ldP_rd (T := TY) (t := 5) (size := 1) (fun _ => rfl) hx74 (by as_aux_lemma => kernel_rfl)) ?_
                  refine SP tyOK 2 1 5 [0, 3, 4, 5, 51] (env' := [(0, .slice (some ⟨b2, A3.length, none⟩) l.length c), (3, .slice q m cq), (4, .int .i64 ((2 * m : Nat) : Int)), (5, .pointer (some ⟨b10, 0, none⟩)), (51, .int .i64 (IntKind.i64.wrap ((x73.toNat : Nat) : Int)))]) ?_
                  refine setS 51 (.int .i64 ((x73.toNat : Nat) : Int)) (congrArg (Value.int .i64) (u8_i64 x73)) ?_
                  refine SP tyOK 1 1 6 [0, 3, 4, 5, 51, 52] (env' := [(0, .slice (some ⟨b2, A3.length, none⟩) l.length c), (3, .slice q m cq), (4, .int .i64 ((2 * m : Nat) : Int)), (5, .pointer (some ⟨b10, 0, none⟩)), (51, .int .i64 ((x73.toNat : Nat) : Int)), (52, .pointer (some ⟨b10, 2, none⟩))]) ?_
                  refine SO ?_
                  refine O_store tyOK hw 2 (b := b10) (off := 2) (cs' := (encChoice (⟨3, ((x8.toNat / 8 % 4 : Nat) : Int), ((x73.toNat : Nat) : Int)⟩)).toArray) ?_
                  clear hw; intro w hw
                  replace hw : Own z w [s, L, [(b10, .cells (encChoice (⟨3, ((x8.toNat / 8 % 4 : Nat) : Int), ((x73.toNat : Nat) : Int)⟩)).toArray 39 (0, 0))]] := hw
                  refine sEnd ?_
                  refine qThen ?_
                  refine cReg 5 ?_
                  refine SP tyOK 4 1 0 [0, 4, 5, 53] (env' := [(0, .slice (some ⟨b2, A3.length, none⟩) l.length c), (4, .int .i64 ((2 * m : Nat) : Int)), (5, .pointer (some ⟨b10, 0, none⟩)), (53, .slice q m cq)]) ?_
                  refine SO ?_
                  refine O_load tyOK hw 2 (b := b10) (off := 0) (v := .agg ((encChoice (⟨3, ((x8.toNat / 8 % 4 : Nat) : Int), ((x73.toNat : Nat) : Int)⟩)).toArray)) ?_
                  refine SO ?_
                  refine O_buildSlice tyOK hw (el := 39) ((encChoice (⟨3, ((x8.toNat / 8 % 4 : Nat) : Int), ((x73.toNat : Nat) : Int)⟩)).toArray) ?_
                  clear hw; intro b75 w hw
                  replace hw : Own z w [s, L, [(b10, .cells (encChoice (⟨3, ((x8.toNat / 8 % 4 : Nat) : Int), ((x73.toNat : Nat) : Int)⟩)).toArray 39 (0, 0))], [(b75, .cells (encChoice (⟨3, ((x8.toNat / 8 % 4 : Nat) : Int), ((x73.toNat : Nat) : Int)⟩)).toArray 39 (0, 0))]] := hw
                  refine SO ?_
                  have hch : (⟨3, ((x8.toNat / 8 % 4 : Nat) : Int), ((x73.toNat : Nat) : Int)⟩ : Choice) = chAt l m := chAt_mk hx9 hx74 ((kind_mod (show x8.toNat % 8 = 5 by omega)).trans rfl)
                  rw [hch] at hw
                  replace hw : Own z w [s, L, [(b10, .cells (encChoice (chAt l m)).toArray 39 (0, 0))], [(b75, .cells (encChoice (chAt l m)).toArray 39 (0, 0))]] := hw
                  refine O_append tyOK hw 0 (enc := encChoice) (size := 3) (l := (chsN l m)) (ys := [chAt l m]) (n := m) (fun _ => rfl) (by intro x; simp [encChoice, Value.oneCell']) hsl (by simp [chsN_len]) (fun w hw => Src.all (c := 1) (enc := encChoice) (et := 39) (fr := (0, 0)) (l := [chAt l m]) (fun _ => rfl) (hw.blk 3 rfl)) (g := te39) (by show _ * 24 ≤ _; simp [chsN_len]; omega) ?_
                  clear hw; intro p76 c77 s78 w hs' hw
                  rw [chsN_succ] at hs'
                  rw [show ((chsN l m) ++ [chAt l m]).length = m + 1 by simp [chsN_len]]
                  replace hw : Own z w [s78, L, [(b10, .cells (encChoice (chAt l m)).toArray 39 (0, 0))], [(b75, .cells (encChoice (chAt l m)).toArray 39 (0, 0))]] := hw
                  refine SP tyOK 0 1 4 [0, 3, 4] (env' := [(0, .slice (some ⟨b2, A3.length, none⟩) l.length c), (3, .slice p76 (m + 1) c77), (4, .int .i64 ((2 * m : Nat) : Int))]) ?_
                  refine sEnd ?_
                  refine qBlk ?_
                  refine qThen ?_
                  refine cReg 3 ?_
                  refine SP tyOK 1 2 0 [0, 3, 11] (env' := [(0, .slice (some ⟨b2, A3.length, none⟩) l.length c), (3, .slice p76 (m + 1) c77), (11, .int .i64 (IntKind.i64.wrap (((2 * m : Nat) : Int) + 2)))]) ?_
                  refine setS 11 (.int .i64 ((2 * (m + 1) : Nat) : Int)) (nat_add2 (by omega)) ?_
                  refine SP tyOK 0 1 2 [0, 3, 4] (env' := [(0, .slice (some ⟨b2, A3.length, none⟩) l.length c), (3, .slice p76 (m + 1) c77), (4, .int .i64 ((2 * (m + 1) : Nat) : Int))]) ?_
                  refine sEnd ?_
                  refine qLoop (l.length - 2 * ((m + 1))) (by omega) [0, 3, 4] (env' := [(0, .slice (some ⟨b2, A3.length, none⟩) l.length c), (3, .slice p76 (m + 1) c77), (4, .int .i64 ((2 * (m + 1) : Nat) : Int))]) ?_
                  exact ⟨m + 1, p76, c77, s78, rfl, by omega, hs', rfl, hw.take 2⟩
                ·
                  have hb72p : ¬ (((2 * m + 1 : Nat) : Int) < ((l.length : Nat) : Int)) := of_decide_eq_false hb72
                  refine setC 45 (.bool false) (congrArg Value.bool hb72) ?_
                  refine cF ?_
                  refine cSkip ?_
                  refine qThen ?_
                  refine cReg 5 ?_
                  refine SP tyOK 4 1 0 [0, 4, 5, 53] (env' := [(0, .slice (some ⟨b2, A3.length, none⟩) l.length c), (4, .int .i64 ((2 * m : Nat) : Int)), (5, .pointer (some ⟨b10, 0, none⟩)), (53, .slice q m cq)]) ?_
                  refine SO ?_
                  refine O_load tyOK hw 2 (b := b10) (off := 0) (v := .agg ((encChoice (⟨3, ((x8.toNat / 8 % 4 : Nat) : Int), 0⟩)).toArray)) ?_
                  refine SO ?_
                  refine O_buildSlice tyOK hw (el := 39) ((encChoice (⟨3, ((x8.toNat / 8 % 4 : Nat) : Int), 0⟩)).toArray) ?_
                  clear hw; intro b79 w hw
                  replace hw : Own z w [s, L, [(b10, .cells (encChoice (⟨3, ((x8.toNat / 8 % 4 : Nat) : Int), 0⟩)).toArray 39 (0, 0))], [(b79, .cells (encChoice (⟨3, ((x8.toNat / 8 % 4 : Nat) : Int), 0⟩)).toArray 39 (0, 0))]] := hw
                  refine SO ?_
                  have hch : (⟨3, ((x8.toNat / 8 % 4 : Nat) : Int), 0⟩ : Choice) = chAt l m := chAt_mk0 hx9 (by omega) ((kind_mod (show x8.toNat % 8 = 5 by omega)).trans rfl)
                  rw [hch] at hw
                  replace hw : Own z w [s, L, [(b10, .cells (encChoice (chAt l m)).toArray 39 (0, 0))], [(b79, .cells (encChoice (chAt l m)).toArray 39 (0, 0))]] := hw
                  refine O_append tyOK hw 0 (enc := encChoice) (size := 3) (l := (chsN l m)) (ys := [chAt l m]) (n := m) (fun _ => rfl) (by intro x; simp [encChoice, Value.oneCell']) hsl (by simp [chsN_len]) (fun w hw => Src.all (c := 1) (enc := encChoice) (et := 39) (fr := (0, 0)) (l := [chAt l m]) (fun _ => rfl) (hw.blk 3 rfl)) (g := te39) (by show _ * 24 ≤ _; simp [chsN_len]; omega) ?_
                  clear hw; intro p80 c81 s82 w hs' hw
                  rw [chsN_succ] at hs'
                  rw [show ((chsN l m) ++ [chAt l m]).length = m + 1 by simp [chsN_len]]
                  replace hw : Own z w [s82, L, [(b10, .cells (encChoice (chAt l m)).toArray 39 (0, 0))], [(b79, .cells (encChoice (chAt l m)).toArray 39 (0, 0))]] := hw
                  refine SP tyOK 0 1 4 [0, 3, 4] (env' := [(0, .slice (some ⟨b2, A3.length, none⟩) l.length c), (3, .slice p80 (m + 1) c81), (4, .int .i64 ((2 * m : Nat) : Int))]) ?_
                  refine sEnd ?_
                  refine qBlk ?_
                  refine qThen ?_
                  refine cReg 3 ?_
                  refine SP tyOK 1 2 0 [0, 3, 11] (env' := [(0, .slice (some ⟨b2, A3.length, none⟩) l.length c), (3, .slice p80 (m + 1) c81), (11, .int .i64 (IntKind.i64.wrap (((2 * m : Nat) : Int) + 2)))]) ?_
                  refine setS 11 (.int .i64 ((2 * (m + 1) : Nat) : Int)) (nat_add2 (by omega)) ?_
                  refine SP tyOK 0 1 2 [0, 3, 4] (env' := [(0, .slice (some ⟨b2, A3.length, none⟩) l.length c), (3, .slice p80 (m + 1) c81), (4, .int .i64 ((2 * (m + 1) : Nat) : Int))]) ?_
                  refine sEnd ?_
                  refine qLoop (l.length - 2 * ((m + 1))) (by omega) [0, 3, 4] (env' := [(0, .slice (some ⟨b2, A3.length, none⟩) l.length c), (3, .slice p80 (m + 1) c81), (4, .int .i64 ((2 * (m + 1) : Nat) : Int))]) ?_
                  exact ⟨m + 1, p80, c81, s82, rfl, by omega, hs', rfl, hw.take 2⟩
              ·
                have hb71p : ((x8.toNat % 8 : Nat) : Int) ≠ 5 := by simpa using hb71
                refine setC 34 (.bool false) (congrArg Value.bool hb71) ?_
                refine cF ?_
                refine cSeq ?_
                refine cReg 2 ?_
                refine SP tyOK 0 2 0 [0, 3, 4, 5, 38] (env' := [(0, .slice (some ⟨b2, A3.length, none⟩) l.length c), (3, .slice q m cq), (4, .int .i64 ((2 * m : Nat) : Int)), (5, .pointer (some ⟨b10, 0, none⟩)), (38, .bool (((x8.toNat % 8 : Nat) : Int) == 6))]) ?_
                refine sEnd ?_
                refine qThen ?_
                refine two (((x8.toNat % 8 : Nat) : Int) == 6) (fun hb83 => ?_) (fun hb83 => ?_)
                ·
                  have hb83p : ((x8.toNat % 8 : Nat) : Int) = 6 := by simpa using hb83
                  refine setC 38 (.bool true) (congrArg Value.bool hb83) ?_
                  refine cT ?_
                  refine cReg 2 ?_
                  refine SP tyOK 1 1 0 [0, 3, 4, 5, 40] (env' := [(0, .slice (some ⟨b2, A3.length, none⟩) l.length c), (3, .slice q m cq), (4, .int .i64 ((2 * m : Nat) : Int)), (5, .pointer (some ⟨b10, 0, none⟩)), (40, .pointer (some ⟨b10, 0, none⟩))]) ?_
                  refine SO ?_
                  refine O_store tyOK hw 2 (b := b10) (off := 0) (cs' := (encChoice (⟨4, ((x8.toNat / 8 % 4 : Nat) : Int), 0⟩)).toArray) ?_
                  clear hw; intro w hw
                  replace hw : Own z w [s, L, [(b10, .cells (encChoice (⟨4, ((x8.toNat / 8 % 4 : Nat) : Int), 0⟩)).toArray 39 (0, 0))]] := hw
                  refine sEnd ?_
                  refine qBlk ?_
                  refine qThen ?_
                  refine cSeq ?_
                  refine cSeq ?_
                  refine cReg 5 ?_
                  refine SP tyOK 3 2 0 [0, 3, 4, 5, 42] (env' := [(0, .slice (some ⟨b2, A3.length, none⟩) l.length c), (3, .slice q m cq), (4, .int .i64 ((2 * m : Nat) : Int)), (5, .pointer (some ⟨b10, 0, none⟩)), (42, .int .i64 (IntKind.i64.wrap (((2 * m : Nat) : Int) + 1)))]) ?_
                  refine setS 42 (.int .i64 ((2 * m + 1 : Nat) : Int)) (nat_inc (by omega)) ?_
                  refine SP tyOK 0 3 2 [0, 3, 4, 5, 45] (env' := [(0, .slice (some ⟨b2, A3.length, none⟩) l.length c), (3, .slice q m cq), (4, .int .i64 ((2 * m : Nat) : Int)), (5, .pointer (some ⟨b10, 0, none⟩)), (45, .bool (decide (((2 * m + 1 : Nat) : Int) < ((l.length : Nat) : Int))))]) ?_
                  refine sEnd ?_
                  refine qThen ?_
                  refine two (decide (((2 * m + 1 : Nat) : Int) < ((l.length : Nat) : Int))) (fun hb84 => ?_) (fun hb84 => ?_)
                  ·
                    have hb84p : ((2 * m + 1 : Nat) : Int) < ((l.length : Nat) : Int) := of_decide_eq_true hb84
                    refine setC 45 (.bool true) (congrArg Value.bool hb84) ?_
                    refine cT ?_
                    obtain ⟨x85, hx86⟩ : ∃ x, l[2 * m + 1]? = some x := ⟨_, List.getElem?_eq_getElem (by omega)⟩
                    refine cReg 8 ?_
                    refine SP tyOK 5 3 0 [0, 3, 4, 5, 46, 48] (env' := [(0, .slice (some ⟨b2, A3.length, none⟩) l.length c), (3, .slice q m cq), (4, .int .i64 ((2 * m : Nat) : Int)), (5, .pointer (some ⟨b10, 0, none⟩)), (46, .slice (some ⟨b2, A3.length, none⟩) l.length c), (48, .int .i64 (IntKind.i64.wrap (((2 * m : Nat) : Int) + 1)))]) ?_
                    refine setS 48 (.int .i64 ((2 * m + 1 : Nat) : Int)) (nat_inc (by omega)) ?_
                    refine SO ?_
                    refine O_idx tyOK (2 * m + 1) (n := l.length) (rfl) (by omega) ?_
                    refine SO ?_
                    refine O_loadR tyOK hw 1 (b := b2) (off := A3.length + (2 * m + 1) * 1) (v := .int .u8 ((x85.toNat : Nat) : Int)) hm7 (ldP_rd (T := TY) (t := 5) (size := 1) (fun _ => rfl) hx86 (by as_aux_lemma => kernel_rfl)) ?_
                    refine SP tyOK 2 1 5 [0, 3, 4, 5, 51] (env' := [(0, .slice (some ⟨b2, A3.length, none⟩) l.length c), (3, .slice q m cq), (4, .int .i64 ((2 * m : Nat) : Int)), (5, .pointer (some ⟨b10, 0, none⟩)), (51, .int .i64 (IntKind.i64.wrap ((x85.toNat : Nat) : Int)))]) ?_
                    refine setS 51 (.int .i64 ((x85.toNat : Nat) : Int)) (congrArg (Value.int .i64) (u8_i64 x85)) ?_
                    refine SP tyOK 1 1 6 [0, 3, 4, 5, 51, 52] (env' := [(0, .slice (some ⟨b2, A3.length, none⟩) l.length c), (3, .slice q m cq), (4, .int .i64 ((2 * m : Nat) : Int)), (5, .pointer (some ⟨b10, 0, none⟩)), (51, .int .i64 ((x85.toNat : Nat) : Int)), (52, .pointer (some ⟨b10, 2, none⟩))]) ?_
                    refine SO ?_
                    refine O_store tyOK hw 2 (b := b10) (off := 2) (cs' := (encChoice (⟨4, ((x8.toNat / 8 % 4 : Nat) : Int), ((x85.toNat : Nat) : Int)⟩)).toArray) ?_
                    clear hw; intro w hw
                    replace hw : Own z w [s, L, [(b10, .cells (encChoice (⟨4, ((x8.toNat / 8 % 4 : Nat) : Int), ((x85.toNat : Nat) : Int)⟩)).toArray 39 (0, 0))]] := hw
                    refine sEnd ?_
                    refine qThen ?_
                    refine cReg 5 ?_
                    refine SP tyOK 4 1 0 [0, 4, 5, 53] (env' := [(0, .slice (some ⟨b2, A3.length, none⟩) l.length c), (4, .int .i64 ((2 * m : Nat) : Int)), (5, .pointer (some ⟨b10, 0, none⟩)), (53, .slice q m cq)]) ?_
                    refine SO ?_
                    refine O_load tyOK hw 2 (b := b10) (off := 0) (v := .agg ((encChoice (⟨4, ((x8.toNat / 8 % 4 : Nat) : Int), ((x85.toNat : Nat) : Int)⟩)).toArray)) ?_
                    refine SO ?_
                    refine O_buildSlice tyOK hw (el := 39) ((encChoice (⟨4, ((x8.toNat / 8 % 4 : Nat) : Int), ((x85.toNat : Nat) : Int)⟩)).toArray) ?_
                    clear hw; intro b87 w hw
                    replace hw : Own z w [s, L, [(b10, .cells (encChoice (⟨4, ((x8.toNat / 8 % 4 : Nat) : Int), ((x85.toNat : Nat) : Int)⟩)).toArray 39 (0, 0))], [(b87, .cells (encChoice (⟨4, ((x8.toNat / 8 % 4 : Nat) : Int), ((x85.toNat : Nat) : Int)⟩)).toArray 39 (0, 0))]] := hw
                    refine SO ?_
                    have hch : (⟨4, ((x8.toNat / 8 % 4 : Nat) : Int), ((x85.toNat : Nat) : Int)⟩ : Choice) = chAt l m := chAt_mk hx9 hx86 ((kind_mod (show x8.toNat % 8 = 6 by omega)).trans rfl)
                    rw [hch] at hw
                    replace hw : Own z w [s, L, [(b10, .cells (encChoice (chAt l m)).toArray 39 (0, 0))], [(b87, .cells (encChoice (chAt l m)).toArray 39 (0, 0))]] := hw
                    refine O_append tyOK hw 0 (enc := encChoice) (size := 3) (l := (chsN l m)) (ys := [chAt l m]) (n := m) (fun _ => rfl) (by intro x; simp [encChoice, Value.oneCell']) hsl (by simp [chsN_len]) (fun w hw => Src.all (c := 1) (enc := encChoice) (et := 39) (fr := (0, 0)) (l := [chAt l m]) (fun _ => rfl) (hw.blk 3 rfl)) (g := te39) (by show _ * 24 ≤ _; simp [chsN_len]; omega) ?_
                    clear hw; intro p88 c89 s90 w hs' hw
                    rw [chsN_succ] at hs'
                    rw [show ((chsN l m) ++ [chAt l m]).length = m + 1 by simp [chsN_len]]
                    replace hw : Own z w [s90, L, [(b10, .cells (encChoice (chAt l m)).toArray 39 (0, 0))], [(b87, .cells (encChoice (chAt l m)).toArray 39 (0, 0))]] := hw
                    refine SP tyOK 0 1 4 [0, 3, 4] (env' := [(0, .slice (some ⟨b2, A3.length, none⟩) l.length c), (3, .slice p88 (m + 1) c89), (4, .int .i64 ((2 * m : Nat) : Int))]) ?_
                    refine sEnd ?_
                    refine qBlk ?_
                    refine qThen ?_
                    refine cReg 3 ?_
                    refine SP tyOK 1 2 0 [0, 3, 11] (env' := [(0, .slice (some ⟨b2, A3.length, none⟩) l.length c), (3, .slice p88 (m + 1) c89), (11, .int .i64 (IntKind.i64.wrap (((2 * m : Nat) : Int) + 2)))]) ?_
                    refine setS 11 (.int .i64 ((2 * (m + 1) : Nat) : Int)) (nat_add2 (by omega)) ?_
                    refine SP tyOK 0 1 2 [0, 3, 4] (env' := [(0, .slice (some ⟨b2, A3.length, none⟩) l.length c), (3, .slice p88 (m + 1) c89), (4, .int .i64 ((2 * (m + 1) : Nat) : Int))]) ?_
                    refine sEnd ?_
                    refine qLoop (l.length - 2 * ((m + 1))) (by omega) [0, 3, 4] (env' := [(0, .slice (some ⟨b2, A3.length, none⟩) l.length c), (3, .slice p88 (m + 1) c89), (4, .int .i64 ((2 * (m + 1) : Nat) : Int))]) ?_
                    exact ⟨m + 1, p88, c89, s90, rfl, by omega, hs', rfl, hw.take 2⟩
                  ·
                    have hb84p : ¬ (((2 * m + 1 : Nat) : Int) < ((l.length : Nat) : Int)) := of_decide_eq_false hb84
                    refine setC 45 (.bool false) (congrArg Value.bool hb84) ?_
                    refine cF ?_
                    refine cSkip ?_
                    refine qThen ?_
                    refine cReg 5 ?_
                    refine SP tyOK 4 1 0 [0, 4, 5, 53] (env' := [(0, .slice (some ⟨b2, A3.length, none⟩) l.length c), (4, .int .i64 ((2 * m : Nat) : Int)), (5, .pointer (some ⟨b10, 0, none⟩)), (53, .slice q m cq)]) ?_
                    refine SO ?_
                    refine O_load tyOK hw 2 (b := b10) (off := 0) (v := .agg ((encChoice (⟨4, ((x8.toNat / 8 % 4 : Nat) : Int), 0⟩)).toArray)) ?_
                    refine SO ?_
                    refine O_buildSlice tyOK hw (el := 39) ((encChoice (⟨4, ((x8.toNat / 8 % 4 : Nat) : Int), 0⟩)).toArray) ?_
                    clear hw; intro b91 w hw
                    replace hw : Own z w [s, L, [(b10, .cells (encChoice (⟨4, ((x8.toNat / 8 % 4 : Nat) : Int), 0⟩)).toArray 39 (0, 0))], [(b91, .cells (encChoice (⟨4, ((x8.toNat / 8 % 4 : Nat) : Int), 0⟩)).toArray 39 (0, 0))]] := hw
                    refine SO ?_
                    have hch : (⟨4, ((x8.toNat / 8 % 4 : Nat) : Int), 0⟩ : Choice) = chAt l m := chAt_mk0 hx9 (by omega) ((kind_mod (show x8.toNat % 8 = 6 by omega)).trans rfl)
                    rw [hch] at hw
                    replace hw : Own z w [s, L, [(b10, .cells (encChoice (chAt l m)).toArray 39 (0, 0))], [(b91, .cells (encChoice (chAt l m)).toArray 39 (0, 0))]] := hw
                    refine O_append tyOK hw 0 (enc := encChoice) (size := 3) (l := (chsN l m)) (ys := [chAt l m]) (n := m) (fun _ => rfl) (by intro x; simp [encChoice, Value.oneCell']) hsl (by simp [chsN_len]) (fun w hw => Src.all (c := 1) (enc := encChoice) (et := 39) (fr := (0, 0)) (l := [chAt l m]) (fun _ => rfl) (hw.blk 3 rfl)) (g := te39) (by show _ * 24 ≤ _; simp [chsN_len]; omega) ?_
                    clear hw; intro p92 c93 s94 w hs' hw
                    rw [chsN_succ] at hs'
                    rw [show ((chsN l m) ++ [chAt l m]).length = m + 1 by simp [chsN_len]]
                    replace hw : Own z w [s94, L, [(b10, .cells (encChoice (chAt l m)).toArray 39 (0, 0))], [(b91, .cells (encChoice (chAt l m)).toArray 39 (0, 0))]] := hw
                    refine SP tyOK 0 1 4 [0, 3, 4] (env' := [(0, .slice (some ⟨b2, A3.length, none⟩) l.length c), (3, .slice p92 (m + 1) c93), (4, .int .i64 ((2 * m : Nat) : Int))]) ?_
                    refine sEnd ?_
                    refine qBlk ?_
                    refine qThen ?_
                    refine cReg 3 ?_
                    refine SP tyOK 1 2 0 [0, 3, 11] (env' := [(0, .slice (some ⟨b2, A3.length, none⟩) l.length c), (3, .slice p92 (m + 1) c93), (11, .int .i64 (IntKind.i64.wrap (((2 * m : Nat) : Int) + 2)))]) ?_
                    refine setS 11 (.int .i64 ((2 * (m + 1) : Nat) : Int)) (nat_add2 (by omega)) ?_
                    refine SP tyOK 0 1 2 [0, 3, 4] (env' := [(0, .slice (some ⟨b2, A3.length, none⟩) l.length c), (3, .slice p92 (m + 1) c93), (4, .int .i64 ((2 * (m + 1) : Nat) : Int))]) ?_
                    refine sEnd ?_
                    refine qLoop (l.length - 2 * ((m + 1))) (by omega) [0, 3, 4] (env' := [(0, .slice (some ⟨b2, A3.length, none⟩) l.length c), (3, .slice p92 (m + 1) c93), (4, .int .i64 ((2 * (m + 1) : Nat) : Int))]) ?_
                    exact ⟨m + 1, p92, c93, s94, rfl, by omega, hs', rfl, hw.take 2⟩
                ·
                  have hb83p : ((x8.toNat % 8 : Nat) : Int) ≠ 6 := by simpa using hb83
                  refine setC 38 (.bool false) (congrArg Value.bool hb83) ?_
                  refine cF ?_
                  refine cReg 2 ?_
                  refine SP tyOK 1 1 0 [0, 3, 4, 5, 25] (env' := [(0, .slice (some ⟨b2, A3.length, none⟩) l.length c), (3, .slice q m cq), (4, .int .i64 ((2 * m : Nat) : Int)), (5, .pointer (some ⟨b10, 0, none⟩)), (25, .pointer (some ⟨b10, 0, none⟩))]) ?_
                  refine SO ?_
                  refine O_store tyOK hw 2 (b := b10) (off := 0) (cs' := (encChoice (⟨5, ((x8.toNat / 8 % 4 : Nat) : Int), 0⟩)).toArray) ?_
                  clear hw; intro w hw
                  replace hw : Own z w [s, L, [(b10, .cells (encChoice (⟨5, ((x8.toNat / 8 % 4 : Nat) : Int), 0⟩)).toArray 39 (0, 0))]] := hw
                  refine sEnd ?_
                  refine qBlk ?_
                  refine qThen ?_
                  refine cSeq ?_
                  refine cSeq ?_
                  refine cReg 5 ?_
                  refine SP tyOK 3 2 0 [0, 3, 4, 5, 42] (env' := [(0, .slice (some ⟨b2, A3.length, none⟩) l.length c), (3, .slice q m cq), (4, .int .i64 ((2 * m : Nat) : Int)), (5, .pointer (some ⟨b10, 0, none⟩)), (42, .int .i64 (IntKind.i64.wrap (((2 * m : Nat) : Int) + 1)))]) ?_
                  refine setS 42 (.int .i64 ((2 * m + 1 : Nat) : Int)) (nat_inc (by omega)) ?_
                  refine SP tyOK 0 3 2 [0, 3, 4, 5, 45] (env' := [(0, .slice (some ⟨b2, A3.length, none⟩) l.length c), (3, .slice q m cq), (4, .int .i64 ((2 * m : Nat) : Int)), (5, .pointer (some ⟨b10, 0, none⟩)), (45, .bool (decide (((2 * m + 1 : Nat) : Int) < ((l.length : Nat) : Int))))]) ?_
                  refine sEnd ?_
                  refine qThen ?_
                  refine two (decide (((2 * m + 1 : Nat) : Int) < ((l.length : Nat) : Int))) (fun hb95 => ?_) (fun hb95 => ?_)
                  ·
                    have hb95p : ((2 * m + 1 : Nat) : Int) < ((l.length : Nat) : Int) := of_decide_eq_true hb95
                    refine setC 45 (.bool true) (congrArg Value.bool hb95) ?_
                    refine cT ?_
                    obtain ⟨x96, hx97⟩ : ∃ x, l[2 * m + 1]? = some x := ⟨_, List.getElem?_eq_getElem (by omega)⟩
                    refine cReg 8 ?_
                    refine SP tyOK 5 3 0 [0, 3, 4, 5, 46, 48] (env' := [(0, .slice (some ⟨b2, A3.length, none⟩) l.length c), (3, .slice q m cq), (4, .int .i64 ((2 * m : Nat) : Int)), (5, .pointer (some ⟨b10, 0, none⟩)), (46, .slice (some ⟨b2, A3.length, none⟩) l.length c), (48, .int .i64 (IntKind.i64.wrap (((2 * m : Nat) : Int) + 1)))]) ?_
                    refine setS 48 (.int .i64 ((2 * m + 1 : Nat) : Int)) (nat_inc (by omega)) ?_
                    refine SO ?_
                    refine O_idx tyOK (2 * m + 1) (n := l.length) (rfl) (by omega) ?_
                    refine SO ?_
                    refine O_loadR tyOK hw 1 (b := b2) (off := A3.length + (2 * m + 1) * 1) (v := .int .u8 ((x96.toNat : Nat) : Int)) hm7 (ldP_rd (T := TY) (t := 5) (size := 1) (fun _ => rfl) hx97 (by as_aux_lemma => kernel_rfl)) ?_
                    refine SP tyOK 2 1 5 [0, 3, 4, 5, 51] (env' := [(0, .slice (some ⟨b2, A3.length, none⟩) l.length c), (3, .slice q m cq), (4, .int .i64 ((2 * m : Nat) : Int)), (5, .pointer (some ⟨b10, 0, none⟩)), (51, .int .i64 (IntKind.i64.wrap ((x96.toNat : Nat) : Int)))]) ?_
                    refine setS 51 (.int .i64 ((x96.toNat : Nat) : Int)) (congrArg (Value.int .i64) (u8_i64 x96)) ?_
                    refine SP tyOK 1 1 6 [0, 3, 4, 5, 51, 52] (env' := [(0, .slice (some ⟨b2, A3.length, none⟩) l.length c), (3, .slice q m cq), (4, .int .i64 ((2 * m : Nat) : Int)), (5, .pointer (some ⟨b10, 0, none⟩)), (51, .int .i64 ((x96.toNat : Nat) : Int)), (52, .pointer (some ⟨b10, 2, none⟩))]) ?_
                    refine SO ?_
                    refine O_store tyOK hw 2 (b := b10) (off := 2) (cs' := (encChoice (⟨5, ((x8.toNat / 8 % 4 : Nat) : Int), ((x96.toNat : Nat) : Int)⟩)).toArray) ?_
                    clear hw; intro w hw
                    replace hw : Own z w [s, L, [(b10, .cells (encChoice (⟨5, ((x8.toNat / 8 % 4 : Nat) : Int), ((x96.toNat : Nat) : Int)⟩)).toArray 39 (0, 0))]] := hw
                    refine sEnd ?_
                    refine qThen ?_
                    refine cReg 5 ?_
                    refine SP tyOK 4 1 0 [0, 4, 5, 53] (env' := [(0, .slice (some ⟨b2, A3.length, none⟩) l.length c), (4, .int .i64 ((2 * m : Nat) : Int)), (5, .pointer (some ⟨b10, 0, none⟩)), (53, .slice q m cq)]) ?_
                    refine SO ?_
                    refine O_load tyOK hw 2 (b := b10) (off := 0) (v := .agg ((encChoice (⟨5, ((x8.toNat / 8 % 4 : Nat) : Int), ((x96.toNat : Nat) : Int)⟩)).toArray)) ?_
                    refine SO ?_
                    refine O_buildSlice tyOK hw (el := 39) ((encChoice (⟨5, ((x8.toNat / 8 % 4 : Nat) : Int), ((x96.toNat : Nat) : Int)⟩)).toArray) ?_
                    clear hw; intro b98 w hw
                    replace hw : Own z w [s, L, [(b10, .cells (encChoice (⟨5, ((x8.toNat / 8 % 4 : Nat) : Int), ((x96.toNat : Nat) : Int)⟩)).toArray 39 (0, 0))], [(b98, .cells (encChoice (⟨5, ((x8.toNat / 8 % 4 : Nat) : Int), ((x96.toNat : Nat) : Int)⟩)).toArray 39 (0, 0))]] := hw
                    refine SO ?_
                    have hch : (⟨5, ((x8.toNat / 8 % 4 : Nat) : Int), ((x96.toNat : Nat) : Int)⟩ : Choice) = chAt l m := chAt_mk hx9 hx97 ((kind_mod (show x8.toNat % 8 = 7 by omega)).trans rfl)
                    rw [hch] at hw
                    replace hw : Own z w [s, L, [(b10, .cells (encChoice (chAt l m)).toArray 39 (0, 0))], [(b98, .cells (encChoice (chAt l m)).toArray 39 (0, 0))]] := hw
                    refine O_append tyOK hw 0 (enc := encChoice) (size := 3) (l := (chsN l m)) (ys := [chAt l m]) (n := m) (fun _ => rfl) (by intro x; simp [encChoice, Value.oneCell']) hsl (by simp [chsN_len]) (fun w hw => Src.all (c := 1) (enc := encChoice) (et := 39) (fr := (0, 0)) (l := [chAt l m]) (fun _ => rfl) (hw.blk 3 rfl)) (g := te39) (by show _ * 24 ≤ _; simp [chsN_len]; omega) ?_
                    clear hw; intro p99 c100 s101 w hs' hw
                    rw [chsN_succ] at hs'
                    rw [show ((chsN l m) ++ [chAt l m]).length = m + 1 by simp [chsN_len]]
                    replace hw : Own z w [s101, L, [(b10, .cells (encChoice (chAt l m)).toArray 39 (0, 0))], [(b98, .cells (encChoice (chAt l m)).toArray 39 (0, 0))]] := hw
                    refine SP tyOK 0 1 4 [0, 3, 4] (env' := [(0, .slice (some ⟨b2, A3.length, none⟩) l.length c), (3, .slice p99 (m + 1) c100), (4, .int .i64 ((2 * m : Nat) : Int))]) ?_
                    refine sEnd ?_
                    refine qBlk ?_
                    refine qThen ?_
                    refine cReg 3 ?_
                    refine SP tyOK 1 2 0 [0, 3, 11] (env' := [(0, .slice (some ⟨b2, A3.length, none⟩) l.length c), (3, .slice p99 (m + 1) c100), (11, .int .i64 (IntKind.i64.wrap (((2 * m : Nat) : Int) + 2)))]) ?_
                    refine setS 11 (.int .i64 ((2 * (m + 1) : Nat) : Int)) (nat_add2 (by omega)) ?_
                    refine SP tyOK 0 1 2 [0, 3, 4] (env' := [(0, .slice (some ⟨b2, A3.length, none⟩) l.length c), (3, .slice p99 (m + 1) c100), (4, .int .i64 ((2 * (m + 1) : Nat) : Int))]) ?_
                    refine sEnd ?_
                    refine qLoop (l.length - 2 * ((m + 1))) (by omega) [0, 3, 4] (env' := [(0, .slice (some ⟨b2, A3.length, none⟩) l.length c), (3, .slice p99 (m + 1) c100), (4, .int .i64 ((2 * (m + 1) : Nat) : Int))]) ?_
                    exact ⟨m + 1, p99, c100, s101, rfl, by omega, hs', rfl, hw.take 2⟩
                  ·
                    have hb95p : ¬ (((2 * m + 1 : Nat) : Int) < ((l.length : Nat) : Int)) := of_decide_eq_false hb95
                    refine setC 45 (.bool false) (congrArg Value.bool hb95) ?_
                    refine cF ?_
                    refine cSkip ?_
                    refine qThen ?_
                    refine cReg 5 ?_
                    refine SP tyOK 4 1 0 [0, 4, 5, 53] (env' := [(0, .slice (some ⟨b2, A3.length, none⟩) l.length c), (4, .int .i64 ((2 * m : Nat) : Int)), (5, .pointer (some ⟨b10, 0, none⟩)), (53, .slice q m cq)]) ?_
                    refine SO ?_
                    refine O_load tyOK hw 2 (b := b10) (off := 0) (v := .agg ((encChoice (⟨5, ((x8.toNat / 8 % 4 : Nat) : Int), 0⟩)).toArray)) ?_
                    refine SO ?_
                    refine O_buildSlice tyOK hw (el := 39) ((encChoice (⟨5, ((x8.toNat / 8 % 4 : Nat) : Int), 0⟩)).toArray) ?_
                    clear hw; intro b102 w hw
                    replace hw : Own z w [s, L, [(b10, .cells (encChoice (⟨5, ((x8.toNat / 8 % 4 : Nat) : Int), 0⟩)).toArray 39 (0, 0))], [(b102, .cells (encChoice (⟨5, ((x8.toNat / 8 % 4 : Nat) : Int), 0⟩)).toArray 39 (0, 0))]] := hw
                    refine SO ?_
                    have hch : (⟨5, ((x8.toNat / 8 % 4 : Nat) : Int), 0⟩ : Choice) = chAt l m := chAt_mk0 hx9 (by omega) ((kind_mod (show x8.toNat % 8 = 7 by omega)).trans rfl)
                    rw [hch] at hw
                    replace hw : Own z w [s, L, [(b10, .cells (encChoice (chAt l m)).toArray 39 (0, 0))], [(b102, .cells (encChoice (chAt l m)).toArray 39 (0, 0))]] := hw
                    refine O_append tyOK hw 0 (enc := encChoice) (size := 3) (l := (chsN l m)) (ys := [chAt l m]) (n := m) (fun _ => rfl) (by intro x; simp [encChoice, Value.oneCell']) hsl (by simp [chsN_len]) (fun w hw => Src.all (c := 1) (enc := encChoice) (et := 39) (fr := (0, 0)) (l := [chAt l m]) (fun _ => rfl) (hw.blk 3 rfl)) (g := te39) (by show _ * 24 ≤ _; simp [chsN_len]; omega) ?_
                    clear hw; intro p103 c104 s105 w hs' hw
                    rw [chsN_succ] at hs'
                    rw [show ((chsN l m) ++ [chAt l m]).length = m + 1 by simp [chsN_len]]
                    replace hw : Own z w [s105, L, [(b10, .cells (encChoice (chAt l m)).toArray 39 (0, 0))], [(b102, .cells (encChoice (chAt l m)).toArray 39 (0, 0))]] := hw
                    refine SP tyOK 0 1 4 [0, 3, 4] (env' := [(0, .slice (some ⟨b2, A3.length, none⟩) l.length c), (3, .slice p103 (m + 1) c104), (4, .int .i64 ((2 * m : Nat) : Int))]) ?_
                    refine sEnd ?_
                    refine qBlk ?_
                    refine qThen ?_
                    refine cReg 3 ?_
                    refine SP tyOK 1 2 0 [0, 3, 11] (env' := [(0, .slice (some ⟨b2, A3.length, none⟩) l.length c), (3, .slice p103 (m + 1) c104), (11, .int .i64 (IntKind.i64.wrap (((2 * m : Nat) : Int) + 2)))]) ?_
                    refine setS 11 (.int .i64 ((2 * (m + 1) : Nat) : Int)) (nat_add2 (by omega)) ?_
                    refine SP tyOK 0 1 2 [0, 3, 4] (env' := [(0, .slice (some ⟨b2, A3.length, none⟩) l.length c), (3, .slice p103 (m + 1) c104), (4, .int .i64 ((2 * (m + 1) : Nat) : Int))]) ?_
                    refine sEnd ?_
                    refine qLoop (l.length - 2 * ((m + 1))) (by omega) [0, 3, 4] (env' := [(0, .slice (some ⟨b2, A3.length, none⟩) l.length c), (3, .slice p103 (m + 1) c104), (4, .int .i64 ((2 * (m + 1) : Nat) : Int))]) ?_
                    exact ⟨m + 1, p103, c104, s105, rfl, by omega, hs', rfl, hw.take 2⟩
  ·
    have hb1p : ¬ (((2 * m : Nat) : Int) < ((l.length : Nat) : Int)) := of_decide_eq_false hb1
    refine setC 9 (.bool false) (congrArg Value.bool hb1) ?_
    refine cF ?_
    refine cExit (qThenX (qThenX (qBlkX ?_)))
    refine qThen ?_
    refine cSeq ?_
    refine cReg 2 ?_
    refine SP tyOK 0 2 0 [2] (env' := [(2, .slice q m cq)]) ?_
    refine sEnd ?_
    refine qThen ?_
    refine cRet ?_
    refine qRet (rs := [.tmp 2]) [.slice q m cq] (.slice q m cq) ⟨rT, trivial⟩ ?_
    have he : chsN l m = chs l := by unfold chsN chs; rw [show m = (l.length + 1) / 2 by omega]
    rw [he] at hsl
    exact ⟨q, cq, s, by rw [show (chs l).length = m by rw [chs_len]; omega], hsl, hw⟩

end Go.SL