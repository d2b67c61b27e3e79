import Derived.Test.YtkfkfpgnapncaaaGreatDoorScJ1
set_option linter.unusedSimpArgs false
set_option linter.unusedVariables false
namespace Go.SL
open Go Go.RowKit Go.Proofs
open Go.EV (AggOK eqA spA)
set_option maxRecDepth 100000
set_option linter.unusedVariables false
set_option linter.unusedSimpArgs false


theorem bne_f {a b : Int} (h : (a != b) = false) : (a == b) = true := by simpa [bne] using h
theorem bne_t {a b : Int} (h : (a != b) = true) : (a == b) = false := by simpa [bne] using h
theorem nat_incM {i n : Nat} (hi : i < n) (hn : n ≤ maxLen) : Value.int .i64 (IntKind.i64.wrap (((i : Nat) : Int) + 1)) = .int .i64 ((i + 1 : Nat) : Int) := by
  have : maxLen = 9223372036854775807 := by decide
  rw [wrap_i64_of (by omega) (by omega)]; rfl
theorem bstr_data : ∀ (l : List UInt8) (s : ByteArray), (l.foldl ByteArray.push s).data.toList = s.data.toList ++ l
  | [], s => by simp
  | x :: l, s => by
    rw [List.foldl_cons, bstr_data l]
    obtain ⟨d⟩ := s
    simp [ByteArray.push]
theorem bstr_list (l : List UInt8) : (bstr l).toList = l := by
  rw [ByteArray.toList_eq]
  unfold bstr
  rw [bstr_data]; rfl
theorem bstr_leq (l m : List UInt8) : ((bstr l).toList == (bstr m).toList) = leq bytB l m := by
  rw [bstr_list, bstr_list, leq_byt]
  by_cases h : l = m <;> simp [h]
def ranB (lda : List Did) (lha : List Hart) (lma : List UInt8) (ra : Bool) (ldb : List Did) (lhb : List Hart) (lmb : List UInt8) (rb : Bool) : Bool := leq didB lda ldb && leq hartB lha lhb && leq bytB lma lmb && (ra == rb)
theorem ranB_self (ld : List Did) (lh : List Hart) (lm : List UInt8) (r : Bool) : ranB ld lh lm r ld lh lm r = true := by
  simp [ranB, leq_self did_self, leq_self hart_self, leq_self bytB_self]

theorem eqDid_c {z w : World} {L : HL} {pa pb : Option Addr} {ca cb : Nat} {la lb : List Did} (ha : Rd L encDid pa la) (hb : Rd L encDid pb lb) (h1 : la.length ≤ maxLen) (hw : Own z w [L]) :
    Ret Tryz.prog 66 #[.slice pa la.length ca, .slice pb lb.length cb] w (fun v w' => v = .bool (leq didB la lb) ∧ Own z w' [L]) := by
  refine enterE Tryz.ntmps66 Tryz.func66 (args := [.slice pa la.length ca, .slice pb lb.length cb]) ?_
  refine cSeq ?_
  refine cReg 1 ?_
  refine SP tyOK 0 1 0 [0, 1] (env' := [(0, .slice pa la.length ca), (1, .slice pb lb.length cb)]) ?_
  refine sEnd ?_
  refine qThen ?_
  refine cSeq ?_
  refine cSeq ?_
  refine cReg 5 ?_
  refine SP tyOK 0 5 0 [0, 1, 10] (env' := [(0, .slice pa la.length ca), (1, .slice pb lb.length cb), (10, .bool (((la.length : Nat) : Int) != ((lb.length : Nat) : Int)))]) ?_
  refine sEnd ?_
  refine qThen ?_
  refine two (((la.length : Nat) : Int) != ((lb.length : Nat) : Int)) (fun hb1 => ?_) (fun hb1 => ?_)
  ·
    have hb1p : ((la.length : Nat) : Int) ≠ ((lb.length : Nat) : Int) := by simpa using hb1
    refine setC 10 (.bool true) (congrArg Value.bool hb1) ?_
    refine cT ?_
    refine cSeq ?_
    refine cReg 1 ?_
    refine SP tyOK 0 1 0 [4] (env' := [(4, .bool false)]) ?_
    refine sEnd ?_
    refine qThen ?_
    refine cRet ?_
    refine qThenR ?_
    refine qRet (rs := [.tmp 4]) [.bool false] (.bool false) ⟨rT, trivial⟩ ?_
    exact ⟨by rw [leq_len (fun e => by rw [e] at hb1p; exact hb1p rfl)], hw⟩
  ·
    have hb1p : ((la.length : Nat) : Int) = ((lb.length : Nat) : Int) := by simpa using hb1
    refine setC 10 (.bool false) (congrArg Value.bool hb1) ?_
    refine cF ?_
    refine cSkip ?_
    refine qThen ?_
    refine cSeq ?_
    refine cSeq ?_
    refine cReg 3 ?_
    refine SP tyOK 0 3 0 [0, 1, 12, 13] (env' := [(0, .slice pa la.length ca), (1, .slice pb lb.length cb), (12, .int .i64 ((la.length : Nat) : Int)), (13, .int .i64 0)]) ?_
    refine sEnd ?_
    refine qThen ?_
    refine cBlk ?_
    have hlen : la.length = lb.length := by omega
    refine keepC [0, 1, 12, 13] (env' := [(0, .slice pa la.length ca), (1, .slice pb lb.length cb), (12, .int .i64 ((la.length : Nat) : Int)), (13, .int .i64 0)]) ?_
    refine cLoop (fun n env w => ∃ (i : Nat), n = la.length - i ∧ (i ≤ la.length) ∧ (leq didB la lb = leq didB (la.drop i) (lb.drop i)) ∧ env = [(0, .slice pa la.length ca), (1, .slice pb lb.length cb), (12, .int .i64 ((la.length : Nat) : Int)), (13, .int .i64 ((i : Nat) : Int))] ∧ Own z w [L]) (la.length - (0)) ⟨0, rfl, Nat.zero_le _, rfl, rfl, hw⟩ ?_
    clear hw; rintro n env w ⟨i, rfl, hi, he, rfl, hw⟩
    refine cSeq ?_
    refine cReg 1 ?_
    refine SP tyOK 0 1 0 [0, 1, 12, 13, 14] (env' := [(0, .slice pa la.length ca), (1, .slice pb lb.length cb), (12, .int .i64 ((la.length : Nat) : Int)), (13, .int .i64 ((i : Nat) : Int)), (14, .bool (decide (((i : Nat) : Int) < ((la.length : Nat) : Int))))]) ?_
    refine sEnd ?_
    refine qThen ?_
    refine cSeq ?_
    refine two (decide (((i : Nat) : Int) < ((la.length : Nat) : Int))) (fun hb2 => ?_) (fun hb2 => ?_)
    ·
      have hb2p : ((i : Nat) : Int) < ((la.length : Nat) : Int) := of_decide_eq_true hb2
      refine setC 14 (.bool true) (congrArg Value.bool hb2) ?_
      refine cT ?_
      refine cSkip ?_
      refine qThen ?_
      refine cSeq ?_
      refine cBlk ?_
      refine cSeq ?_
      refine cReg 2 ?_
      refine SP tyOK 0 2 0 [0, 1, 5, 12, 13] (env' := [(0, .slice pa la.length ca), (1, .slice pb lb.length cb), (5, .int .i64 ((i : Nat) : Int)), (12, .int .i64 ((la.length : Nat) : Int)), (13, .int .i64 ((i : Nat) : Int))]) ?_
      refine sEnd ?_
      refine qThen ?_
      refine cSeq ?_
      have hib : i < lb.length := by omega
      obtain ⟨b3, A4, B5, et6, fr7, rfl, hm8⟩ := ha.some (by omega)
      obtain ⟨x9, hx10⟩ : ∃ x, la[i]? = some x := ⟨_, List.getElem?_eq_getElem (by omega)⟩
      obtain ⟨b11, A12, B13, et14, fr15, rfl, hm16⟩ := hb.some (by omega)
      obtain ⟨x17, hx18⟩ : ∃ x, lb[i]? = some x := ⟨_, List.getElem?_eq_getElem (by omega)⟩
      refine noPan_of (cDraw (Has (L)) 9 [.q 0, .q 1, .q 2, .q 3, .q 4, .q 5, .q 6, .q 7, .q 8] hw mixed pdNo ?_)
      clear hw; intro w hw
      refine MP (r := [.q 2, .q 3, .q 4, .q 5, .q 6, .q 7, .q 8]) tyOK (hw.mem (i := 0) rfl) [0, 1] [0, 1, 5, 12, 13, 16, 17] (env' := [(0, .slice (some ⟨b3, A4.length, none⟩) la.length ca), (1, .slice (some ⟨b11, A12.length, none⟩) lb.length cb), (5, .int .i64 ((i : Nat) : Int)), (12, .int .i64 ((la.length : Nat) : Int)), (13, .int .i64 ((i : Nat) : Int)), (16, .slice (some ⟨b3, A4.length, none⟩) la.length ca), (17, .int .i64 ((i : Nat) : Int))]) ?_
      refine M_idx tyOK (hw.mem (i := 0) rfl) (i) (n := la.length) (b := b3) (off := A4.length) (rfl) (by omega) ?_
      refine MLR tyOK (hw.mem (i := 0) rfl) (b := b3) (off := A4.length + i * 20) (v := .agg ((encDid x9).toArray)) hm8 (ldP_rd (T := TY) (t := 73) (size := 20) (fun _ => rfl) hx10 (by as_aux_lemma => kernel_rfl)) ?_
      refine MP (r := [.q 6, .q 7, .q 8]) tyOK (hw.mem (i := 0) rfl) [4, 5] [0, 1, 12, 13, 19, 20, 21] (env' := [(0, .slice (some ⟨b3, A4.length, none⟩) la.length ca), (1, .slice (some ⟨b11, A12.length, none⟩) lb.length cb), (12, .int .i64 ((la.length : Nat) : Int)), (13, .int .i64 ((i : Nat) : Int)), (19, .agg ((encDid x9).toArray)), (20, .slice (some ⟨b11, A12.length, none⟩) lb.length cb), (21, .int .i64 ((i : Nat) : Int))]) ?_
      refine M_idx tyOK (hw.mem (i := 0) rfl) (i) (n := lb.length) (b := b11) (off := A12.length) (rfl) (by omega) ?_
      refine MLR tyOK (hw.mem (i := 0) rfl) (b := b11) (off := A12.length + i * 20) (v := .agg ((encDid x17).toArray)) hm16 (ldP_rd (T := TY) (t := 73) (size := 20) (fun _ => rfl) hx18 (by as_aux_lemma => kernel_rfl)) ?_
      refine M_neq tyOK aggS2 (hw.mem (i := 0) rfl) (didB x9 x17) (hq := did_q _ _) ?_
      refine mEnd (qNo ?_)
      refine qThen ?_
      refine two (!(didB x9 x17)) (fun hb19 => ?_) (fun hb19 => ?_)
      ·
        refine setC 24 (.bool true) (congrArg Value.bool hb19) ?_
        refine cT ?_
        refine cSeq ?_
        refine cReg 1 ?_
        refine SP tyOK 0 1 0 [4] (env' := [(4, .bool false)]) ?_
        refine sEnd ?_
        refine qThen ?_
        refine cRet ?_
        refine qBlkR (qThenR (qThenR (qBlkR (qThenR ?_))))
        refine qRet (rs := [.tmp 4]) [.bool false] (.bool false) ⟨rT, trivial⟩ ?_
        exact ⟨by rw [leq_no hx10 hx18 he (by simpa using hb19)], hw⟩
      ·
        refine setC 24 (.bool false) (congrArg Value.bool hb19) ?_
        refine cF ?_
        refine cSkip ?_
        refine qBlk ?_
        refine qThen ?_
        refine cReg 2 ?_
        refine SP tyOK 1 1 0 [0, 1, 12, 25] (env' := [(0, .slice (some ⟨b3, A4.length, none⟩) la.length ca), (1, .slice (some ⟨b11, A12.length, none⟩) lb.length cb), (12, .int .i64 ((la.length : Nat) : Int)), (25, .int .i64 (IntKind.i64.wrap (((i : Nat) : Int) + 1)))]) ?_
        refine setS 25 (.int .i64 ((i + 1 : Nat) : Int)) (nat_incM (n := la.length) (by omega) h1) ?_
        refine SP tyOK 0 1 1 [0, 1, 12, 13] (env' := [(0, .slice (some ⟨b3, A4.length, none⟩) la.length ca), (1, .slice (some ⟨b11, A12.length, none⟩) lb.length cb), (12, .int .i64 ((la.length : Nat) : Int)), (13, .int .i64 ((i + 1 : Nat) : Int))]) ?_
        refine sEnd ?_
        refine qLoop (la.length - ((i + 1))) (by omega) [0, 1, 12, 13] (env' := [(0, .slice (some ⟨b3, A4.length, none⟩) la.length ca), (1, .slice (some ⟨b11, A12.length, none⟩) lb.length cb), (12, .int .i64 ((la.length : Nat) : Int)), (13, .int .i64 ((i + 1 : Nat) : Int))]) ?_
        exact ⟨i + 1, rfl, by omega, leq_yes hx10 hx18 he (by simpa using hb19), rfl, hw⟩
    ·
      have hb2p : ¬ (((i : Nat) : Int) < ((la.length : Nat) : Int)) := of_decide_eq_false hb2
      refine setC 14 (.bool false) (congrArg Value.bool hb2) ?_
      refine cF ?_
      refine cExit (qThenX (qThenX (qBlkX ?_)))
      refine qThen ?_
      refine cSeq ?_
      refine cReg 1 ?_
      refine SP tyOK 0 1 0 [4] (env' := [(4, .bool true)]) ?_
      refine sEnd ?_
      refine qThen ?_
      refine cRet ?_
      refine qRet (rs := [.tmp 4]) [.bool true] (.bool true) ⟨rT, trivial⟩ ?_
      exact ⟨by rw [leq_end (by omega) hlen he], hw⟩

theorem eqHart_c {z w : World} {L : HL} {pa pb : Option Addr} {ca cb : Nat} {la lb : List Hart} (ha : Rd L encHart pa la) (hb : Rd L encHart pb lb) (h1 : la.length ≤ maxLen) (hw : Own z w [L]) :
    Ret Tryz.prog 67 #[.slice pa la.length ca, .slice pb lb.length cb] w (fun v w' => v = .bool (leq hartB la lb) ∧ Own z w' [L]) := by
  refine enterE Tryz.ntmps67 Tryz.func67 (args := [.slice pa la.length ca, .slice pb lb.length cb]) ?_
  refine cSeq ?_
  refine cReg 1 ?_
  refine SP tyOK 0 1 0 [0, 1] (env' := [(0, .slice pa la.length ca), (1, .slice pb lb.length cb)]) ?_
  refine sEnd ?_
  refine qThen ?_
  refine cSeq ?_
  refine cSeq ?_
  refine cReg 5 ?_
  refine SP tyOK 0 5 0 [0, 1, 10] (env' := [(0, .slice pa la.length ca), (1, .slice pb lb.length cb), (10, .bool (((la.length : Nat) : Int) != ((lb.length : Nat) : Int)))]) ?_
  refine sEnd ?_
  refine qThen ?_
  refine two (((la.length : Nat) : Int) != ((lb.length : Nat) : Int)) (fun hb1 => ?_) (fun hb1 => ?_)
  ·
    have hb1p : ((la.length : Nat) : Int) ≠ ((lb.length : Nat) : Int) := by simpa using hb1
    refine setC 10 (.bool true) (congrArg Value.bool hb1) ?_
    refine cT ?_
    refine cSeq ?_
    refine cReg 1 ?_
    refine SP tyOK 0 1 0 [4] (env' := [(4, .bool false)]) ?_
    refine sEnd ?_
    refine qThen ?_
    refine cRet ?_
    refine qThenR ?_
    refine qRet (rs := [.tmp 4]) [.bool false] (.bool false) ⟨rT, trivial⟩ ?_
    exact ⟨by rw [leq_len (fun e => by rw [e] at hb1p; exact hb1p rfl)], hw⟩
  ·
    have hb1p : ((la.length : Nat) : Int) = ((lb.length : Nat) : Int) := by simpa using hb1
    refine setC 10 (.bool false) (congrArg Value.bool hb1) ?_
    refine cF ?_
    refine cSkip ?_
    refine qThen ?_
    refine cSeq ?_
    refine cSeq ?_
    refine cReg 3 ?_
    refine SP tyOK 0 3 0 [0, 1, 12, 13] (env' := [(0, .slice pa la.length ca), (1, .slice pb lb.length cb), (12, .int .i64 ((la.length : Nat) : Int)), (13, .int .i64 0)]) ?_
    refine sEnd ?_
    refine qThen ?_
    refine cBlk ?_
    have hlen : la.length = lb.length := by omega
    refine keepC [0, 1, 12, 13] (env' := [(0, .slice pa la.length ca), (1, .slice pb lb.length cb), (12, .int .i64 ((la.length : Nat) : Int)), (13, .int .i64 0)]) ?_
    refine cLoop (fun n env w => ∃ (i : Nat), n = la.length - i ∧ (i ≤ la.length) ∧ (leq hartB la lb = leq hartB (la.drop i) (lb.drop i)) ∧ env = [(0, .slice pa la.length ca), (1, .slice pb lb.length cb), (12, .int .i64 ((la.length : Nat) : Int)), (13, .int .i64 ((i : Nat) : Int))] ∧ Own z w [L]) (la.length - (0)) ⟨0, rfl, Nat.zero_le _, rfl, rfl, hw⟩ ?_
    clear hw; rintro n env w ⟨i, rfl, hi, he, rfl, hw⟩
    refine cSeq ?_
    refine cReg 1 ?_
    refine SP tyOK 0 1 0 [0, 1, 12, 13, 14] (env' := [(0, .slice pa la.length ca), (1, .slice pb lb.length cb), (12, .int .i64 ((la.length : Nat) : Int)), (13, .int .i64 ((i : Nat) : Int)), (14, .bool (decide (((i : Nat) : Int) < ((la.length : Nat) : Int))))]) ?_
    refine sEnd ?_
    refine qThen ?_
    refine cSeq ?_
    refine two (decide (((i : Nat) : Int) < ((la.length : Nat) : Int))) (fun hb2 => ?_) (fun hb2 => ?_)
    ·
      have hb2p : ((i : Nat) : Int) < ((la.length : Nat) : Int) := of_decide_eq_true hb2
      refine setC 14 (.bool true) (congrArg Value.bool hb2) ?_
      refine cT ?_
      refine cSkip ?_
      refine qThen ?_
      refine cSeq ?_
      refine cBlk ?_
      refine cSeq ?_
      refine cReg 2 ?_
      refine SP tyOK 0 2 0 [0, 1, 5, 12, 13] (env' := [(0, .slice pa la.length ca), (1, .slice pb lb.length cb), (5, .int .i64 ((i : Nat) : Int)), (12, .int .i64 ((la.length : Nat) : Int)), (13, .int .i64 ((i : Nat) : Int))]) ?_
      refine sEnd ?_
      refine qThen ?_
      refine cSeq ?_
      have hib : i < lb.length := by omega
      obtain ⟨b3, A4, B5, et6, fr7, rfl, hm8⟩ := ha.some (by omega)
      obtain ⟨x9, hx10⟩ : ∃ x, la[i]? = some x := ⟨_, List.getElem?_eq_getElem (by omega)⟩
      obtain ⟨b11, A12, B13, et14, fr15, rfl, hm16⟩ := hb.some (by omega)
      obtain ⟨x17, hx18⟩ : ∃ x, lb[i]? = some x := ⟨_, List.getElem?_eq_getElem (by omega)⟩
      refine noPan_of (cDraw (Has (L)) 9 [.q 0, .q 1, .q 2, .q 3, .q 4, .q 5, .q 6, .q 7, .q 8] hw mixed pdNo ?_)
      clear hw; intro w hw
      refine MP (r := [.q 2, .q 3, .q 4, .q 5, .q 6, .q 7, .q 8]) tyOK (hw.mem (i := 0) rfl) [0, 1] [0, 1, 5, 12, 13, 16, 17] (env' := [(0, .slice (some ⟨b3, A4.length, none⟩) la.length ca), (1, .slice (some ⟨b11, A12.length, none⟩) lb.length cb), (5, .int .i64 ((i : Nat) : Int)), (12, .int .i64 ((la.length : Nat) : Int)), (13, .int .i64 ((i : Nat) : Int)), (16, .slice (some ⟨b3, A4.length, none⟩) la.length ca), (17, .int .i64 ((i : Nat) : Int))]) ?_
      refine M_idx tyOK (hw.mem (i := 0) rfl) (i) (n := la.length) (b := b3) (off := A4.length) (rfl) (by omega) ?_
      refine MLR tyOK (hw.mem (i := 0) rfl) (b := b3) (off := A4.length + i * 35) (v := .agg ((encHart x9).toArray)) hm8 (ldP_rd (T := TY) (t := 85) (size := 35) (fun _ => rfl) hx10 (by as_aux_lemma => kernel_rfl)) ?_
      refine MP (r := [.q 6, .q 7, .q 8]) tyOK (hw.mem (i := 0) rfl) [4, 5] [0, 1, 12, 13, 19, 20, 21] (env' := [(0, .slice (some ⟨b3, A4.length, none⟩) la.length ca), (1, .slice (some ⟨b11, A12.length, none⟩) lb.length cb), (12, .int .i64 ((la.length : Nat) : Int)), (13, .int .i64 ((i : Nat) : Int)), (19, .agg ((encHart x9).toArray)), (20, .slice (some ⟨b11, A12.length, none⟩) lb.length cb), (21, .int .i64 ((i : Nat) : Int))]) ?_
      refine M_idx tyOK (hw.mem (i := 0) rfl) (i) (n := lb.length) (b := b11) (off := A12.length) (rfl) (by omega) ?_
      refine MLR tyOK (hw.mem (i := 0) rfl) (b := b11) (off := A12.length + i * 35) (v := .agg ((encHart x17).toArray)) hm16 (ldP_rd (T := TY) (t := 85) (size := 35) (fun _ => rfl) hx18 (by as_aux_lemma => kernel_rfl)) ?_
      refine M_neq tyOK aggS2 (hw.mem (i := 0) rfl) (hartB x9 x17) (hq := hart_q _ _) ?_
      refine mEnd (qNo ?_)
      refine qThen ?_
      refine two (!(hartB x9 x17)) (fun hb19 => ?_) (fun hb19 => ?_)
      ·
        refine setC 24 (.bool true) (congrArg Value.bool hb19) ?_
        refine cT ?_
        refine cSeq ?_
        refine cReg 1 ?_
        refine SP tyOK 0 1 0 [4] (env' := [(4, .bool false)]) ?_
        refine sEnd ?_
        refine qThen ?_
        refine cRet ?_
        refine qBlkR (qThenR (qThenR (qBlkR (qThenR ?_))))
        refine qRet (rs := [.tmp 4]) [.bool false] (.bool false) ⟨rT, trivial⟩ ?_
        exact ⟨by rw [leq_no hx10 hx18 he (by simpa using hb19)], hw⟩
      ·
        refine setC 24 (.bool false) (congrArg Value.bool hb19) ?_
        refine cF ?_
        refine cSkip ?_
        refine qBlk ?_
        refine qThen ?_
        refine cReg 2 ?_
        refine SP tyOK 1 1 0 [0, 1, 12, 25] (env' := [(0, .slice (some ⟨b3, A4.length, none⟩) la.length ca), (1, .slice (some ⟨b11, A12.length, none⟩) lb.length cb), (12, .int .i64 ((la.length : Nat) : Int)), (25, .int .i64 (IntKind.i64.wrap (((i : Nat) : Int) + 1)))]) ?_
        refine setS 25 (.int .i64 ((i + 1 : Nat) : Int)) (nat_incM (n := la.length) (by omega) h1) ?_
        refine SP tyOK 0 1 1 [0, 1, 12, 13] (env' := [(0, .slice (some ⟨b3, A4.length, none⟩) la.length ca), (1, .slice (some ⟨b11, A12.length, none⟩) lb.length cb), (12, .int .i64 ((la.length : Nat) : Int)), (13, .int .i64 ((i + 1 : Nat) : Int))]) ?_
        refine sEnd ?_
        refine qLoop (la.length - ((i + 1))) (by omega) [0, 1, 12, 13] (env' := [(0, .slice (some ⟨b3, A4.length, none⟩) la.length ca), (1, .slice (some ⟨b11, A12.length, none⟩) lb.length cb), (12, .int .i64 ((la.length : Nat) : Int)), (13, .int .i64 ((i + 1 : Nat) : Int))]) ?_
        exact ⟨i + 1, rfl, by omega, leq_yes hx10 hx18 he (by simpa using hb19), rfl, hw⟩
    ·
      have hb2p : ¬ (((i : Nat) : Int) < ((la.length : Nat) : Int)) := of_decide_eq_false hb2
      refine setC 14 (.bool false) (congrArg Value.bool hb2) ?_
      refine cF ?_
      refine cExit (qThenX (qThenX (qBlkX ?_)))
      refine qThen ?_
      refine cSeq ?_
      refine cReg 1 ?_
      refine SP tyOK 0 1 0 [4] (env' := [(4, .bool true)]) ?_
      refine sEnd ?_
      refine qThen ?_
      refine cRet ?_
      refine qRet (rs := [.tmp 4]) [.bool true] (.bool true) ⟨rT, trivial⟩ ?_
      exact ⟨by rw [leq_end (by omega) hlen he], hw⟩

theorem eqByt_c {z w : World} {L : HL} {pa pb : Option Addr} {ca cb : Nat} {la lb : List UInt8} (ha : Rd L encB pa la) (hb : Rd L encB pb lb) (h1 : la.length ≤ maxLen) (hw : Own z w [L]) :
    Ret Tryz.prog 68 #[.slice pa la.length ca, .slice pb lb.length cb] w (fun v w' => v = .bool (leq bytB la lb) ∧ Own z w' [L]) := by
  refine enterE Tryz.ntmps68 Tryz.func68 (args := [.slice pa la.length ca, .slice pb lb.length cb]) ?_
  refine cSeq ?_
  refine cReg 1 ?_
  refine SP tyOK 0 1 0 [0, 1] (env' := [(0, .slice pa la.length ca), (1, .slice pb lb.length cb)]) ?_
  refine sEnd ?_
  refine qThen ?_
  refine cSeq ?_
  refine cSeq ?_
  refine cReg 5 ?_
  refine SP tyOK 0 5 0 [0, 1, 10] (env' := [(0, .slice pa la.length ca), (1, .slice pb lb.length cb), (10, .bool (((la.length : Nat) : Int) != ((lb.length : Nat) : Int)))]) ?_
  refine sEnd ?_
  refine qThen ?_
  refine two (((la.length : Nat) : Int) != ((lb.length : Nat) : Int)) (fun hb1 => ?_) (fun hb1 => ?_)
  ·
    have hb1p : ((la.length : Nat) : Int) ≠ ((lb.length : Nat) : Int) := by simpa using hb1
    refine setC 10 (.bool true) (congrArg Value.bool hb1) ?_
    refine cT ?_
    refine cSeq ?_
    refine cReg 1 ?_
    refine SP tyOK 0 1 0 [4] (env' := [(4, .bool false)]) ?_
    refine sEnd ?_
    refine qThen ?_
    refine cRet ?_
    refine qThenR ?_
    refine qRet (rs := [.tmp 4]) [.bool false] (.bool false) ⟨rT, trivial⟩ ?_
    exact ⟨by rw [leq_len (fun e => by rw [e] at hb1p; exact hb1p rfl)], hw⟩
  ·
    have hb1p : ((la.length : Nat) : Int) = ((lb.length : Nat) : Int) := by simpa using hb1
    refine setC 10 (.bool false) (congrArg Value.bool hb1) ?_
    refine cF ?_
    refine cSkip ?_
    refine qThen ?_
    refine cSeq ?_
    refine cSeq ?_
    refine cReg 3 ?_
    refine SP tyOK 0 3 0 [0, 1, 12, 13] (env' := [(0, .slice pa la.length ca), (1, .slice pb lb.length cb), (12, .int .i64 ((la.length : Nat) : Int)), (13, .int .i64 0)]) ?_
    refine sEnd ?_
    refine qThen ?_
    refine cBlk ?_
    have hlen : la.length = lb.length := by omega
    refine keepC [0, 1, 12, 13] (env' := [(0, .slice pa la.length ca), (1, .slice pb lb.length cb), (12, .int .i64 ((la.length : Nat) : Int)), (13, .int .i64 0)]) ?_
    refine cLoop (fun n env w => ∃ (i : Nat), n = la.length - i ∧ (i ≤ la.length) ∧ (leq bytB la lb = leq bytB (la.drop i) (lb.drop i)) ∧ env = [(0, .slice pa la.length ca), (1, .slice pb lb.length cb), (12, .int .i64 ((la.length : Nat) : Int)), (13, .int .i64 ((i : Nat) : Int))] ∧ Own z w [L]) (la.length - (0)) ⟨0, rfl, Nat.zero_le _, rfl, rfl, hw⟩ ?_
    clear hw; rintro n env w ⟨i, rfl, hi, he, rfl, hw⟩
    refine cSeq ?_
    refine cReg 1 ?_
    refine SP tyOK 0 1 0 [0, 1, 12, 13, 14] (env' := [(0, .slice pa la.length ca), (1, .slice pb lb.length cb), (12, .int .i64 ((la.length : Nat) : Int)), (13, .int .i64 ((i : Nat) : Int)), (14, .bool (decide (((i : Nat) : Int) < ((la.length : Nat) : Int))))]) ?_
    refine sEnd ?_
    refine qThen ?_
    refine cSeq ?_
    refine two (decide (((i : Nat) : Int) < ((la.length : Nat) : Int))) (fun hb2 => ?_) (fun hb2 => ?_)
    ·
      have hb2p : ((i : Nat) : Int) < ((la.length : Nat) : Int) := of_decide_eq_true hb2
      refine setC 14 (.bool true) (congrArg Value.bool hb2) ?_
      refine cT ?_
      refine cSkip ?_
      refine qThen ?_
      refine cSeq ?_
      refine cBlk ?_
      refine cSeq ?_
      refine cReg 2 ?_
      refine SP tyOK 0 2 0 [0, 1, 5, 12, 13] (env' := [(0, .slice pa la.length ca), (1, .slice pb lb.length cb), (5, .int .i64 ((i : Nat) : Int)), (12, .int .i64 ((la.length : Nat) : Int)), (13, .int .i64 ((i : Nat) : Int))]) ?_
      refine sEnd ?_
      refine qThen ?_
      refine cSeq ?_
      have hib : i < lb.length := by omega
      obtain ⟨b3, A4, B5, et6, fr7, rfl, hm8⟩ := ha.some (by omega)
      obtain ⟨x9, hx10⟩ : ∃ x, la[i]? = some x := ⟨_, List.getElem?_eq_getElem (by omega)⟩
      obtain ⟨b11, A12, B13, et14, fr15, rfl, hm16⟩ := hb.some (by omega)
      obtain ⟨x17, hx18⟩ : ∃ x, lb[i]? = some x := ⟨_, List.getElem?_eq_getElem (by omega)⟩
      refine noPan_of (cDraw (Has (L)) 9 [.q 0, .q 1, .q 2, .q 3, .q 4, .q 5, .q 6, .q 7, .q 8] hw mixed pdNo ?_)
      clear hw; intro w hw
      refine MP (r := [.q 2, .q 3, .q 4, .q 5, .q 6, .q 7, .q 8]) tyOK (hw.mem (i := 0) rfl) [0, 1] [0, 1, 5, 12, 13, 16, 17] (env' := [(0, .slice (some ⟨b3, A4.length, none⟩) la.length ca), (1, .slice (some ⟨b11, A12.length, none⟩) lb.length cb), (5, .int .i64 ((i : Nat) : Int)), (12, .int .i64 ((la.length : Nat) : Int)), (13, .int .i64 ((i : Nat) : Int)), (16, .slice (some ⟨b3, A4.length, none⟩) la.length ca), (17, .int .i64 ((i : Nat) : Int))]) ?_
      refine M_idx tyOK (hw.mem (i := 0) rfl) (i) (n := la.length) (b := b3) (off := A4.length) (rfl) (by omega) ?_
      refine MLR tyOK (hw.mem (i := 0) rfl) (b := b3) (off := A4.length + i * 1) (v := .int .u8 ((x9.toNat : Nat) : Int)) hm8 (ldP_rd (T := TY) (t := 5) (size := 1) (fun _ => rfl) hx10 (by as_aux_lemma => kernel_rfl)) ?_
      refine MP (r := [.q 6, .q 7, .q 8]) tyOK (hw.mem (i := 0) rfl) [4, 5] [0, 1, 12, 13, 19, 20, 21] (env' := [(0, .slice (some ⟨b3, A4.length, none⟩) la.length ca), (1, .slice (some ⟨b11, A12.length, none⟩) lb.length cb), (12, .int .i64 ((la.length : Nat) : Int)), (13, .int .i64 ((i : Nat) : Int)), (19, .int .u8 ((x9.toNat : Nat) : Int)), (20, .slice (some ⟨b11, A12.length, none⟩) lb.length cb), (21, .int .i64 ((i : Nat) : Int))]) ?_
      refine M_idx tyOK (hw.mem (i := 0) rfl) (i) (n := lb.length) (b := b11) (off := A12.length) (rfl) (by omega) ?_
      refine MLR tyOK (hw.mem (i := 0) rfl) (b := b11) (off := A12.length + i * 1) (v := .int .u8 ((x17.toNat : Nat) : Int)) hm16 (ldP_rd (T := TY) (t := 5) (size := 1) (fun _ => rfl) hx18 (by as_aux_lemma => kernel_rfl)) ?_
      refine MP (r := []) tyOK (hw.mem (i := 0) rfl) [8] [0, 1, 12, 13, 24] (env' := [(0, .slice (some ⟨b3, A4.length, none⟩) la.length ca), (1, .slice (some ⟨b11, A12.length, none⟩) lb.length cb), (12, .int .i64 ((la.length : Nat) : Int)), (13, .int .i64 ((i : Nat) : Int)), (24, .bool (((x9.toNat : Nat) : Int) != ((x17.toNat : Nat) : Int)))]) ?_
      refine mEnd (qNo ?_)
      refine qThen ?_
      refine two (((x9.toNat : Nat) : Int) != ((x17.toNat : Nat) : Int)) (fun hb19 => ?_) (fun hb19 => ?_)
      ·
        have hb19p : ((x9.toNat : Nat) : Int) ≠ ((x17.toNat : Nat) : Int) := by simpa using hb19
        refine setC 24 (.bool true) (congrArg Value.bool hb19) ?_
        refine cT ?_
        refine cSeq ?_
        refine cReg 1 ?_
        refine SP tyOK 0 1 0 [4] (env' := [(4, .bool false)]) ?_
        refine sEnd ?_
        refine qThen ?_
        refine cRet ?_
        refine qBlkR (qThenR (qThenR (qBlkR (qThenR ?_))))
        refine qRet (rs := [.tmp 4]) [.bool false] (.bool false) ⟨rT, trivial⟩ ?_
        exact ⟨by rw [leq_no hx10 hx18 he (bne_t hb19)], hw⟩
      ·
        have hb19p : ((x9.toNat : Nat) : Int) = ((x17.toNat : Nat) : Int) := by simpa using hb19
        refine setC 24 (.bool false) (congrArg Value.bool hb19) ?_
        refine cF ?_
        refine cSkip ?_
        refine qBlk ?_
        refine qThen ?_
        refine cReg 2 ?_
        refine SP tyOK 1 1 0 [0, 1, 12, 25] (env' := [(0, .slice (some ⟨b3, A4.length, none⟩) la.length ca), (1, .slice (some ⟨b11, A12.length, none⟩) lb.length cb), (12, .int .i64 ((la.length : Nat) : Int)), (25, .int .i64 (IntKind.i64.wrap (((i : Nat) : Int) + 1)))]) ?_
        refine setS 25 (.int .i64 ((i + 1 : Nat) : Int)) (nat_incM (n := la.length) (by omega) h1) ?_
        refine SP tyOK 0 1 1 [0, 1, 12, 13] (env' := [(0, .slice (some ⟨b3, A4.length, none⟩) la.length ca), (1, .slice (some ⟨b11, A12.length, none⟩) lb.length cb), (12, .int .i64 ((la.length : Nat) : Int)), (13, .int .i64 ((i + 1 : Nat) : Int))]) ?_
        refine sEnd ?_
        refine qLoop (la.length - ((i + 1))) (by omega) [0, 1, 12, 13] (env' := [(0, .slice (some ⟨b3, A4.length, none⟩) la.length ca), (1, .slice (some ⟨b11, A12.length, none⟩) lb.length cb), (12, .int .i64 ((la.length : Nat) : Int)), (13, .int .i64 ((i + 1 : Nat) : Int))]) ?_
        exact ⟨i + 1, rfl, by omega, leq_yes hx10 hx18 he (bne_f hb19), rfl, hw⟩
    ·
      have hb2p : ¬ (((i : Nat) : Int) < ((la.length : Nat) : Int)) := of_decide_eq_false hb2
      refine setC 14 (.bool false) (congrArg Value.bool hb2) ?_
      refine cF ?_
      refine cExit (qThenX (qThenX (qBlkX ?_)))
      refine qThen ?_
      refine cSeq ?_
      refine cReg 1 ?_
      refine SP tyOK 0 1 0 [4] (env' := [(4, .bool true)]) ?_
      refine sEnd ?_
      refine qThen ?_
      refine cRet ?_
      refine qRet (rs := [.tmp 4]) [.bool true] (.bool true) ⟨rT, trivial⟩ ?_
      exact ⟨by rw [leq_end (by omega) hlen he], hw⟩

theorem dids_c {z w : World} {L : HL} {pa pb : Option Addr} {ca cb : Nat} {la lb : List Did} (ha : Rd L encDid pa la) (hb : Rd L encDid pb lb) (h1 : la.length ≤ maxLen) (hw : Own z w [L]) :
    Ret Tryz.prog 40 #[.slice pa la.length ca, .slice pb lb.length cb] w (fun v w' => v = .bool (leq didB la lb) ∧ Own z w' [L]) := by
  refine enterE Tryz.ntmps40 Tryz.func40 (args := [.slice pa la.length ca, .slice pb lb.length cb]) ?_
  refine cSeq ?_
  refine cReg 1 ?_
  refine SP tyOK 0 1 0 [0, 1] (env' := [(0, .slice pa la.length ca), (1, .slice pb lb.length cb)]) ?_
  refine sEnd ?_
  refine qThen ?_
  refine cSeq ?_
  refine cSeq ?_
  refine cReg 5 ?_
  refine SP tyOK 0 5 0 [0, 1, 10] (env' := [(0, .slice pa la.length ca), (1, .slice pb lb.length cb), (10, .bool (((la.length : Nat) : Int) != ((lb.length : Nat) : Int)))]) ?_
  refine sEnd ?_
  refine qThen ?_
  refine two (((la.length : Nat) : Int) != ((lb.length : Nat) : Int)) (fun hb1 => ?_) (fun hb1 => ?_)
  ·
    have hb1p : ((la.length : Nat) : Int) ≠ ((lb.length : Nat) : Int) := by simpa using hb1
    refine setC 10 (.bool true) (congrArg Value.bool hb1) ?_
    refine cT ?_
    refine cSeq ?_
    refine cReg 1 ?_
    refine SP tyOK 0 1 0 [4] (env' := [(4, .bool false)]) ?_
    refine sEnd ?_
    refine qThen ?_
    refine cRet ?_
    refine qThenR ?_
    refine qRet (rs := [.tmp 4]) [.bool false] (.bool false) ⟨rT, trivial⟩ ?_
    exact ⟨by rw [leq_len (fun e => by rw [e] at hb1p; exact hb1p rfl)], hw⟩
  ·
    have hb1p : ((la.length : Nat) : Int) = ((lb.length : Nat) : Int) := by simpa using hb1
    refine setC 10 (.bool false) (congrArg Value.bool hb1) ?_
    refine cF ?_
    refine cSkip ?_
    refine qThen ?_
    refine cSeq ?_
    refine cSeq ?_
    refine cReg 1 ?_
    refine SP tyOK 0 1 0 [0, 1, 5] (env' := [(0, .slice pa la.length ca), (1, .slice pb lb.length cb), (5, .int .i64 0)]) ?_
    refine sEnd ?_
    refine qThen ?_
    refine cBlk ?_
    have hlen : la.length = lb.length := by omega
    refine keepC [0, 1, 5] (env' := [(0, .slice pa la.length ca), (1, .slice pb lb.length cb), (5, .int .i64 0)]) ?_
    refine cLoop (fun n env w => ∃ (i : Nat), n = la.length - i ∧ (i ≤ la.length) ∧ (leq didB la lb = leq didB (la.drop i) (lb.drop i)) ∧ env = [(0, .slice pa la.length ca), (1, .slice pb lb.length cb), (5, .int .i64 ((i : Nat) : Int))] ∧ Own z w [L]) (la.length - (0)) ⟨0, rfl, Nat.zero_le _, rfl, rfl, hw⟩ ?_
    clear hw; rintro n env w ⟨i, rfl, hi, he, rfl, hw⟩
    refine cSeq ?_
    refine cSeq ?_
    refine cReg 4 ?_
    refine SP tyOK 0 4 0 [0, 1, 5, 14] (env' := [(0, .slice pa la.length ca), (1, .slice pb lb.length cb), (5, .int .i64 ((i : Nat) : Int)), (14, .bool (decide (((i : Nat) : Int) < ((la.length : Nat) : Int))))]) ?_
    refine sEnd ?_
    refine qThen ?_
    refine two (decide (((i : Nat) : Int) < ((la.length : Nat) : Int))) (fun hb2 => ?_) (fun hb2 => ?_)
    ·
      have hb2p : ((i : Nat) : Int) < ((la.length : Nat) : Int) := of_decide_eq_true hb2
      refine setC 14 (.bool true) (congrArg Value.bool hb2) ?_
      refine cT ?_
      refine cSkip ?_
      refine qThen ?_
      refine cSeq ?_
      refine cBlk ?_
      refine cSeq ?_
      have hib : i < lb.length := by omega
      obtain ⟨b3, A4, B5, et6, fr7, rfl, hm8⟩ := ha.some (by omega)
      obtain ⟨x9, hx10⟩ : ∃ x, la[i]? = some x := ⟨_, List.getElem?_eq_getElem (by omega)⟩
      obtain ⟨b11, A12, B13, et14, fr15, rfl, hm16⟩ := hb.some (by omega)
      obtain ⟨x17, hx18⟩ : ∃ x, lb[i]? = some x := ⟨_, List.getElem?_eq_getElem (by omega)⟩
      refine noPan_of (cDraw (Has (L)) 9 [.q 0, .q 1, .q 2, .q 3, .q 4, .q 5, .q 6, .q 7, .q 8] hw mixed pdNo ?_)
      clear hw; intro w hw
      refine MP (r := [.q 2, .q 3, .q 4, .q 5, .q 6, .q 7, .q 8]) tyOK (hw.mem (i := 0) rfl) [0, 1] [0, 1, 5, 17, 18] (env' := [(0, .slice (some ⟨b3, A4.length, none⟩) la.length ca), (1, .slice (some ⟨b11, A12.length, none⟩) lb.length cb), (5, .int .i64 ((i : Nat) : Int)), (17, .slice (some ⟨b3, A4.length, none⟩) la.length ca), (18, .int .i64 ((i : Nat) : Int))]) ?_
      refine M_idx tyOK (hw.mem (i := 0) rfl) (i) (n := la.length) (b := b3) (off := A4.length) (rfl) (by omega) ?_
      refine MLR tyOK (hw.mem (i := 0) rfl) (b := b3) (off := A4.length + i * 20) (v := .agg ((encDid x9).toArray)) hm8 (ldP_rd (T := TY) (t := 73) (size := 20) (fun _ => rfl) hx10 (by as_aux_lemma => kernel_rfl)) ?_
      refine MP (r := [.q 6, .q 7, .q 8]) tyOK (hw.mem (i := 0) rfl) [4, 5] [0, 1, 5, 20, 21, 22] (env' := [(0, .slice (some ⟨b3, A4.length, none⟩) la.length ca), (1, .slice (some ⟨b11, A12.length, none⟩) lb.length cb), (5, .int .i64 ((i : Nat) : Int)), (20, .agg ((encDid x9).toArray)), (21, .slice (some ⟨b11, A12.length, none⟩) lb.length cb), (22, .int .i64 ((i : Nat) : Int))]) ?_
      refine M_idx tyOK (hw.mem (i := 0) rfl) (i) (n := lb.length) (b := b11) (off := A12.length) (rfl) (by omega) ?_
      refine MLR tyOK (hw.mem (i := 0) rfl) (b := b11) (off := A12.length + i * 20) (v := .agg ((encDid x17).toArray)) hm16 (ldP_rd (T := TY) (t := 73) (size := 20) (fun _ => rfl) hx18 (by as_aux_lemma => kernel_rfl)) ?_
      refine M_neq tyOK aggS2 (hw.mem (i := 0) rfl) (didB x9 x17) (hq := did_q _ _) ?_
      refine mEnd (qNo ?_)
      refine qThen ?_
      refine two (!(didB x9 x17)) (fun hb19 => ?_) (fun hb19 => ?_)
      ·
        refine setC 25 (.bool true) (congrArg Value.bool hb19) ?_
        refine cT ?_
        refine cSeq ?_
        refine cReg 1 ?_
        refine SP tyOK 0 1 0 [4] (env' := [(4, .bool false)]) ?_
        refine sEnd ?_
        refine qThen ?_
        refine cRet ?_
        refine qBlkR (qThenR (qThenR (qBlkR (qThenR ?_))))
        refine qRet (rs := [.tmp 4]) [.bool false] (.bool false) ⟨rT, trivial⟩ ?_
        exact ⟨by rw [leq_no hx10 hx18 he (by simpa using hb19)], hw⟩
      ·
        refine setC 25 (.bool false) (congrArg Value.bool hb19) ?_
        refine cF ?_
        refine cSkip ?_
        refine qBlk ?_
        refine qThen ?_
        refine cReg 3 ?_
        refine SP tyOK 1 2 0 [0, 1, 16] (env' := [(0, .slice (some ⟨b3, A4.length, none⟩) la.length ca), (1, .slice (some ⟨b11, A12.length, none⟩) lb.length cb), (16, .int .i64 (IntKind.i64.wrap (((i : Nat) : Int) + 1)))]) ?_
        refine setS 16 (.int .i64 ((i + 1 : Nat) : Int)) (nat_incM (n := la.length) (by omega) h1) ?_
        refine SP tyOK 0 1 2 [0, 1, 5] (env' := [(0, .slice (some ⟨b3, A4.length, none⟩) la.length ca), (1, .slice (some ⟨b11, A12.length, none⟩) lb.length cb), (5, .int .i64 ((i + 1 : Nat) : Int))]) ?_
        refine sEnd ?_
        refine qLoop (la.length - ((i + 1))) (by omega) [0, 1, 5] (env' := [(0, .slice (some ⟨b3, A4.length, none⟩) la.length ca), (1, .slice (some ⟨b11, A12.length, none⟩) lb.length cb), (5, .int .i64 ((i + 1 : Nat) : Int))]) ?_
        exact ⟨i + 1, rfl, by omega, leq_yes hx10 hx18 he (by simpa using hb19), rfl, hw⟩
    ·
      have hb2p : ¬ (((i : Nat) : Int) < ((la.length : Nat) : Int)) := of_decide_eq_false hb2
      refine setC 14 (.bool false) (congrArg Value.bool hb2) ?_
      refine cF ?_
      refine cExit (qThenX (qThenX (qBlkX ?_)))
      refine qThen ?_
      refine cSeq ?_
      refine cReg 1 ?_
      refine SP tyOK 0 1 0 [4] (env' := [(4, .bool true)]) ?_
      refine sEnd ?_
      refine qThen ?_
      refine cRet ?_
      refine qRet (rs := [.tmp 4]) [.bool true] (.bool true) ⟨rT, trivial⟩ ?_
      exact ⟨by rw [leq_end (by omega) hlen he], hw⟩

theorem harts_c {z w : World} {L : HL} {pa pb : Option Addr} {ca cb : Nat} {la lb : List Hart} (ha : Rd L encHart pa la) (hb : Rd L encHart pb lb) (h1 : la.length ≤ maxLen) (hw : Own z w [L]) :
    Ret Tryz.prog 41 #[.slice pa la.length ca, .slice pb lb.length cb] w (fun v w' => v = .bool (leq hartB la lb) ∧ Own z w' [L]) := by
  refine enterE Tryz.ntmps41 Tryz.func41 (args := [.slice pa la.length ca, .slice pb lb.length cb]) ?_
  refine cSeq ?_
  refine cReg 1 ?_
  refine SP tyOK 0 1 0 [0, 1] (env' := [(0, .slice pa la.length ca), (1, .slice pb lb.length cb)]) ?_
  refine sEnd ?_
  refine qThen ?_
  refine cSeq ?_
  refine cSeq ?_
  refine cReg 5 ?_
  refine SP tyOK 0 5 0 [0, 1, 10] (env' := [(0, .slice pa la.length ca), (1, .slice pb lb.length cb), (10, .bool (((la.length : Nat) : Int) != ((lb.length : Nat) : Int)))]) ?_
  refine sEnd ?_
  refine qThen ?_
  refine two (((la.length : Nat) : Int) != ((lb.length : Nat) : Int)) (fun hb1 => ?_) (fun hb1 => ?_)
  ·
    have hb1p : ((la.length : Nat) : Int) ≠ ((lb.length : Nat) : Int) := by simpa using hb1
    refine setC 10 (.bool true) (congrArg Value.bool hb1) ?_
    refine cT ?_
    refine cSeq ?_
    refine cReg 1 ?_
    refine SP tyOK 0 1 0 [4] (env' := [(4, .bool false)]) ?_
    refine sEnd ?_
    refine qThen ?_
    refine cRet ?_
    refine qThenR ?_
    refine qRet (rs := [.tmp 4]) [.bool false] (.bool false) ⟨rT, trivial⟩ ?_
    exact ⟨by rw [leq_len (fun e => by rw [e] at hb1p; exact hb1p rfl)], hw⟩
  ·
    have hb1p : ((la.length : Nat) : Int) = ((lb.length : Nat) : Int) := by simpa using hb1
    refine setC 10 (.bool false) (congrArg Value.bool hb1) ?_
    refine cF ?_
    refine cSkip ?_
    refine qThen ?_
    refine cSeq ?_
    refine cSeq ?_
    refine cReg 1 ?_
    refine SP tyOK 0 1 0 [0, 1, 5] (env' := [(0, .slice pa la.length ca), (1, .slice pb lb.length cb), (5, .int .i64 0)]) ?_
    refine sEnd ?_
    refine qThen ?_
    refine cBlk ?_
    have hlen : la.length = lb.length := by omega
    refine keepC [0, 1, 5] (env' := [(0, .slice pa la.length ca), (1, .slice pb lb.length cb), (5, .int .i64 0)]) ?_
    refine cLoop (fun n env w => ∃ (i : Nat), n = la.length - i ∧ (i ≤ la.length) ∧ (leq hartB la lb = leq hartB (la.drop i) (lb.drop i)) ∧ env = [(0, .slice pa la.length ca), (1, .slice pb lb.length cb), (5, .int .i64 ((i : Nat) : Int))] ∧ Own z w [L]) (la.length - (0)) ⟨0, rfl, Nat.zero_le _, rfl, rfl, hw⟩ ?_
    clear hw; rintro n env w ⟨i, rfl, hi, he, rfl, hw⟩
    refine cSeq ?_
    refine cSeq ?_
    refine cReg 4 ?_
    refine SP tyOK 0 4 0 [0, 1, 5, 14] (env' := [(0, .slice pa la.length ca), (1, .slice pb lb.length cb), (5, .int .i64 ((i : Nat) : Int)), (14, .bool (decide (((i : Nat) : Int) < ((la.length : Nat) : Int))))]) ?_
    refine sEnd ?_
    refine qThen ?_
    refine two (decide (((i : Nat) : Int) < ((la.length : Nat) : Int))) (fun hb2 => ?_) (fun hb2 => ?_)
    ·
      have hb2p : ((i : Nat) : Int) < ((la.length : Nat) : Int) := of_decide_eq_true hb2
      refine setC 14 (.bool true) (congrArg Value.bool hb2) ?_
      refine cT ?_
      refine cSkip ?_
      refine qThen ?_
      refine cSeq ?_
      refine cBlk ?_
      refine cSeq ?_
      have hib : i < lb.length := by omega
      obtain ⟨b3, A4, B5, et6, fr7, rfl, hm8⟩ := ha.some (by omega)
      obtain ⟨x9, hx10⟩ : ∃ x, la[i]? = some x := ⟨_, List.getElem?_eq_getElem (by omega)⟩
      obtain ⟨b11, A12, B13, et14, fr15, rfl, hm16⟩ := hb.some (by omega)
      obtain ⟨x17, hx18⟩ : ∃ x, lb[i]? = some x := ⟨_, List.getElem?_eq_getElem (by omega)⟩
      refine noPan_of (cDraw (Has (L)) 9 [.q 0, .q 1, .q 2, .q 3, .q 4, .q 5, .q 6, .q 7, .q 8] hw mixed pdNo ?_)
      clear hw; intro w hw
      refine MP (r := [.q 2, .q 3, .q 4, .q 5, .q 6, .q 7, .q 8]) tyOK (hw.mem (i := 0) rfl) [0, 1] [0, 1, 5, 17, 18] (env' := [(0, .slice (some ⟨b3, A4.length, none⟩) la.length ca), (1, .slice (some ⟨b11, A12.length, none⟩) lb.length cb), (5, .int .i64 ((i : Nat) : Int)), (17, .slice (some ⟨b3, A4.length, none⟩) la.length ca), (18, .int .i64 ((i : Nat) : Int))]) ?_
      refine M_idx tyOK (hw.mem (i := 0) rfl) (i) (n := la.length) (b := b3) (off := A4.length) (rfl) (by omega) ?_
      refine MLR tyOK (hw.mem (i := 0) rfl) (b := b3) (off := A4.length + i * 35) (v := .agg ((encHart x9).toArray)) hm8 (ldP_rd (T := TY) (t := 85) (size := 35) (fun _ => rfl) hx10 (by as_aux_lemma => kernel_rfl)) ?_
      refine MP (r := [.q 6, .q 7, .q 8]) tyOK (hw.mem (i := 0) rfl) [4, 5] [0, 1, 5, 20, 21, 22] (env' := [(0, .slice (some ⟨b3, A4.length, none⟩) la.length ca), (1, .slice (some ⟨b11, A12.length, none⟩) lb.length cb), (5, .int .i64 ((i : Nat) : Int)), (20, .agg ((encHart x9).toArray)), (21, .slice (some ⟨b11, A12.length, none⟩) lb.length cb), (22, .int .i64 ((i : Nat) : Int))]) ?_
      refine M_idx tyOK (hw.mem (i := 0) rfl) (i) (n := lb.length) (b := b11) (off := A12.length) (rfl) (by omega) ?_
      refine MLR tyOK (hw.mem (i := 0) rfl) (b := b11) (off := A12.length + i * 35) (v := .agg ((encHart x17).toArray)) hm16 (ldP_rd (T := TY) (t := 85) (size := 35) (fun _ => rfl) hx18 (by as_aux_lemma => kernel_rfl)) ?_
      refine M_neq tyOK aggS2 (hw.mem (i := 0) rfl) (hartB x9 x17) (hq := hart_q _ _) ?_
      refine mEnd (qNo ?_)
      refine qThen ?_
      refine two (!(hartB x9 x17)) (fun hb19 => ?_) (fun hb19 => ?_)
      ·
        refine setC 25 (.bool true) (congrArg Value.bool hb19) ?_
        refine cT ?_
        refine cSeq ?_
        refine cReg 1 ?_
        refine SP tyOK 0 1 0 [4] (env' := [(4, .bool false)]) ?_
        refine sEnd ?_
        refine qThen ?_
        refine cRet ?_
        refine qBlkR (qThenR (qThenR (qBlkR (qThenR ?_))))
        refine qRet (rs := [.tmp 4]) [.bool false] (.bool false) ⟨rT, trivial⟩ ?_
        exact ⟨by rw [leq_no hx10 hx18 he (by simpa using hb19)], hw⟩
      ·
        refine setC 25 (.bool false) (congrArg Value.bool hb19) ?_
        refine cF ?_
        refine cSkip ?_
        refine qBlk ?_
        refine qThen ?_
        refine cReg 3 ?_
        refine SP tyOK 1 2 0 [0, 1, 16] (env' := [(0, .slice (some ⟨b3, A4.length, none⟩) la.length ca), (1, .slice (some ⟨b11, A12.length, none⟩) lb.length cb), (16, .int .i64 (IntKind.i64.wrap (((i : Nat) : Int) + 1)))]) ?_
        refine setS 16 (.int .i64 ((i + 1 : Nat) : Int)) (nat_incM (n := la.length) (by omega) h1) ?_
        refine SP tyOK 0 1 2 [0, 1, 5] (env' := [(0, .slice (some ⟨b3, A4.length, none⟩) la.length ca), (1, .slice (some ⟨b11, A12.length, none⟩) lb.length cb), (5, .int .i64 ((i + 1 : Nat) : Int))]) ?_
        refine sEnd ?_
        refine qLoop (la.length - ((i + 1))) (by omega) [0, 1, 5] (env' := [(0, .slice (some ⟨b3, A4.length, none⟩) la.length ca), (1, .slice (some ⟨b11, A12.length, none⟩) lb.length cb), (5, .int .i64 ((i + 1 : Nat) : Int))]) ?_
        exact ⟨i + 1, rfl, by omega, leq_yes hx10 hx18 he (by simpa using hb19), rfl, hw⟩
    ·
      have hb2p : ¬ (((i : Nat) : Int) < ((la.length : Nat) : Int)) := of_decide_eq_false hb2
      refine setC 14 (.bool false) (congrArg Value.bool hb2) ?_
      refine cF ?_
      refine cExit (qThenX (qThenX (qBlkX ?_)))
      refine qThen ?_
      refine cSeq ?_
      refine cReg 1 ?_
      refine SP tyOK 0 1 0 [4] (env' := [(4, .bool true)]) ?_
      refine sEnd ?_
      refine qThen ?_
      refine cRet ?_
      refine qRet (rs := [.tmp 4]) [.bool true] (.bool true) ⟨rT, trivial⟩ ?_
      exact ⟨by rw [leq_end (by omega) hlen he], hw⟩

theorem alDid_c {z w : World} {L : HL} {pa pb : Option Addr} {ca cb : Nat} {la lb : List Did} (ha : Rd L encDid pa la) (hb : Rd L encDid pb lb) (h1 : la.length ≤ maxLen) (hw : Own z w [L]) :
    Ret Tryz.prog 37 #[.slice pa la.length ca, .slice pb lb.length cb] w (fun v w' => v = .bool (leq didB la lb) ∧ Own z w' [L]) := by
  refine enterE Tryz.ntmps37 Tryz.func37 (args := [.slice pa la.length ca, .slice pb lb.length cb]) ?_
  refine cSeq ?_
  refine cReg 1 ?_
  refine SP tyOK 0 1 0 [0, 1] (env' := [(0, .slice pa la.length ca), (1, .slice pb lb.length cb)]) ?_
  refine sEnd ?_
  refine qThen ?_
  refine cSeq ?_
  refine cReg 4 ?_
  refine SP tyOK 2 2 0 [5, 6] (env' := [(5, .slice pa la.length ca), (6, .slice pb lb.length cb)]) ?_
  refine SO ?_
  refine O_call (args := #[.slice pa la.length ca, .slice pb lb.length cb]) Tryz.call66 (eqDid_c (L := [L].flatten) (pa := pa) (ca := ca) (la := la) (pb := pb) (cb := cb) (lb := lb) (by simpa using ha) (by simpa using hb) h1 (hw.cut [0] 0 rfl)) ?_
  clear hw; rintro v w ⟨rfl, hw⟩
  replace hw : Own z w [L] := Own.open_ (ss := []) hw
  refine SP tyOK 0 1 3 [4] (env' := [(4, .bool (leq didB la lb))]) ?_
  refine sEnd ?_
  refine qThen ?_
  refine cRet ?_
  refine qRet (rs := [.tmp 4]) [.bool (leq didB la lb)] (.bool (leq didB la lb)) ⟨rT, trivial⟩ ?_
  exact ⟨rfl, hw⟩

theorem alHart_c {z w : World} {L : HL} {pa pb : Option Addr} {ca cb : Nat} {la lb : List Hart} (ha : Rd L encHart pa la) (hb : Rd L encHart pb lb) (h1 : la.length ≤ maxLen) (hw : Own z w [L]) :
    Ret Tryz.prog 38 #[.slice pa la.length ca, .slice pb lb.length cb] w (fun v w' => v = .bool (leq hartB la lb) ∧ Own z w' [L]) := by
  refine enterE Tryz.ntmps38 Tryz.func38 (args := [.slice pa la.length ca, .slice pb lb.length cb]) ?_
  refine cSeq ?_
  refine cReg 1 ?_
  refine SP tyOK 0 1 0 [0, 1] (env' := [(0, .slice pa la.length ca), (1, .slice pb lb.length cb)]) ?_
  refine sEnd ?_
  refine qThen ?_
  refine cSeq ?_
  refine cReg 4 ?_
  refine SP tyOK 2 2 0 [5, 6] (env' := [(5, .slice pa la.length ca), (6, .slice pb lb.length cb)]) ?_
  refine SO ?_
  refine O_call (args := #[.slice pa la.length ca, .slice pb lb.length cb]) Tryz.call67 (eqHart_c (L := [L].flatten) (pa := pa) (ca := ca) (la := la) (pb := pb) (cb := cb) (lb := lb) (by simpa using ha) (by simpa using hb) h1 (hw.cut [0] 0 rfl)) ?_
  clear hw; rintro v w ⟨rfl, hw⟩
  replace hw : Own z w [L] := Own.open_ (ss := []) hw
  refine SP tyOK 0 1 3 [4] (env' := [(4, .bool (leq hartB la lb))]) ?_
  refine sEnd ?_
  refine qThen ?_
  refine cRet ?_
  refine qRet (rs := [.tmp 4]) [.bool (leq hartB la lb)] (.bool (leq hartB la lb)) ⟨rT, trivial⟩ ?_
  exact ⟨rfl, hw⟩

theorem alByt_c {z w : World} {L : HL} {pa pb : Option Addr} {ca cb : Nat} {la lb : List UInt8} (ha : Rd L encB pa la) (hb : Rd L encB pb lb) (h1 : la.length ≤ maxLen) (hw : Own z w [L]) :
    Ret Tryz.prog 39 #[.slice pa la.length ca, .slice pb lb.length cb] w (fun v w' => v = .bool (leq bytB la lb) ∧ Own z w' [L]) := by
  refine enterE Tryz.ntmps39 Tryz.func39 (args := [.slice pa la.length ca, .slice pb lb.length cb]) ?_
  refine cSeq ?_
  refine cReg 1 ?_
  refine SP tyOK 0 1 0 [0, 1] (env' := [(0, .slice pa la.length ca), (1, .slice pb lb.length cb)]) ?_
  refine sEnd ?_
  refine qThen ?_
  refine cSeq ?_
  refine cReg 4 ?_
  refine SP tyOK 2 2 0 [5, 6] (env' := [(5, .slice pa la.length ca), (6, .slice pb lb.length cb)]) ?_
  refine SO ?_
  refine O_call (args := #[.slice pa la.length ca, .slice pb lb.length cb]) Tryz.call68 (eqByt_c (L := [L].flatten) (pa := pa) (ca := ca) (la := la) (pb := pb) (cb := cb) (lb := lb) (by simpa using ha) (by simpa using hb) h1 (hw.cut [0] 0 rfl)) ?_
  clear hw; rintro v w ⟨rfl, hw⟩
  replace hw : Own z w [L] := Own.open_ (ss := []) hw
  refine SP tyOK 0 1 3 [4] (env' := [(4, .bool (leq bytB la lb))]) ?_
  refine sEnd ?_
  refine qThen ?_
  refine cRet ?_
  refine qRet (rs := [.tmp 4]) [.bool (leq bytB la lb)] (.bool (leq bytB la lb)) ⟨rT, trivial⟩ ?_
  exact ⟨rfl, hw⟩

end Go.SL