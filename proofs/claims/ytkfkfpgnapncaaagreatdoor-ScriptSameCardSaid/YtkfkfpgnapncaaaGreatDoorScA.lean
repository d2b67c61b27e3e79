import Derived.Test.YtkfkfpgnapncaaaGreatDoorScP
import Derived.Test.YtkfkfpgnapncaaaGreatDoorEvAg
import Derived.Test.YtkfkfpgnapncaaaGreatDoorMD
set_option linter.unusedSimpArgs false
set_option linter.unusedVariables false
namespace Go.SL
open Go Go.RowKit Go.Proofs
open Go.EV (AggOK eqA spA)
set_option maxRecDepth 100000
set_option linter.unusedVariables false
set_option linter.unusedSimpArgs false


/-- The structs of which '==' is asked. -/
theorem aggS : AggOK Tryz.prog [39, 177, 1000020] := by
  refine ⟨fun t ht hc => ?_, fun t hc => ?_⟩
  · have : t = 39 ∨ t = 177 ∨ t = 1000020 := by simpa using hc
    rcases this with rfl | rfl | rfl
    · exact ⟨by kernel_rfl, by kernel_rfl⟩
    · exact ⟨by kernel_rfl, by kernel_rfl⟩
    · cases ht
  · have : t + 1000000 = 39 ∨ t + 1000000 = 177 ∨ t + 1000000 = 1000020 := by simpa using hc
    rcases this with e | e | e
    · omega
    · omega
    · obtain rfl : t = 20 := by omega
      exact ⟨_, Tryz.underlying20⟩
theorem eqC_q (x y : Choice) : eqA TY [39, 177, 1000020] 10 39 (.agg (encChoice x).toArray) (.agg (encChoice y).toArray) = some (decide (x = y)) := by
  obtain ⟨a, b, c⟩ := x
  obtain ⟨a', b', c'⟩ := y
  have e : eqA TY [39, 177, 1000020] 10 39 (.agg (encChoice ⟨a, b, c⟩).toArray) (.agg (encChoice ⟨a', b', c'⟩).toArray) = (match (a == a') with | true => (match (b == b') with | true => (match (c == c') with | true => some true | false => some false) | false => some false) | false => some false) := by
    kernel_rfl
  rw [e]
  by_cases h1 : a = a'
  · subst h1
    by_cases h2 : b = b'
    · subst h2
      by_cases h3 : c = c'
      · subst h3; simp
      · rw [show (c == c') = false by simpa using h3]; simp [h3]
    · rw [show (b == b') = false by simpa using h2]; simp [h2]
  · rw [show (a == a') = false by simpa using h1]; simp [h1]
theorem take_succ_eq {α : Type} {l m : List α} {i : Nat} {x : α} (h : l.take i = m.take i) (hx : l[i]? = some x) (hy : m[i]? = some x) : l.take (i + 1) = m.take (i + 1) := by
  rw [List.take_add_one, List.take_add_one, h, hx, hy]
theorem take_all_eq {α : Type} {l m : List α} {i : Nat} (h : l.take i = m.take i) (hi : l.length ≤ i) (hl : l.length = m.length) : l = m := by
  rwa [List.take_of_length_le hi, List.take_of_length_le (by omega)] at h
theorem ne_of_get {α : Type} {l m : List α} {i : Nat} {x y : α} (hx : l[i]? = some x) (hy : m[i]? = some y) (h : x ≠ y) : ¬ l = m := fun e => by
  rw [e, hy] at hx
  exact h (Option.some.inj hx).symm

theorem rsame_c {z w : World} {L : HL} {pa pb : Option Addr} {ca cb : Nat} {la lb : List Choice} (ha : Rd L encChoice pa la) (hb : Rd L encChoice pb lb) (h1 : la.length ≤ 4096) (h2 : lb.length ≤ 4096) (hw : Own z w [L]) :
    Ret Tryz.prog 19 #[.slice pa la.length ca, .slice pb lb.length cb] w (fun v w' => v = .bool (decide (la = lb)) ∧ Own z w' [L]) := by
  refine enterE Tryz.ntmps19 Tryz.func19 (args := [.slice pa la.length ca, .slice pb lb.length cb]) ?_
  refine cSeq ?_
  refine cReg 1 ?_
  refine SP tyOK 0 1 0 [0, 1] (env' := [(0, .slice pa la.length ca), (1, .slice pb lb.length cb)]) ?_
  refine sEnd ?_
  refine qThen ?_
  refine cSeq ?_
  refine cSeq ?_
  refine cReg 5 ?_
  refine SP tyOK 0 5 0 [0, 1, 10] (env' := [(0, .slice pa la.length ca), (1, .slice pb lb.length cb), (10, .bool (((la.length : Nat) : Int) != ((lb.length : Nat) : Int)))]) ?_
  refine sEnd ?_
  refine qThen ?_
  refine two (((la.length : Nat) : Int) != ((lb.length : Nat) : Int)) (fun hb1 => ?_) (fun hb1 => ?_)
  ·
    have hb1p : ((la.length : Nat) : Int) ≠ ((lb.length : Nat) : Int) := by simpa using hb1
    refine setC 10 (.bool true) (congrArg Value.bool hb1) ?_
    refine cT ?_
    refine cSeq ?_
    refine cReg 1 ?_
    refine SP tyOK 0 1 0 [4] (env' := [(4, .bool false)]) ?_
    refine sEnd ?_
    refine qThen ?_
    refine cRet ?_
    refine qThenR ?_
    refine qRet (rs := [.tmp 4]) [.bool false] (.bool false) ⟨rT, trivial⟩ ?_
    exact ⟨by rw [decide_eq_false (fun e => by rw [e] at hb1p; exact hb1p rfl)], hw⟩
  ·
    have hb1p : ((la.length : Nat) : Int) = ((lb.length : Nat) : Int) := by simpa using hb1
    refine setC 10 (.bool false) (congrArg Value.bool hb1) ?_
    refine cF ?_
    refine cSkip ?_
    refine qThen ?_
    refine cSeq ?_
    refine cSeq ?_
    refine cReg 1 ?_
    refine SP tyOK 0 1 0 [0, 1, 5] (env' := [(0, .slice pa la.length ca), (1, .slice pb lb.length cb), (5, .int .i64 0)]) ?_
    refine sEnd ?_
    refine qThen ?_
    refine cBlk ?_
    have hlen : la.length = lb.length := by omega
    refine keepC [0, 1, 5] (env' := [(0, .slice pa la.length ca), (1, .slice pb lb.length cb), (5, .int .i64 0)]) ?_
    refine cLoop (fun n env w => ∃ (i : Nat), n = la.length - i ∧ (i ≤ la.length) ∧ (la.take i = lb.take i) ∧ env = [(0, .slice pa la.length ca), (1, .slice pb lb.length cb), (5, .int .i64 ((i : Nat) : Int))] ∧ Own z w [L]) (la.length - (0)) ⟨0, rfl, Nat.zero_le _, rfl, rfl, hw⟩ ?_
    clear hw; rintro n env w ⟨i, rfl, hi, he, rfl, hw⟩
    refine cSeq ?_
    refine cSeq ?_
    refine cReg 4 ?_
    refine SP tyOK 0 4 0 [0, 1, 5, 14] (env' := [(0, .slice pa la.length ca), (1, .slice pb lb.length cb), (5, .int .i64 ((i : Nat) : Int)), (14, .bool (decide (((i : Nat) : Int) < ((la.length : Nat) : Int))))]) ?_
    refine sEnd ?_
    refine qThen ?_
    refine two (decide (((i : Nat) : Int) < ((la.length : Nat) : Int))) (fun hb2 => ?_) (fun hb2 => ?_)
    ·
      have hb2p : ((i : Nat) : Int) < ((la.length : Nat) : Int) := of_decide_eq_true hb2
      refine setC 14 (.bool true) (congrArg Value.bool hb2) ?_
      refine cT ?_
      refine cSkip ?_
      refine qThen ?_
      refine cSeq ?_
      refine cBlk ?_
      refine cSeq ?_
      have hib : i < lb.length := by omega
      obtain ⟨b3, A4, B5, et6, fr7, rfl, hm8⟩ := ha.some (by omega)
      obtain ⟨x9, hx10⟩ : ∃ x, la[i]? = some x := ⟨_, List.getElem?_eq_getElem (by omega)⟩
      obtain ⟨b11, A12, B13, et14, fr15, rfl, hm16⟩ := hb.some (by omega)
      obtain ⟨x17, hx18⟩ : ∃ x, lb[i]? = some x := ⟨_, List.getElem?_eq_getElem (by omega)⟩
      refine noPan_of (cDraw (Has L) 9 [.q 0, .q 1, .q 2, .q 3, .q 4, .q 5, .q 6, .q 7, .q 8] hw mixed pdNo ?_)
      clear hw; intro w hw
      refine MP (r := [.q 2, .q 3, .q 4, .q 5, .q 6, .q 7, .q 8]) tyOK (hw.mem (i := 0) rfl) [0, 1] [0, 1, 5, 17, 18] (env' := [(0, .slice (some ⟨b3, A4.length, none⟩) la.length ca), (1, .slice (some ⟨b11, A12.length, none⟩) lb.length cb), (5, .int .i64 ((i : Nat) : Int)), (17, .slice (some ⟨b3, A4.length, none⟩) la.length ca), (18, .int .i64 ((i : Nat) : Int))]) ?_
      refine M_idx tyOK (hw.mem (i := 0) rfl) (i) (n := la.length) (b := b3) (off := A4.length) (rfl) (by omega) ?_
      refine MLR tyOK (hw.mem (i := 0) rfl) (b := b3) (off := A4.length + i * 3) (v := .agg ((encChoice x9).toArray)) hm8 (ldP_rd (T := TY) (t := 39) (size := 3) (fun _ => rfl) hx10 (by as_aux_lemma => kernel_rfl)) ?_
      refine MP (r := [.q 6, .q 7, .q 8]) tyOK (hw.mem (i := 0) rfl) [4, 5] [0, 1, 5, 20, 21, 22] (env' := [(0, .slice (some ⟨b3, A4.length, none⟩) la.length ca), (1, .slice (some ⟨b11, A12.length, none⟩) lb.length cb), (5, .int .i64 ((i : Nat) : Int)), (20, .agg ((encChoice x9).toArray)), (21, .slice (some ⟨b11, A12.length, none⟩) lb.length cb), (22, .int .i64 ((i : Nat) : Int))]) ?_
      refine M_idx tyOK (hw.mem (i := 0) rfl) (i) (n := lb.length) (b := b11) (off := A12.length) (rfl) (by omega) ?_
      refine MLR tyOK (hw.mem (i := 0) rfl) (b := b11) (off := A12.length + i * 3) (v := .agg ((encChoice x17).toArray)) hm16 (ldP_rd (T := TY) (t := 39) (size := 3) (fun _ => rfl) hx18 (by as_aux_lemma => kernel_rfl)) ?_
      refine M_neq tyOK aggS (hw.mem (i := 0) rfl) (decide (x9 = x17)) (hq := eqC_q _ _) ?_
      refine mEnd (qNo ?_)
      refine qThen ?_
      refine two (!(decide (x9 = x17))) (fun hb19 => ?_) (fun hb19 => ?_)
      ·
        refine setC 25 (.bool true) (congrArg Value.bool hb19) ?_
        refine cT ?_
        refine cSeq ?_
        refine cReg 1 ?_
        refine SP tyOK 0 1 0 [4] (env' := [(4, .bool false)]) ?_
        refine sEnd ?_
        refine qThen ?_
        refine cRet ?_
        refine qBlkR (qThenR (qThenR (qBlkR (qThenR ?_))))
        refine qRet (rs := [.tmp 4]) [.bool false] (.bool false) ⟨rT, trivial⟩ ?_
        exact ⟨by rw [decide_eq_false (ne_of_get hx10 hx18 (by simpa using hb19))], hw⟩
      ·
        refine setC 25 (.bool false) (congrArg Value.bool hb19) ?_
        refine cF ?_
        refine cSkip ?_
        refine qBlk ?_
        refine qThen ?_
        refine cReg 3 ?_
        refine SP tyOK 1 2 0 [0, 1, 16] (env' := [(0, .slice (some ⟨b3, A4.length, none⟩) la.length ca), (1, .slice (some ⟨b11, A12.length, none⟩) lb.length cb), (16, .int .i64 (IntKind.i64.wrap (((i : Nat) : Int) + 1)))]) ?_
        refine setS 16 (.int .i64 ((i + 1 : Nat) : Int)) (nat_inc (by omega)) ?_
        refine SP tyOK 0 1 2 [0, 1, 5] (env' := [(0, .slice (some ⟨b3, A4.length, none⟩) la.length ca), (1, .slice (some ⟨b11, A12.length, none⟩) lb.length cb), (5, .int .i64 ((i + 1 : Nat) : Int))]) ?_
        refine sEnd ?_
        refine qLoop (la.length - ((i + 1))) (by omega) [0, 1, 5] (env' := [(0, .slice (some ⟨b3, A4.length, none⟩) la.length ca), (1, .slice (some ⟨b11, A12.length, none⟩) lb.length cb), (5, .int .i64 ((i + 1 : Nat) : Int))]) ?_
        exact ⟨i + 1, rfl, by omega, take_succ_eq he hx10 (by rw [show x9 = x17 by simpa using hb19]; exact hx18), rfl, hw⟩
    ·
      have hb2p : ¬ (((i : Nat) : Int) < ((la.length : Nat) : Int)) := of_decide_eq_false hb2
      refine setC 14 (.bool false) (congrArg Value.bool hb2) ?_
      refine cF ?_
      refine cExit (qThenX (qThenX (qBlkX ?_)))
      refine qThen ?_
      refine cSeq ?_
      refine cReg 1 ?_
      refine SP tyOK 0 1 0 [4] (env' := [(4, .bool true)]) ?_
      refine sEnd ?_
      refine qThen ?_
      refine cRet ?_
      refine qRet (rs := [.tmp 4]) [.bool true] (.bool true) ⟨rT, trivial⟩ ?_
      exact ⟨by rw [(take_all_eq he (by omega) hlen : la = lb)]; simp, hw⟩

end Go.SL