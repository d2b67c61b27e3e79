import Derived.Test.YtkfkfpgnapncaaaGreatDoorEvSt
set_option linter.unusedSimpArgs false
set_option linter.unusedVariables false
namespace Go.SL
open Go Go.RowKit Go.Proofs
open Go.EV (AggOK eqA spA)
set_option maxRecDepth 100000
set_option linter.unusedVariables false
set_option linter.unusedSimpArgs false


theorem min_two (k : Nat) : Go.EV.mmV false (.int .i64 2) (.int .i64 ((k : Nat) : Int)) = some (.int .i64 ((min 2 k : Nat) : Int)) := by
  unfold Go.EV.mmV
  by_cases h : k < 2
  · rw [Nat.min_eq_right (by omega)]
    have : decide (((k : Nat) : Int) < 2) = true := by simp; omega
    simp [this]
  · rw [Nat.min_eq_left (by omega)]
    have : decide (((k : Nat) : Int) < 2) = false := by simp; omega
    simp [this]
theorem nat_plus {a b : Nat} (h : a + b ≤ 8192) : Value.int .i64 (IntKind.i64.wrap (((a : Nat) : Int) + ((b : Nat) : Int))) = .int .i64 ((a + b : Nat) : Int) := by
  rw [wrap_i64_of (by omega) (by omega)]
  congr 1
theorem chunk_arg {p : Option Addr} {m e : Nat} (he : 0 < e) : Value.slice (if 2 * m + e = 2 * m then p else p.map (·.add (2 * m * 1))) (2 * m + e - 2 * m) (2 * m + e - 2 * m) = .slice (p.map (·.add (2 * m))) e e := by
  rw [if_neg (by omega), Nat.mul_one, show 2 * m + e - 2 * m = e by omega]

theorem chunk_c {z w : World} {L : HL} {p : Option Addr} {n c : Nat} (hw : Own z w [L]) :
    Ret Tryz.prog 65 #[.slice p n c, .int .i64 2] w (fun v w' => ∃ b1 b2, v = .func (.func 96) #[] #[.pointer (some ⟨b1, 0, none⟩), .pointer (some ⟨b2, 0, none⟩)] ∧ Own z w' [[(b1, .cells #[.slice p n c] 35 (0, 0))], [(b2, .cells #[.int .i64 2] 3 (0, 0))], L]) := by
  refine enterE Tryz.ntmps65 Tryz.func65 (args := [.slice p n c, .int .i64 2]) ?_
  refine cSeq ?_
  refine cReg 3 ?_
  refine SO ?_
  refine O_box hw (v := .slice p n c) ?_
  clear hw; intro b1 w hw
  replace hw : Own z w [L, [(b1, .cells #[.slice p n c] 35 (0, 0))]] := hw
  refine SO ?_
  refine O_box hw (v := .int .i64 2) ?_
  clear hw; intro b2 w hw
  replace hw : Own z w [L, [(b1, .cells #[.slice p n c] 35 (0, 0))], [(b2, .cells #[.int .i64 2] 3 (0, 0))]] := hw
  refine SP tyOK 0 1 2 [2, 3] (env' := [(2, .pointer (some ⟨b1, 0, none⟩)), (3, .pointer (some ⟨b2, 0, none⟩))]) ?_
  refine sEnd ?_
  refine qThen ?_
  refine cSeq ?_
  refine cSeq ?_
  refine cReg 2 ?_
  refine SO ?_
  refine O_load tyOK hw 2 (b := b2) (off := 0) (v := .int .i64 2) ?_
  refine SP tyOK 0 1 1 [2, 3, 6] (env' := [(2, .pointer (some ⟨b1, 0, none⟩)), (3, .pointer (some ⟨b2, 0, none⟩)), (6, .bool false)]) ?_
  refine sEnd ?_
  refine qThen ?_
  refine cF ?_
  refine cSkip ?_
  refine qThen ?_
  refine cSeq ?_
  refine cReg 2 ?_
  refine SP tyOK 0 2 0 [4] (env' := [(4, .func (.func 96) #[] #[.pointer (some ⟨b1, 0, none⟩), .pointer (some ⟨b2, 0, none⟩)])]) ?_
  refine sEnd ?_
  refine qThen ?_
  refine cRet ?_
  refine qRet (rs := [.tmp 4]) [.func (.func 96) #[] #[.pointer (some ⟨b1, 0, none⟩), .pointer (some ⟨b2, 0, none⟩)]] (.func (.func 96) #[] #[.pointer (some ⟨b1, 0, none⟩), .pointer (some ⟨b2, 0, none⟩)]) ⟨rT, trivial⟩ ?_
  exact ⟨b1, b2, rfl, ((hw.pick [1, 2, 0] rfl).take 3)⟩

theorem chunk1_c {z w : World} {X s0 : HL} {lo b1 b2 : Nat} {p : Option Addr} {kn c : Nat} {St : Nat → HL → Prop} (hn : kn ≤ 4000) (hc : kn ≤ c)
    (hy : ∀ m, 2 * m < kn → ∀ s, St m s → ∀ Y w, (∀ x ∈ X, x ∈ Y) → Own z w [s, Y] → Yld Tryz.prog lo #[.slice (p.map (·.add (2 * m))) (min 2 (kn - 2 * m)) (min 2 (kn - 2 * m))] w (fun v w' => v = .bool true ∧ ∃ s', St (m + 1) s' ∧ Own z w' [s', Y]))
    (h0 : St 0 s0) (hw : Own z w [s0, [(b1, .cells #[.slice p kn c] 35 (0, 0))], [(b2, .cells #[.int .i64 2] 3 (0, 0))], X]) :
    Ret Tryz.prog 96 #[.func (.yield lo) #[] #[], .pointer (some ⟨b1, 0, none⟩), .pointer (some ⟨b2, 0, none⟩)] w (fun _ w' => ∃ s', St ((kn + 1) / 2) s' ∧ Own z w' [s', [(b1, .cells #[.slice p kn c] 35 (0, 0))], [(b2, .cells #[.int .i64 2] 3 (0, 0))], X]) := by
  refine enterE Tryz.ntmps96 Tryz.func96 (args := [.func (.yield lo) #[] #[], .pointer (some ⟨b1, 0, none⟩), .pointer (some ⟨b2, 0, none⟩)]) ?_
  refine cSeq ?_
  refine cReg 1 ?_
  refine SP tyOK 0 1 0 [0, 1, 2, 4] (env' := [(0, .func (.yield lo) #[] #[]), (1, .pointer (some ⟨b1, 0, none⟩)), (2, .pointer (some ⟨b2, 0, none⟩)), (4, .int .i64 0)]) ?_
  refine sEnd ?_
  refine qThen ?_
  refine cBlk ?_
  refine keepC [0, 1, 2, 4] (env' := [(0, .func (.yield lo) #[] #[]), (1, .pointer (some ⟨b1, 0, none⟩)), (2, .pointer (some ⟨b2, 0, none⟩)), (4, .int .i64 0)]) ?_
  refine cLoop (fun n env w => ∃ (m : Nat), ∃ (s : HL), n = kn - 2 * m ∧ (2 * m ≤ kn + 1) ∧ (St m s) ∧ env = [(0, .func (.yield lo) #[] #[]), (1, .pointer (some ⟨b1, 0, none⟩)), (2, .pointer (some ⟨b2, 0, none⟩)), (4, .int .i64 ((2 * m : Nat) : Int))] ∧ Own z w [s, [(b1, .cells #[.slice p kn c] 35 (0, 0))], [(b2, .cells #[.int .i64 2] 3 (0, 0))], X]) (kn - 2 * (0)) ⟨0, s0, rfl, by omega, h0, rfl, hw⟩ ?_
  clear hw; rintro n env w ⟨m, s, rfl, hm, hs, rfl, hw⟩
  refine cSeq ?_
  refine cSeq ?_
  refine cReg 4 ?_
  refine SP tyOK 3 1 0 [0, 1, 2, 4, 6] (env' := [(0, .func (.yield lo) #[] #[]), (1, .pointer (some ⟨b1, 0, none⟩)), (2, .pointer (some ⟨b2, 0, none⟩)), (4, .int .i64 ((2 * m : Nat) : Int)), (6, .int .i64 ((2 * m : Nat) : Int))]) ?_
  refine SO ?_
  refine O_load tyOK hw 1 (b := b1) (off := 0) (v := .slice p kn c) ?_
  refine SP tyOK 0 2 2 [0, 1, 2, 4, 9] (env' := [(0, .func (.yield lo) #[] #[]), (1, .pointer (some ⟨b1, 0, none⟩)), (2, .pointer (some ⟨b2, 0, none⟩)), (4, .int .i64 ((2 * m : Nat) : Int)), (9, .bool (decide (((2 * m : Nat) : Int) < ((kn : Nat) : Int))))]) ?_
  refine sEnd ?_
  refine qThen ?_
  refine two (decide (((2 * m : Nat) : Int) < ((kn : Nat) : Int))) (fun hb1 => ?_) (fun hb1 => ?_)
  ·
    have hb1p : ((2 * m : Nat) : Int) < ((kn : Nat) : Int) := of_decide_eq_true hb1
    refine setC 9 (.bool true) (congrArg Value.bool hb1) ?_
    refine cT ?_
    refine cSkip ?_
    refine qThen ?_
    refine cSeq ?_
    refine cBlk ?_
    refine cSeq ?_
    refine noPan_of (cDraw (Has [(b2, .cells #[.int .i64 2] 3 (0, 0)), (b1, .cells #[.slice p kn c] 35 (0, 0))]) 6 [.q 0, .q 1, .q 2, .e 3, .q 4, .e 5, .e 6] hw mixed pdNo ?_)
    clear hw; intro w hw
    refine ML tyOK (has_cons (hw.blk 2 rfl) (has_cons (hw.blk 1 rfl) has_nil)) (b := b2) (off := 0) (v := .int .i64 2) mem0 ?_
    refine ML tyOK (has_cons (hw.blk 2 rfl) (has_cons (hw.blk 1 rfl) has_nil)) (b := b1) (off := 0) (v := .slice p kn c) (memS mem0) ?_
    refine MP (r := [.e 3, .q 4, .e 5, .e 6]) tyOK (has_cons (hw.blk 2 rfl) (has_cons (hw.blk 1 rfl) has_nil)) [2] [0, 1, 2, 4, 13, 14, 15] (env' := [(0, .func (.yield lo) #[] #[]), (1, .pointer (some ⟨b1, 0, none⟩)), (2, .pointer (some ⟨b2, 0, none⟩)), (4, .int .i64 ((2 * m : Nat) : Int)), (13, .int .i64 2), (14, .slice p kn c), (15, .int .i64 ((2 * m : Nat) : Int))]) ?_
    refine MO ?_
    refine O_slice tyOK (2 * m) kn c (n := kn) (p := p) rfl rfl rfl (by omega) hc (Nat.le_refl _) ?_
    refine ⟨fun _ => (has_cons (hw.blk 2 rfl) (has_cons (hw.blk 1 rfl) has_nil)), ?_⟩
    refine MP (r := [.e 5, .e 6]) tyOK (has_cons (hw.blk 2 rfl) (has_cons (hw.blk 1 rfl) has_nil)) [4] [0, 1, 2, 4, 13, 17] (env' := [(0, .func (.yield lo) #[] #[]), (1, .pointer (some ⟨b1, 0, none⟩)), (2, .pointer (some ⟨b2, 0, none⟩)), (4, .int .i64 ((2 * m : Nat) : Int)), (13, .int .i64 2), (17, .int .i64 (((kn - 2 * m) : Nat) : Int))]) ?_
    refine MO ?_
    refine O_min (a := 2) (b := ((kn - 2 * m : Nat) : Int)) (kk := .i64) (v := .int .i64 ((min 2 (kn - 2 * m) : Nat) : Int)) (min_two _) ?_
    refine ⟨fun _ => (has_cons (hw.blk 2 rfl) (has_cons (hw.blk 1 rfl) has_nil)), ?_⟩
    refine MO ?_
    refine O_pure tyOK (.int .i64 ((min 2 (kn - 2 * m) : Nat) : Int)) ?_
    refine ⟨fun h => absurd h (by decide), ?_⟩
    refine mEnd (qNo ?_)
    refine qThen ?_
    refine cSeq ?_
    refine cReg 12 ?_
    refine SP tyOK 11 1 0 [0, 1, 2, 4, 5, 19] (env' := [(0, .func (.yield lo) #[] #[]), (1, .pointer (some ⟨b1, 0, none⟩)), (2, .pointer (some ⟨b2, 0, none⟩)), (4, .int .i64 ((2 * m : Nat) : Int)), (5, .int .i64 ((min 2 (kn - 2 * m) : Nat) : Int)), (19, .func (.yield lo) #[] #[])]) ?_
    refine SO ?_
    refine O_load tyOK hw 1 (b := b1) (off := 0) (v := .slice p kn c) ?_
    refine SP tyOK 6 4 2 [0, 1, 2, 4, 5, 19, 20, 21, 24] (env' := [(0, .func (.yield lo) #[] #[]), (1, .pointer (some ⟨b1, 0, none⟩)), (2, .pointer (some ⟨b2, 0, none⟩)), (4, .int .i64 ((2 * m : Nat) : Int)), (5, .int .i64 ((min 2 (kn - 2 * m) : Nat) : Int)), (19, .func (.yield lo) #[] #[]), (20, .slice p kn c), (21, .int .i64 ((2 * m : Nat) : Int)), (24, .int .i64 (IntKind.i64.wrap (((2 * m : Nat) : Int) + ((min 2 (kn - 2 * m) : Nat) : Int))))]) ?_
    refine setS 24 (.int .i64 ((2 * m + min 2 (kn - 2 * m) : Nat) : Int)) (nat_plus (by omega)) ?_
    refine SP tyOK 3 3 6 [0, 1, 2, 4, 19, 20, 21, 24, 27] (env' := [(0, .func (.yield lo) #[] #[]), (1, .pointer (some ⟨b1, 0, none⟩)), (2, .pointer (some ⟨b2, 0, none⟩)), (4, .int .i64 ((2 * m : Nat) : Int)), (19, .func (.yield lo) #[] #[]), (20, .slice p kn c), (21, .int .i64 ((2 * m : Nat) : Int)), (24, .int .i64 ((2 * m + min 2 (kn - 2 * m) : Nat) : Int)), (27, .int .i64 (IntKind.i64.wrap (((2 * m : Nat) : Int) + ((min 2 (kn - 2 * m) : Nat) : Int))))]) ?_
    refine setS 27 (.int .i64 ((2 * m + min 2 (kn - 2 * m) : Nat) : Int)) (nat_plus (by omega)) ?_
    refine SO ?_
    refine O_slice tyOK (2 * m) (2 * m + min 2 (kn - 2 * m)) (2 * m + min 2 (kn - 2 * m)) (n := kn) (c := c) (p := p) rfl rfl rfl (by omega) (Nat.le_refl _) (by omega) ?_
    refine setS 28 (.slice (p.map (·.add (2 * m))) (min 2 (kn - 2 * m)) (min 2 (kn - 2 * m))) (chunk_arg (by omega)) ?_
    refine SO ?_
    refine O_yield (args := [.slice (p.map (·.add (2 * m))) (min 2 (kn - 2 * m)) (min 2 (kn - 2 * m))]) (hy m (by omega) s hs ([[(b1, .cells #[.slice p kn c] 35 (0, 0))], [(b2, .cells #[.int .i64 2] 3 (0, 0))], X] : List HL).flatten w (by simp; intros; simp [*]) (hw.cut [0, 1, 2, 3] 1 rfl)) ?_
    clear hw; rintro v w ⟨rfl, s2, hs3, hw⟩
    replace hw : Own z w [s2, [(b1, .cells #[.slice p kn c] 35 (0, 0))], [(b2, .cells #[.int .i64 2] 3 (0, 0))], X] := Own.open_ (ss := [s2]) hw
    refine SP tyOK 0 1 11 [0, 1, 2, 4, 30] (env' := [(0, .func (.yield lo) #[] #[]), (1, .pointer (some ⟨b1, 0, none⟩)), (2, .pointer (some ⟨b2, 0, none⟩)), (4, .int .i64 ((2 * m : Nat) : Int)), (30, .bool false)]) ?_
    refine sEnd ?_
    refine qThen ?_
    refine cF ?_
    refine cSkip ?_
    refine qBlk ?_
    refine qThen ?_
    refine cReg 4 ?_
    refine SP tyOK 3 1 0 [0, 1, 2, 10] (env' := [(0, .func (.yield lo) #[] #[]), (1, .pointer (some ⟨b1, 0, none⟩)), (2, .pointer (some ⟨b2, 0, none⟩)), (10, .int .i64 ((2 * m : Nat) : Int))]) ?_
    refine SO ?_
    refine O_load tyOK hw 2 (b := b2) (off := 0) (v := .int .i64 2) ?_
    refine SP tyOK 1 1 2 [0, 1, 2, 12] (env' := [(0, .func (.yield lo) #[] #[]), (1, .pointer (some ⟨b1, 0, none⟩)), (2, .pointer (some ⟨b2, 0, none⟩)), (12, .int .i64 (IntKind.i64.wrap (((2 * m : Nat) : Int) + 2)))]) ?_
    refine setS 12 (.int .i64 ((2 * (m + 1) : Nat) : Int)) (nat_add2 (by omega)) ?_
    refine SP tyOK 0 1 3 [0, 1, 2, 4] (env' := [(0, .func (.yield lo) #[] #[]), (1, .pointer (some ⟨b1, 0, none⟩)), (2, .pointer (some ⟨b2, 0, none⟩)), (4, .int .i64 ((2 * (m + 1) : Nat) : Int))]) ?_
    refine sEnd ?_
    refine qLoop (kn - 2 * ((m + 1))) (by omega) [0, 1, 2, 4] (env' := [(0, .func (.yield lo) #[] #[]), (1, .pointer (some ⟨b1, 0, none⟩)), (2, .pointer (some ⟨b2, 0, none⟩)), (4, .int .i64 ((2 * (m + 1) : Nat) : Int))]) ?_
    exact ⟨m + 1, s2, rfl, by omega, hs3, rfl, hw⟩
  ·
    have hb1p : ¬ (((2 * m : Nat) : Int) < ((kn : Nat) : Int)) := of_decide_eq_false hb1
    refine setC 9 (.bool false) (congrArg Value.bool hb1) ?_
    refine cF ?_
    refine cExit (qThenX (qThenX (qBlkX ?_)))
    refine qEnd (rs := []) [] (.tuple #[]) trivial ?_
    obtain rfl : m = (kn + 1) / 2 := by omega
    exact ⟨s, hs, hw⟩

end Go.SL