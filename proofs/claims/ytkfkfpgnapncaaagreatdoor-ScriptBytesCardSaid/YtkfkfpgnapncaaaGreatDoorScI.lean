import Derived.Test.YtkfkfpgnapncaaaGreatDoorScH
set_option linter.unusedSimpArgs false
set_option linter.unusedVariables false
namespace Go.SL
open Go Go.RowKit Go.Proofs
open Go.EV (AggOK eqA spA)
set_option maxRecDepth 100000
set_option linter.unusedVariables false
set_option linter.unusedSimpArgs false
set_option maxHeartbeats 4000000


theorem O_bs0 {ro : Option Nat} {P : Program} {T : TT} {ops : Array Oper} {Q : Exit → Act → World → Prop} {w z : World} {ss : List HL} {nt : Nat} {ds : List Deferred} {env : Env} {Kp : Env → World → Prop} {k : Nat} (hT : TOK P T) (hO : Own z w ss) {o : Oper} {d : Nat} {t el : TypeId} {e g : TE} (h : ∀ b w', Own z w' (ss ++ [[(b, .cells #[] el (0, 0))]]) → Kp ((d, .slice (some ⟨b, 0, none⟩) 0 0) :: env) w')
    (ho : ops[k]? = some o := by rfl) (hop : o.op = .buildSlice t 0 #[] := by rfl) (hd : o.dst = some d := by rfl) (hlt : Nat.blt d nt = true := by rfl) (hw : wantE ops nt env o = some true := by as_aux_lemma => kernel_rfl)
    (ht : T t = some e := by rfl) (hde : e.d = .slice el := by rfl) (hg : T el = some g := by rfl) : OE ro P ops Q k nt ds env w Kp := by
  refine O_val ho hd hlt hw (fun a hf => ?_) (h w.heap.size _ (hO.alloc _))
  obtain ⟨dst, op, type, pos, after, guard⟩ := o
  simp only at hop
  subst hop
  have hu := run_und hT ht w
  rw [hde] at hu
  have hs := run_size hT hg w
  simp only [execOp, Instr.buildSlice, Sem.run_bind, hu, Result.andThen, hs, Nat.zero_mul]
  simp [newRow, Instr.fill, show Array.range 0 = #[] from rfl]

theorem rd_pre {α : Type} {enc : α → List Value} {L : HL} {b et : Nat} {fr : Nat × Nat} {l m : List α} {sp : List Value} (h : (b, Obj.cells (rows enc (l ++ m) sp) et fr) ∈ L) : Rd L enc (some ⟨b, 0, none⟩) l := by
  refine Rd.at_ (A := []) (B := m.flatMap enc ++ sp) (et := et) (fr := fr) ?_
  have e : ([] ++ (l.flatMap enc ++ (m.flatMap enc ++ sp))).toArray = rows enc (l ++ m) sp := by simp [rows]
  rw [e]; exact h
theorem slice_all (a : Addr) (n c : Nat) : Value.slice (if c = 0 then some a else (some a).map (·.add (0 * 1))) (n - 0) (c - 0) = .slice (some a) n c := by
  have e : a.add 0 = a := by simp [Addr.add]
  simp [e]

theorem bytes_c {z w : World} {L : HL} {p p1 : Option Addr} {c c1 : Nat} {l : List UInt8} {l1 : List Choice} {et : TypeId} (hl : Rd L encB p l) (hl1 : Rd L encChoice p1 l1) (hc : l.length ≤ c) (h0 : (0, Obj.cells spA et (0, 0)) ∈ L) (hw : Own z w [L]) :
    Ret Tryz.prog 4 #[.slice p l.length c, .slice p1 l1.length c1] w (fun v w' => v = .bool true ∧ Own z w' [L]) := by
  refine enterE Tryz.ntmps4 Tryz.func4 (args := [.slice p l.length c, .slice p1 l1.length c1]) ?_
  refine cSeq ?_
  refine cReg 1 ?_
  refine SP tyOK 0 1 0 [0, 1] (env' := [(0, .slice p l.length c), (1, .slice p1 l1.length c1)]) ?_
  refine sEnd ?_
  refine qThen ?_
  refine cSeq ?_
  refine cSeq ?_
  refine cReg 8 ?_
  refine SP tyOK 4 4 0 [0, 1, 15] (env' := [(0, .slice p l.length c), (1, .slice p1 l1.length c1), (15, .bool (decide (((l.length : Nat) : Int) > 3000)))]) ?_
  refine two (decide (((l.length : Nat) : Int) > 3000)) (fun hb1 => ?_) (fun hb1 => ?_)
  ·
    have hb1p : ((l.length : Nat) : Int) > 3000 := of_decide_eq_true hb1
    refine setS 15 (.bool true) (congrArg Value.bool hb1) ?_
    refine SP tyOK 0 4 4 [0, 1, 19] (env' := [(0, .slice p l.length c), (1, .slice p1 l1.length c1), (19, .bool true)]) ?_
    refine sEnd ?_
    refine qThen ?_
    refine cT ?_
    refine cSeq ?_
    refine cReg 2 ?_
    refine SO ?_
    refine O_call (args := #[]) Tryz.call15 (works_c (L := ([L] : List HL).flatten) (et := et) (by simp [h0]) (hw.cut [0] 0 rfl)) ?_
    clear hw; rintro v w ⟨rfl, hw⟩
    replace hw : Own z w [L] := Own.open_ (ss := []) hw
    refine SP tyOK 0 1 1 [4] (env' := [(4, .bool true)]) ?_
    refine sEnd ?_
    refine qThen ?_
    refine cRet ?_
    refine qThenR ?_
    refine qRet (rs := [.tmp 4]) [.bool true] (.bool true) ⟨rT, trivial⟩ ?_
    exact ⟨by rfl, hw⟩
  ·
    have hb1p : ¬ (((l.length : Nat) : Int) > 3000) := of_decide_eq_false hb1
    refine setS 15 (.bool false) (congrArg Value.bool hb1) ?_
    refine SP tyOK 0 4 4 [0, 1, 19] (env' := [(0, .slice p l.length c), (1, .slice p1 l1.length c1), (19, .bool (decide (((l1.length : Nat) : Int) > 1000)))]) ?_
    refine sEnd ?_
    refine qThen ?_
    refine two (decide (((l1.length : Nat) : Int) > 1000)) (fun hb2 => ?_) (fun hb2 => ?_)
    ·
      have hb2p : ((l1.length : Nat) : Int) > 1000 := of_decide_eq_true hb2
      refine setC 19 (.bool true) (congrArg Value.bool hb2) ?_
      refine cT ?_
      refine cSeq ?_
      refine cReg 2 ?_
      refine SO ?_
      refine O_call (args := #[]) Tryz.call15 (works_c (L := ([L] : List HL).flatten) (et := et) (by simp [h0]) (hw.cut [0] 0 rfl)) ?_
      clear hw; rintro v w ⟨rfl, hw⟩
      replace hw : Own z w [L] := Own.open_ (ss := []) hw
      refine SP tyOK 0 1 1 [4] (env' := [(4, .bool true)]) ?_
      refine sEnd ?_
      refine qThen ?_
      refine cRet ?_
      refine qThenR ?_
      refine qRet (rs := [.tmp 4]) [.bool true] (.bool true) ⟨rT, trivial⟩ ?_
      exact ⟨by rfl, hw⟩
    ·
      have hb2p : ¬ (((l1.length : Nat) : Int) > 1000) := of_decide_eq_false hb2
      refine setC 19 (.bool false) (congrArg Value.bool hb2) ?_
      refine cF ?_
      refine cSkip ?_
      refine qThen ?_
      refine cSeq ?_
      refine cReg 9 ?_
      refine SO ?_
      refine O_bs0 tyOK hw ?_
      clear hw; intro b3 w hw
      replace hw : Own z w [L, [(b3, .cells #[] 5 (0, 0))]] := hw
      refine SP tyOK 7 1 1 [0, 1, 21, 22] (env' := [(0, .slice p l.length c), (1, .slice p1 l1.length c1), (21, .slice (some ⟨b3, 0, none⟩) 0 0), (22, .slice p l.length c)]) ?_
      refine SO ?_
      refine O_append tyOK hw 1 (enc := encB) (size := 1) (l := []) (ys := l) (p := some ⟨b3, 0, none⟩) (c := 0) (fun _ => rfl) (by intro x; simp [encB, Value.oneCell']) (.row b3 [] 0 [] (Nat.le_refl _) (by simp)) rfl (fun w hw => Src.rd (c := c) (fun _ => rfl) hl (hw.mem (i := 0) rfl)) (g := te5) (by show (0 + l.length) * 1 ≤ _; omega) ?_
      clear hw; intro p4 c5 s6 w hs7 hw
      rw [List.nil_append] at hs7
      rw [List.nil_append]
      replace hw : Own z w [L, s6] := hw
      refine SO ?_
      refine O_buildSlice tyOK hw (el := 5) (#[.int .u8 77]) ?_
      clear hw; intro b8 w hw
      replace hw : Own z w [L, s6, [(b8, .cells #[.int .u8 77] 5 (0, 0))]] := hw
      refine SO ?_
      refine O_append tyOK hw 1 (enc := encB) (size := 1) (l := l) (ys := [(77 : UInt8)]) (n := l.length) (fun _ => rfl) (by intro x; simp [encB, Value.oneCell']) hs7 rfl (fun w hw => Src.all (c := 1) (enc := encB) (et := 5) (fr := (0, 0)) (l := [(77 : UInt8)]) (fun _ => rfl) (hw.blk 2 rfl)) (g := te5) (by show (l.length + 1) * 1 ≤ _; omega) ?_
      clear hw; intro p9 c10 s11 w hs12 hw
      obtain ⟨b13, sp14, rfl, rfl, hc15, hp16⟩ := hs12.at (by simp)
      rw [show (l ++ [(77 : UInt8)]).length = l.length + 1 by simp] at hc15 ⊢
      replace hw : Own z w [L, [(b13, .cells (rows encB (l ++ [(77 : UInt8)]) sp14) 5 (0, 0))], [(b8, .cells #[.int .u8 77] 5 (0, 0))]] := hw
      refine SP tyOK 2 2 5 [0, 1, 25, 27] (env' := [(0, .slice p l.length c), (1, .slice p1 l1.length c1), (25, .slice (some ⟨b13, 0, none⟩) (l.length + 1) c10), (27, .int .i64 ((l.length : Nat) : Int))]) ?_
      refine SO ?_
      refine O_slice tyOK 0 (l.length) c10 (n := (l.length + 1)) (c := c10) (p := some ⟨b13, 0, none⟩) rfl rfl rfl (by omega) (by omega) (Nat.le_refl _) ?_
      refine setS 28 (.slice (some ⟨b13, 0, none⟩) l.length c10) (slice_all _ _ _) ?_
      refine SP tyOK 0 1 8 [0, 1, 5] (env' := [(0, .slice p l.length c), (1, .slice p1 l1.length c1), (5, .slice (some ⟨b13, 0, none⟩) l.length c10)]) ?_
      refine sEnd ?_
      refine qThen ?_
      refine cSeq ?_
      refine cReg 10 ?_
      refine SO ?_
      refine O_bs0 tyOK hw ?_
      clear hw; intro b17 w hw
      replace hw : Own z w [L, [(b13, .cells (rows encB (l ++ [(77 : UInt8)]) sp14) 5 (0, 0))], [(b8, .cells #[.int .u8 77] 5 (0, 0))], [(b17, .cells #[] 39 (0, 0))]] := hw
      refine SP tyOK 8 1 1 [0, 1, 5, 29, 30] (env' := [(0, .slice p l.length c), (1, .slice p1 l1.length c1), (5, .slice (some ⟨b13, 0, none⟩) l.length c10), (29, .slice (some ⟨b17, 0, none⟩) 0 0), (30, .slice p1 l1.length c1)]) ?_
      refine SO ?_
      refine O_append tyOK hw 3 (enc := encChoice) (size := 3) (l := []) (ys := l1) (p := some ⟨b17, 0, none⟩) (c := 0) (fun _ => rfl) (by intro x; simp [encChoice, Value.oneCell']) (.row b17 [] 0 [] (Nat.le_refl _) (by simp)) rfl (fun w hw => Src.rd (c := c1) (fun _ => rfl) hl1 (hw.mem (i := 0) rfl)) (g := te39) (by show (0 + l1.length) * 24 ≤ _; omega) ?_
      clear hw; intro p18 c19 s20 w hs21 hw
      rw [List.nil_append] at hs21
      rw [List.nil_append]
      replace hw : Own z w [L, [(b13, .cells (rows encB (l ++ [(77 : UInt8)]) sp14) 5 (0, 0))], [(b8, .cells #[.int .u8 77] 5 (0, 0))], s20] := hw
      refine SP tyOK 6 1 3 [0, 1, 5, 31, 32] (env' := [(0, .slice p l.length c), (1, .slice p1 l1.length c1), (5, .slice (some ⟨b13, 0, none⟩) l.length c10), (31, .slice p18 l1.length c19), (32, .agg ((encChoice (⟨77, 0, 0⟩)).toArray))]) ?_
      refine SO ?_
      refine O_buildSlice tyOK hw (el := 39) ((encChoice (⟨77, 0, 0⟩)).toArray) ?_
      clear hw; intro b22 w hw
      replace hw : Own z w [L, [(b13, .cells (rows encB (l ++ [(77 : UInt8)]) sp14) 5 (0, 0))], [(b8, .cells #[.int .u8 77] 5 (0, 0))], s20, [(b22, .cells (encChoice (⟨77, 0, 0⟩)).toArray 39 (0, 0))]] := hw
      refine SO ?_
      refine O_append tyOK hw 3 (enc := encChoice) (size := 3) (l := l1) (ys := [(⟨77, 0, 0⟩ : Choice)]) (n := l1.length) (fun _ => rfl) (by intro x; simp [encChoice, Value.oneCell']) hs21 rfl (fun w hw => Src.all (c := 1) (enc := encChoice) (et := 39) (fr := (0, 0)) (l := [(⟨77, 0, 0⟩ : Choice)]) (fun _ => rfl) (hw.blk 4 rfl)) (g := te39) (by show (l1.length + 1) * 24 ≤ _; omega) ?_
      clear hw; intro p23 c24 s25 w hs26 hw
      obtain ⟨b27, sp28, rfl, rfl, hc29, hp30⟩ := hs26.at (by simp)
      rw [show (l1 ++ [(⟨77, 0, 0⟩ : Choice)]).length = l1.length + 1 by simp] at hc29 ⊢
      replace hw : Own z w [L, [(b13, .cells (rows encB (l ++ [(77 : UInt8)]) sp14) 5 (0, 0))], [(b8, .cells #[.int .u8 77] 5 (0, 0))], [(b27, .cells (rows encChoice (l1 ++ [(⟨77, 0, 0⟩ : Choice)]) sp28) 39 (0, 0))], [(b22, .cells (encChoice (⟨77, 0, 0⟩)).toArray 39 (0, 0))]] := hw
      refine SP tyOK 2 2 6 [0, 1, 5, 34, 36] (env' := [(0, .slice p l.length c), (1, .slice p1 l1.length c1), (5, .slice (some ⟨b13, 0, none⟩) l.length c10), (34, .slice (some ⟨b27, 0, none⟩) (l1.length + 1) c24), (36, .int .i64 ((l1.length : Nat) : Int))]) ?_
      refine SO ?_
      refine O_slice tyOK 0 (l1.length) c24 (n := (l1.length + 1)) (c := c24) (p := some ⟨b27, 0, none⟩) rfl rfl rfl (by omega) (by omega) (Nat.le_refl _) ?_
      refine setS 37 (.slice (some ⟨b27, 0, none⟩) l1.length c24) (slice_all _ _ _) ?_
      refine SP tyOK 0 1 9 [0, 1, 5, 6] (env' := [(0, .slice p l.length c), (1, .slice p1 l1.length c1), (5, .slice (some ⟨b13, 0, none⟩) l.length c10), (6, .slice (some ⟨b27, 0, none⟩) l1.length c24)]) ?_
      refine sEnd ?_
      refine qThen ?_
      refine cSeq ?_
      refine cReg 3 ?_
      refine SP tyOK 2 1 0 [0, 1, 5, 6, 38] (env' := [(0, .slice p l.length c), (1, .slice p1 l1.length c1), (5, .slice (some ⟨b13, 0, none⟩) l.length c10), (6, .slice (some ⟨b27, 0, none⟩) l1.length c24), (38, .slice (some ⟨b13, 0, none⟩) l.length c10)]) ?_
      refine SO ?_
      refine O_call (args := #[.slice (some ⟨b13, 0, none⟩) l.length c10]) Tryz.call16 (choices_c (L := ([L, [(b13, .cells (rows encB (l ++ [(77 : UInt8)]) sp14) 5 (0, 0))], [(b8, .cells #[.int .u8 77] 5 (0, 0))], [(b27, .cells (rows encChoice (l1 ++ [(⟨77, 0, 0⟩ : Choice)]) sp28) 39 (0, 0))], [(b22, .cells (encChoice (⟨77, 0, 0⟩)).toArray 39 (0, 0))]] : List HL).flatten) (p := some ⟨b13, 0, none⟩) (c := c10) (l := l) (by first | omega | (simp only [chs_len]; omega) | (have q := rawR_le l1; omega)) (show l.length ≤ c10 by omega) (rd_pre (L := ([L, [(b13, .cells (rows encB (l ++ [(77 : UInt8)]) sp14) 5 (0, 0))], [(b8, .cells #[.int .u8 77] 5 (0, 0))], [(b27, .cells (rows encChoice (l1 ++ [(⟨77, 0, 0⟩ : Choice)]) sp28) 39 (0, 0))], [(b22, .cells (encChoice (⟨77, 0, 0⟩)).toArray 39 (0, 0))]] : List HL).flatten) (show (b13, Obj.cells (rows encB (l ++ [(77 : UInt8)]) sp14) 5 (0, 0)) ∈ ([L, [(b13, .cells (rows encB (l ++ [(77 : UInt8)]) sp14) 5 (0, 0))], [(b8, .cells #[.int .u8 77] 5 (0, 0))], [(b27, .cells (rows encChoice (l1 ++ [(⟨77, 0, 0⟩ : Choice)]) sp28) 39 (0, 0))], [(b22, .cells (encChoice (⟨77, 0, 0⟩)).toArray 39 (0, 0))]] : List HL).flatten from by simp)) (hw.cut [0, 1, 2, 3, 4] 0 rfl)) ?_
      clear hw; rintro v w ⟨p31, c32, s33, rfl, hs34, hw⟩
      replace hw : Own z w [s33, L, [(b13, .cells (rows encB (l ++ [(77 : UInt8)]) sp14) 5 (0, 0))], [(b8, .cells #[.int .u8 77] 5 (0, 0))], [(b27, .cells (rows encChoice (l1 ++ [(⟨77, 0, 0⟩ : Choice)]) sp28) 39 (0, 0))], [(b22, .cells (encChoice (⟨77, 0, 0⟩)).toArray 39 (0, 0))]] := Own.open_ (ss := [s33]) hw
      refine SP tyOK 0 1 2 [0, 1, 5, 6, 7] (env' := [(0, .slice p l.length c), (1, .slice p1 l1.length c1), (5, .slice (some ⟨b13, 0, none⟩) l.length c10), (6, .slice (some ⟨b27, 0, none⟩) l1.length c24), (7, .slice p31 ((chs l).length) c32)]) ?_
      refine sEnd ?_
      refine qThen ?_
      refine cSeq ?_
      refine cReg 7 ?_
      refine SP tyOK 6 1 0 [0, 1, 5, 6, 7, 41] (env' := [(0, .slice p l.length c), (1, .slice p1 l1.length c1), (5, .slice (some ⟨b13, 0, none⟩) l.length c10), (6, .slice (some ⟨b27, 0, none⟩) l1.length c24), (7, .slice p31 ((chs l).length) c32), (41, .slice (some ⟨b27, 0, none⟩) l1.length c24)]) ?_
      refine SO ?_
      refine O_call (args := #[.slice (some ⟨b27, 0, none⟩) l1.length c24]) Tryz.call17 (raw_c (L := ([s33, L, [(b13, .cells (rows encB (l ++ [(77 : UInt8)]) sp14) 5 (0, 0))], [(b8, .cells #[.int .u8 77] 5 (0, 0))], [(b27, .cells (rows encChoice (l1 ++ [(⟨77, 0, 0⟩ : Choice)]) sp28) 39 (0, 0))], [(b22, .cells (encChoice (⟨77, 0, 0⟩)).toArray 39 (0, 0))]] : List HL).flatten) (p := some ⟨b27, 0, none⟩) (c := c24) (l := l1) (rd_pre (L := ([s33, L, [(b13, .cells (rows encB (l ++ [(77 : UInt8)]) sp14) 5 (0, 0))], [(b8, .cells #[.int .u8 77] 5 (0, 0))], [(b27, .cells (rows encChoice (l1 ++ [(⟨77, 0, 0⟩ : Choice)]) sp28) 39 (0, 0))], [(b22, .cells (encChoice (⟨77, 0, 0⟩)).toArray 39 (0, 0))]] : List HL).flatten) (show (b27, Obj.cells (rows encChoice (l1 ++ [(⟨77, 0, 0⟩ : Choice)]) sp28) 39 (0, 0)) ∈ ([s33, L, [(b13, .cells (rows encB (l ++ [(77 : UInt8)]) sp14) 5 (0, 0))], [(b8, .cells #[.int .u8 77] 5 (0, 0))], [(b27, .cells (rows encChoice (l1 ++ [(⟨77, 0, 0⟩ : Choice)]) sp28) 39 (0, 0))], [(b22, .cells (encChoice (⟨77, 0, 0⟩)).toArray 39 (0, 0))]] : List HL).flatten from by simp)) (by first | omega | (simp only [chs_len]; omega) | (have q := rawR_le l1; omega)) (hw.cut [0, 1, 2, 3, 4, 5] 0 rfl)) ?_
      clear hw; rintro v w ⟨p35, c36, s37, rfl, hs38, hw⟩
      replace hw : Own z w [s37, s33, L, [(b13, .cells (rows encB (l ++ [(77 : UInt8)]) sp14) 5 (0, 0))], [(b8, .cells #[.int .u8 77] 5 (0, 0))], [(b27, .cells (rows encChoice (l1 ++ [(⟨77, 0, 0⟩ : Choice)]) sp28) 39 (0, 0))], [(b22, .cells (encChoice (⟨77, 0, 0⟩)).toArray 39 (0, 0))]] := Own.open_ (ss := [s37]) hw
      refine SP tyOK 0 5 2 [0, 1, 5, 6, 7, 8, 9] (env' := [(0, .slice p l.length c), (1, .slice p1 l1.length c1), (5, .slice (some ⟨b13, 0, none⟩) l.length c10), (6, .slice (some ⟨b27, 0, none⟩) l1.length c24), (7, .slice p31 ((chs l).length) c32), (8, .slice p35 ((rawR l1).length) c36), (9, .int .i64 (errR l1))]) ?_
      refine sEnd ?_
      refine qThen ?_
      refine cSeq ?_
      refine cReg 7 ?_
      refine SP tyOK 6 1 0 [0, 1, 5, 6, 7, 8, 9, 46] (env' := [(0, .slice p l.length c), (1, .slice p1 l1.length c1), (5, .slice (some ⟨b13, 0, none⟩) l.length c10), (6, .slice (some ⟨b27, 0, none⟩) l1.length c24), (7, .slice p31 ((chs l).length) c32), (8, .slice p35 ((rawR l1).length) c36), (9, .int .i64 (errR l1)), (46, .slice p1 l1.length c1)]) ?_
      refine SO ?_
      refine O_call (args := #[.slice p1 l1.length c1]) Tryz.call18 (rraw_c (L := ([s37, s33, L, [(b13, .cells (rows encB (l ++ [(77 : UInt8)]) sp14) 5 (0, 0))], [(b8, .cells #[.int .u8 77] 5 (0, 0))], [(b27, .cells (rows encChoice (l1 ++ [(⟨77, 0, 0⟩ : Choice)]) sp28) 39 (0, 0))], [(b22, .cells (encChoice (⟨77, 0, 0⟩)).toArray 39 (0, 0))]] : List HL).flatten) (p := p1) (c := c1) (l := l1) (Rd.mono hl1 (fun x h => by simp [h])) (by first | omega | (simp only [chs_len]; omega) | (have q := rawR_le l1; omega)) (hw.cut [0, 1, 2, 3, 4, 5, 6] 0 rfl)) ?_
      clear hw; rintro v w ⟨p39, c40, s41, rfl, hs42, hw⟩
      replace hw : Own z w [s41, s37, s33, L, [(b13, .cells (rows encB (l ++ [(77 : UInt8)]) sp14) 5 (0, 0))], [(b8, .cells #[.int .u8 77] 5 (0, 0))], [(b27, .cells (rows encChoice (l1 ++ [(⟨77, 0, 0⟩ : Choice)]) sp28) 39 (0, 0))], [(b22, .cells (encChoice (⟨77, 0, 0⟩)).toArray 39 (0, 0))]] := Own.open_ (ss := [s41]) hw
      refine SP tyOK 0 5 2 [0, 1, 5, 6, 7, 8, 9, 10, 11] (env' := [(0, .slice p l.length c), (1, .slice p1 l1.length c1), (5, .slice (some ⟨b13, 0, none⟩) l.length c10), (6, .slice (some ⟨b27, 0, none⟩) l1.length c24), (7, .slice p31 ((chs l).length) c32), (8, .slice p35 ((rawR l1).length) c36), (9, .int .i64 (errR l1)), (10, .slice p39 ((rawR l1).length) c40), (11, .int .i64 (errR l1))]) ?_
      refine sEnd ?_
      refine qThen ?_
      refine cSeq ?_
      have hk43 : (decide ((chs l) = (chs l))) = true := by simp
      have hk44 : ((bstr (rawR l1)).toList == (bstr (rawR l1)).toList) = true := bstr_self _
      have hk45 : ((errR l1) == (errR l1)) = true := by simp
      have hk46 : ((bstr l).toList == (bstr l).toList) = true := bstr_self _
      have hk47 : (decide (l1 = l1)) = true := by simp
      refine cReg 58 ?_
      refine SP tyOK 56 2 0 [0, 1, 5, 6, 8, 9, 10, 11, 50, 51] (env' := [(0, .slice p l.length c), (1, .slice p1 l1.length c1), (5, .slice (some ⟨b13, 0, none⟩) l.length c10), (6, .slice (some ⟨b27, 0, none⟩) l1.length c24), (8, .slice p35 ((rawR l1).length) c36), (9, .int .i64 (errR l1)), (10, .slice p39 ((rawR l1).length) c40), (11, .int .i64 (errR l1)), (50, .slice p31 ((chs l).length) c32), (51, .slice p l.length c)]) ?_
      refine SO ?_
      refine O_call (args := #[.slice p l.length c]) Tryz.call20 (rchoices_c (L := ([s41, s37, s33, L, [(b13, .cells (rows encB (l ++ [(77 : UInt8)]) sp14) 5 (0, 0))], [(b8, .cells #[.int .u8 77] 5 (0, 0))], [(b27, .cells (rows encChoice (l1 ++ [(⟨77, 0, 0⟩ : Choice)]) sp28) 39 (0, 0))], [(b22, .cells (encChoice (⟨77, 0, 0⟩)).toArray 39 (0, 0))]] : List HL).flatten) (p := p) (c := c) (l := l) (Rd.mono hl (fun x h => by simp [h])) (by first | omega | (simp only [chs_len]; omega) | (have q := rawR_le l1; omega)) (hw.cut [0, 1, 2, 3, 4, 5, 6, 7] 0 rfl)) ?_
      clear hw; rintro v w ⟨p48, c49, s50, rfl, hs51, hw⟩
      replace hw : Own z w [s50, s41, s37, s33, L, [(b13, .cells (rows encB (l ++ [(77 : UInt8)]) sp14) 5 (0, 0))], [(b8, .cells #[.int .u8 77] 5 (0, 0))], [(b27, .cells (rows encChoice (l1 ++ [(⟨77, 0, 0⟩ : Choice)]) sp28) 39 (0, 0))], [(b22, .cells (encChoice (⟨77, 0, 0⟩)).toArray 39 (0, 0))]] := Own.open_ (ss := [s50]) hw
      refine SO ?_
      refine O_call (args := #[.slice p31 ((chs l).length) c32, .slice p48 ((chs l).length) c49]) Tryz.call19 (rsame_c (L := ([s50, s41, s37, s33, L, [(b13, .cells (rows encB (l ++ [(77 : UInt8)]) sp14) 5 (0, 0))], [(b8, .cells #[.int .u8 77] 5 (0, 0))], [(b27, .cells (rows encChoice (l1 ++ [(⟨77, 0, 0⟩ : Choice)]) sp28) 39 (0, 0))], [(b22, .cells (encChoice (⟨77, 0, 0⟩)).toArray 39 (0, 0))]] : List HL).flatten) (pa := p31) (ca := c32) (la := (chs l)) (pb := p48) (cb := c49) (lb := (chs l)) (Rd.mono (Rd.of_sl hs34) (fun x h => by simp [h])) (Rd.mono (Rd.of_sl hs51) (fun x h => by simp [h])) (by first | omega | (simp only [chs_len]; omega) | (have q := rawR_le l1; omega)) (by first | omega | (simp only [chs_len]; omega) | (have q := rawR_le l1; omega)) (hw.cut [0, 1, 2, 3, 4, 5, 6, 7, 8] 0 rfl)) ?_
      clear hw; rintro v w ⟨rfl, hw⟩
      replace hw : Own z w [s50, s41, s37, s33, L, [(b13, .cells (rows encB (l ++ [(77 : UInt8)]) sp14) 5 (0, 0))], [(b8, .cells #[.int .u8 77] 5 (0, 0))], [(b27, .cells (rows encChoice (l1 ++ [(⟨77, 0, 0⟩ : Choice)]) sp28) 39 (0, 0))], [(b22, .cells (encChoice (⟨77, 0, 0⟩)).toArray 39 (0, 0))]] := Own.open_ (ss := []) hw
      refine SP tyOK 53 1 4 [0, 1, 5, 6, 8, 9, 10, 11, 54] (env' := [(0, .slice p l.length c), (1, .slice p1 l1.length c1), (5, .slice (some ⟨b13, 0, none⟩) l.length c10), (6, .slice (some ⟨b27, 0, none⟩) l1.length c24), (8, .slice p35 ((rawR l1).length) c36), (9, .int .i64 (errR l1)), (10, .slice p39 ((rawR l1).length) c40), (11, .int .i64 (errR l1)), (54, .bool (decide ((chs l) = (chs l))))]) ?_
      refine setS 54 (.bool true) (congrArg Value.bool hk43) ?_
      refine SP tyOK 52 1 5 [0, 1, 5, 6, 9, 10, 11, 54, 55] (env' := [(0, .slice p l.length c), (1, .slice p1 l1.length c1), (5, .slice (some ⟨b13, 0, none⟩) l.length c10), (6, .slice (some ⟨b27, 0, none⟩) l1.length c24), (9, .int .i64 (errR l1)), (10, .slice p39 ((rawR l1).length) c40), (11, .int .i64 (errR l1)), (54, .bool true), (55, .slice p35 ((rawR l1).length) c36)]) ?_
      refine SO ?_
      refine O_toStr tyOK (rawR l1) (Src.rd (c := c36) (fun _ => rfl) (Rd.of_sl hs38) (hw.mem (i := 2) rfl)) ?_
      refine SP tyOK 50 1 7 [0, 1, 5, 6, 9, 11, 54, 56, 57] (env' := [(0, .slice p l.length c), (1, .slice p1 l1.length c1), (5, .slice (some ⟨b13, 0, none⟩) l.length c10), (6, .slice (some ⟨b27, 0, none⟩) l1.length c24), (9, .int .i64 (errR l1)), (11, .int .i64 (errR l1)), (54, .bool true), (56, .string (bstr (rawR l1))), (57, .slice p39 ((rawR l1).length) c40)]) ?_
      refine SO ?_
      refine O_toStr tyOK (rawR l1) (Src.rd (c := c40) (fun _ => rfl) (Rd.of_sl hs42) (hw.mem (i := 1) rfl)) ?_
      refine SO ?_
      refine O_strEq (s1 := bstr (rawR l1)) (s2 := bstr (rawR l1)) ?_
      refine SP tyOK 46 2 10 [0, 1, 5, 6, 9, 11, 61] (env' := [(0, .slice p l.length c), (1, .slice p1 l1.length c1), (5, .slice (some ⟨b13, 0, none⟩) l.length c10), (6, .slice (some ⟨b27, 0, none⟩) l1.length c24), (9, .int .i64 (errR l1)), (11, .int .i64 (errR l1)), (61, .bool ((bstr (rawR l1)).toList == (bstr (rawR l1)).toList))]) ?_
      refine setS 61 (.bool true) (congrArg Value.bool hk44) ?_
      refine SP tyOK 45 1 12 [0, 1, 5, 6, 11, 61, 62] (env' := [(0, .slice p l.length c), (1, .slice p1 l1.length c1), (5, .slice (some ⟨b13, 0, none⟩) l.length c10), (6, .slice (some ⟨b27, 0, none⟩) l1.length c24), (11, .int .i64 (errR l1)), (61, .bool true), (62, .int .i64 (errR l1))]) ?_
      refine SO ?_
      refine O_call (args := #[.int .i64 (errR l1)]) Tryz.call21 (num_c (n := errR l1) (hw.cut [0, 1, 2, 3, 4, 5, 6, 7, 8] 0 rfl) ) ?_
      clear hw; rintro v w ⟨rfl, hw⟩
      replace hw : Own z w [s50, s41, s37, s33, L, [(b13, .cells (rows encB (l ++ [(77 : UInt8)]) sp14) 5 (0, 0))], [(b8, .cells #[.int .u8 77] 5 (0, 0))], [(b27, .cells (rows encChoice (l1 ++ [(⟨77, 0, 0⟩ : Choice)]) sp28) 39 (0, 0))], [(b22, .cells (encChoice (⟨77, 0, 0⟩)).toArray 39 (0, 0))]] := Own.open_ (ss := []) hw
      refine SP tyOK 40 4 14 [0, 1, 5, 6, 67] (env' := [(0, .slice p l.length c), (1, .slice p1 l1.length c1), (5, .slice (some ⟨b13, 0, none⟩) l.length c10), (6, .slice (some ⟨b27, 0, none⟩) l1.length c24), (67, .bool ((errR l1) == (errR l1)))]) ?_
      refine setS 67 (.bool true) (congrArg Value.bool hk45) ?_
      refine SP tyOK 39 1 18 [0, 1, 5, 6, 67, 68] (env' := [(0, .slice p l.length c), (1, .slice p1 l1.length c1), (5, .slice (some ⟨b13, 0, none⟩) l.length c10), (6, .slice (some ⟨b27, 0, none⟩) l1.length c24), (67, .bool true), (68, .slice (some ⟨b13, 0, none⟩) l.length c10)]) ?_
      refine SO ?_
      refine O_toStr tyOK l (Src.rd (c := c10) (fun _ => rfl) (rd_pre (L := [(b13, .cells (rows encB (l ++ [(77 : UInt8)]) sp14) 5 (0, 0))]) (show (b13, Obj.cells (rows encB (l ++ [(77 : UInt8)]) sp14) 5 (0, 0)) ∈ [(b13, .cells (rows encB (l ++ [(77 : UInt8)]) sp14) 5 (0, 0))] from by simp)) (hw.mem (i := 5) rfl)) ?_
      refine SP tyOK 37 1 20 [0, 1, 5, 6, 67, 69, 70] (env' := [(0, .slice p l.length c), (1, .slice p1 l1.length c1), (5, .slice (some ⟨b13, 0, none⟩) l.length c10), (6, .slice (some ⟨b27, 0, none⟩) l1.length c24), (67, .bool true), (69, .string (bstr l)), (70, .slice p l.length c)]) ?_
      refine SO ?_
      refine O_toStr tyOK l (Src.rd (c := c) (fun _ => rfl) hl (hw.mem (i := 4) rfl)) ?_
      refine SO ?_
      refine O_strEq (s1 := bstr l) (s2 := bstr l) ?_
      refine SP tyOK 33 2 23 [0, 1, 5, 6, 74] (env' := [(0, .slice p l.length c), (1, .slice p1 l1.length c1), (5, .slice (some ⟨b13, 0, none⟩) l.length c10), (6, .slice (some ⟨b27, 0, none⟩) l1.length c24), (74, .bool ((bstr l).toList == (bstr l).toList))]) ?_
      refine setS 74 (.bool true) (congrArg Value.bool hk46) ?_
      refine SP tyOK 29 4 25 [0, 1, 6, 74, 75, 78] (env' := [(0, .slice p l.length c), (1, .slice p1 l1.length c1), (6, .slice (some ⟨b27, 0, none⟩) l1.length c24), (74, .bool true), (75, .slice (some ⟨b13, 0, none⟩) l.length c10), (78, .int .i64 (IntKind.i64.wrap (((l.length : Nat) : Int) + 1)))]) ?_
      refine setS 78 (.int .i64 ((l.length + 1 : Nat) : Int)) (nat_inc (by omega)) ?_
      refine SO ?_
      refine O_slice tyOK 0 (l.length + 1) c10 (n := l.length) (c := c10) (p := some ⟨b13, 0, none⟩) rfl rfl rfl (by omega) (by omega) (Nat.le_refl _) ?_
      refine setS 79 (.slice (some ⟨b13, 0, none⟩) (l.length + 1) c10) (slice_all _ _ _) ?_
      refine SP tyOK 26 2 30 [1, 6, 74, 79, 81] (env' := [(1, .slice p1 l1.length c1), (6, .slice (some ⟨b27, 0, none⟩) l1.length c24), (74, .bool true), (79, .slice (some ⟨b13, 0, none⟩) (l.length + 1) c10), (81, .int .i64 ((l.length : Nat) : Int))]) ?_
      refine SO ?_
      refine O_idx0 tyOK (l.length) (n := l.length + 1) rfl (by omega) ?_
      refine SO ?_
      refine O_load tyOK hw 5 (b := b13) (off := l.length * 1) (v := .int .u8 77) (hv := ldP_rows (T := TY) (t := 5) (enc := encB) (size := 1) (off := 0) (i := l.length) (x := (77 : UInt8)) (fun _ => rfl) (by simp) (by as_aux_lemma => kernel_rfl)) ?_
      refine SP tyOK 19 5 34 [1, 6, 86, 87, 88] (env' := [(1, .slice p1 l1.length c1), (6, .slice (some ⟨b27, 0, none⟩) l1.length c24), (86, .bool true), (87, .slice (some ⟨b27, 0, none⟩) l1.length c24), (88, .slice p1 l1.length c1)]) ?_
      refine SO ?_
      refine O_call (args := #[.slice (some ⟨b27, 0, none⟩) l1.length c24, .slice p1 l1.length c1]) Tryz.call19 (rsame_c (L := ([s50, s41, s37, s33, L, [(b13, .cells (rows encB (l ++ [(77 : UInt8)]) sp14) 5 (0, 0))], [(b8, .cells #[.int .u8 77] 5 (0, 0))], [(b27, .cells (rows encChoice (l1 ++ [(⟨77, 0, 0⟩ : Choice)]) sp28) 39 (0, 0))], [(b22, .cells (encChoice (⟨77, 0, 0⟩)).toArray 39 (0, 0))]] : List HL).flatten) (pa := some ⟨b27, 0, none⟩) (ca := c24) (la := l1) (pb := p1) (cb := c1) (lb := l1) (rd_pre (L := ([s50, s41, s37, s33, L, [(b13, .cells (rows encB (l ++ [(77 : UInt8)]) sp14) 5 (0, 0))], [(b8, .cells #[.int .u8 77] 5 (0, 0))], [(b27, .cells (rows encChoice (l1 ++ [(⟨77, 0, 0⟩ : Choice)]) sp28) 39 (0, 0))], [(b22, .cells (encChoice (⟨77, 0, 0⟩)).toArray 39 (0, 0))]] : List HL).flatten) (show (b27, Obj.cells (rows encChoice (l1 ++ [(⟨77, 0, 0⟩ : Choice)]) sp28) 39 (0, 0)) ∈ ([s50, s41, s37, s33, L, [(b13, .cells (rows encB (l ++ [(77 : UInt8)]) sp14) 5 (0, 0))], [(b8, .cells #[.int .u8 77] 5 (0, 0))], [(b27, .cells (rows encChoice (l1 ++ [(⟨77, 0, 0⟩ : Choice)]) sp28) 39 (0, 0))], [(b22, .cells (encChoice (⟨77, 0, 0⟩)).toArray 39 (0, 0))]] : List HL).flatten from by simp)) (Rd.mono hl1 (fun x h => by simp [h])) (by first | omega | (simp only [chs_len]; omega) | (have q := rawR_le l1; omega)) (by first | omega | (simp only [chs_len]; omega) | (have q := rawR_le l1; omega)) (hw.cut [0, 1, 2, 3, 4, 5, 6, 7, 8] 0 rfl)) ?_
      clear hw; rintro v w ⟨rfl, hw⟩
      replace hw : Own z w [s50, s41, s37, s33, L, [(b13, .cells (rows encB (l ++ [(77 : UInt8)]) sp14) 5 (0, 0))], [(b8, .cells #[.int .u8 77] 5 (0, 0))], [(b27, .cells (rows encChoice (l1 ++ [(⟨77, 0, 0⟩ : Choice)]) sp28) 39 (0, 0))], [(b22, .cells (encChoice (⟨77, 0, 0⟩)).toArray 39 (0, 0))]] := Own.open_ (ss := []) hw
      refine SP tyOK 16 2 40 [1, 6, 91] (env' := [(1, .slice p1 l1.length c1), (6, .slice (some ⟨b27, 0, none⟩) l1.length c24), (91, .bool (decide (l1 = l1)))]) ?_
      refine setS 91 (.bool true) (congrArg Value.bool hk47) ?_
      refine SP tyOK 12 4 42 [1, 91, 92, 95] (env' := [(1, .slice p1 l1.length c1), (91, .bool true), (92, .slice (some ⟨b27, 0, none⟩) l1.length c24), (95, .int .i64 (IntKind.i64.wrap (((l1.length : Nat) : Int) + 1)))]) ?_
      refine setS 95 (.int .i64 ((l1.length + 1 : Nat) : Int)) (nat_inc (by omega)) ?_
      refine SO ?_
      refine O_slice tyOK 0 (l1.length + 1) c24 (n := l1.length) (c := c24) (p := some ⟨b27, 0, none⟩) rfl rfl rfl (by omega) (by omega) (Nat.le_refl _) ?_
      refine setS 96 (.slice (some ⟨b27, 0, none⟩) (l1.length + 1) c24) (slice_all _ _ _) ?_
      refine SP tyOK 9 2 47 [91, 96, 98] (env' := [(91, .bool true), (96, .slice (some ⟨b27, 0, none⟩) (l1.length + 1) c24), (98, .int .i64 ((l1.length : Nat) : Int))]) ?_
      refine SO ?_
      refine O_idx0 tyOK (l1.length) (n := l1.length + 1) rfl (by omega) ?_
      refine SP tyOK 7 1 50 [91, 100] (env' := [(91, .bool true), (100, .pointer (some ⟨b27, l1.length * 3, none⟩))]) ?_
      refine SO ?_
      refine O_load tyOK hw 7 (b := b27) (off := l1.length * 3) (v := .int .i64 77) (hv := ldP_rows (T := TY) (t := 37) (enc := encChoice) (size := 3) (off := 0) (i := l1.length) (x := (⟨77, 0, 0⟩ : Choice)) (fun _ => rfl) (by simp) (by as_aux_lemma => kernel_rfl)) ?_
      refine SP tyOK 3 3 52 [104] (env' := [(104, .bool true)]) ?_
      refine SO ?_
      refine O_call (args := #[]) Tryz.call15 (works_c (L := ([s50, s41, s37, s33, L, [(b13, .cells (rows encB (l ++ [(77 : UInt8)]) sp14) 5 (0, 0))], [(b8, .cells #[.int .u8 77] 5 (0, 0))], [(b27, .cells (rows encChoice (l1 ++ [(⟨77, 0, 0⟩ : Choice)]) sp28) 39 (0, 0))], [(b22, .cells (encChoice (⟨77, 0, 0⟩)).toArray 39 (0, 0))]] : List HL).flatten) (et := et) (by simp [h0]) (hw.cut [0, 1, 2, 3, 4, 5, 6, 7, 8] 0 rfl)) ?_
      clear hw; rintro v w ⟨rfl, hw⟩
      replace hw : Own z w [s50, s41, s37, s33, L, [(b13, .cells (rows encB (l ++ [(77 : UInt8)]) sp14) 5 (0, 0))], [(b8, .cells #[.int .u8 77] 5 (0, 0))], [(b27, .cells (rows encChoice (l1 ++ [(⟨77, 0, 0⟩ : Choice)]) sp28) 39 (0, 0))], [(b22, .cells (encChoice (⟨77, 0, 0⟩)).toArray 39 (0, 0))]] := Own.open_ (ss := []) hw
      refine SP tyOK 0 2 56 [4] (env' := [(4, .bool true)]) ?_
      refine sEnd ?_
      refine qThen ?_
      refine cRet ?_
      refine qRet (rs := [.tmp 4]) [.bool true] (.bool true) ⟨rT, trivial⟩ ?_
      exact ⟨by rfl, ((hw.pick [4, 0, 1, 2, 3, 5, 6, 7, 8] rfl).take 1)⟩

end Go.SL