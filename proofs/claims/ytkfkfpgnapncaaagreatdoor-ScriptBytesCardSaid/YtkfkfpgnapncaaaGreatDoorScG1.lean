import Derived.Test.YtkfkfpgnapncaaaGreatDoorScF
set_option linter.unusedSimpArgs false
set_option linter.unusedVariables false
namespace Go.SL
open Go Go.RowKit Go.Proofs
open Go.EV (AggOK eqA spA)
set_option maxRecDepth 100000
set_option linter.unusedVariables false
set_option linter.unusedSimpArgs false


theorem u8_and7 : ∀ x : UInt8, IntKind.u8.wrap (BitVec.ofInt 8 ((x.toNat : Nat) : Int) &&& BitVec.ofInt 8 7).toNat = ((x.toNat % 8 : Nat) : Int) := by
  have h : ∀ n : Fin 256, IntKind.u8.wrap (BitVec.ofInt 8 ((n.1 : Nat) : Int) &&& BitVec.ofInt 8 7).toNat = ((n.1 % 8 : Nat) : Int) := by decide +kernel
  exact fun x => h ⟨x.toNat, x.toNat_lt⟩
theorem u8_shr : ∀ x : UInt8, Int.tmod (IntKind.i64.wrap (Int.fdiv ((x.toNat : Nat) : Int) (2 ^ 3))) 4 = ((x.toNat / 8 % 4 : Nat) : Int) := by
  have h : ∀ n : Fin 256, Int.tmod (IntKind.i64.wrap (Int.fdiv ((n.1 : Nat) : Int) (2 ^ 3))) 4 = ((n.1 / 8 % 4 : Nat) : Int) := by decide +kernel
  exact fun x => h ⟨x.toNat, x.toNat_lt⟩
theorem kinds_ld (a : Nat) : ldP TY 37 #[.int .i64 1, .int .i64 1, .int .i64 2, .int .i64 2, .int .i64 3, .int .i64 3, .int .i64 4, .int .i64 5] (0 + a % 8 * 1) = some (.int .i64 (kindOf a)) := by
  have h : ∀ m : Fin 8, ldP TY 37 #[.int .i64 1, .int .i64 1, .int .i64 2, .int .i64 2, .int .i64 3, .int .i64 3, .int .i64 4, .int .i64 5] (0 + m.1 * 1) = some (.int .i64 ([1, 1, 2, 2, 3, 3, 4, 5].getD m.1 0)) := fun m => by
    obtain ⟨m, hm⟩ := m
    have : m = 0 ∨ m = 1 ∨ m = 2 ∨ m = 3 ∨ m = 4 ∨ m = 5 ∨ m = 6 ∨ m = 7 := by omega
    rcases this with rfl | rfl | rfl | rfl | rfl | rfl | rfl | rfl <;> (show _ = _; rfl)
  exact h ⟨a % 8, Nat.mod_lt _ (by decide)⟩
theorem ldP_at {α : Type} {enc : α → List Value} {size : Nat} {T : TT} (hz : ∀ x, (enc x).length = size) {t : TypeId} {l : List α} {A B : List Value} {i off : Nat} {v : Value} {x : α} (hx : l[i]? = some x) (h : ldP T t (enc x).toArray 0 = some v) (ho : off = A.length + i * size) :
    ldP T t (A ++ (l.flatMap enc ++ B)).toArray off = some v := by
  rw [ho]; exact ldP_rd hz hx h

theorem all1_c {z w : World} {X s0 : HL} {lo br : Nat} {p : Option Addr} {c : Nat} {l : List UInt8} {St : Nat → HL → Prop} (hn : l.length ≤ 4000) (hc : l.length ≤ c) (hrd : Rd X encB p l)
    (hy : ∀ m, 2 * m < l.length → ∀ s, St m s → ∀ Y w, Own z w [s, Y] → Yld Tryz.prog lo #[.agg (encChoice (chAt l m)).toArray] w (fun v w' => v = .bool true ∧ ∃ s', St (m + 1) s' ∧ Own z w' [s', Y]))
    (h0 : St 0 s0) (hw : Own z w [s0, [(br, .cells #[.slice p l.length c] 35 (0, 0))], X]) :
    Ret Tryz.prog 64 #[.func (.yield lo) #[] #[], .pointer (some ⟨br, 0, none⟩)] w (fun _ w' => ∃ s', St ((l.length + 1) / 2) s' ∧ Own z w' [s', [(br, .cells #[.slice p l.length c] 35 (0, 0))], X]) := by
  refine enterM Tryz.ntmps64 Tryz.func64 (args := [.func (.yield lo) #[] #[], .pointer (some ⟨br, 0, none⟩)]) ?_
  refine cSeq ?_
  refine cReg 1 ?_
  refine SO ?_
  refine O_box hw (v := .func (.yield lo) #[] #[]) ?_
  clear hw; intro b1 w hw
  replace hw : Own z w [s0, [(br, .cells #[.slice p l.length c] 35 (0, 0))], X, [(b1, .cells #[.func (.yield lo) #[] #[]] 49 (0, 0))]] := hw
  refine sEnd ?_
  refine qThen ?_
  refine cSeq ?_
  refine cReg 3 ?_
  refine SO ?_
  refine O_call (args := #[]) Tryz.call35 (kinds_c  (hw.cut [0, 1, 2, 3] 0 rfl) ) ?_
  clear hw; rintro v w ⟨rfl, hw⟩
  replace hw : Own z w [s0, [(br, .cells #[.slice p l.length c] 35 (0, 0))], X, [(b1, .cells #[.func (.yield lo) #[] #[]] 49 (0, 0))]] := Own.open_ (ss := []) hw
  refine SO ?_
  refine O_alloc tyOK hw ?_
  clear hw; intro b2 w hw
  replace hw : Own z w [s0, [(br, .cells #[.slice p l.length c] 35 (0, 0))], X, [(b1, .cells #[.func (.yield lo) #[] #[]] 49 (0, 0))], [(b2, .cells #[.int .i64 0, .int .i64 0, .int .i64 0, .int .i64 0, .int .i64 0, .int .i64 0, .int .i64 0, .int .i64 0] 96 (0, 0))]] := hw
  refine SO ?_
  refine O_store tyOK hw 4 (b := b2) (off := 0) (cs' := #[.int .i64 1, .int .i64 1, .int .i64 2, .int .i64 2, .int .i64 3, .int .i64 3, .int .i64 4, .int .i64 5]) ?_
  clear hw; intro w hw
  replace hw : Own z w [s0, [(br, .cells #[.slice p l.length c] 35 (0, 0))], X, [(b1, .cells #[.func (.yield lo) #[] #[]] 49 (0, 0))], [(b2, .cells #[.int .i64 1, .int .i64 1, .int .i64 2, .int .i64 2, .int .i64 3, .int .i64 3, .int .i64 4, .int .i64 5] 96 (0, 0))]] := hw
  refine sEnd ?_
  refine qThen ?_
  refine cSeq ?_
  refine cReg 2 ?_
  refine SO ?_
  refine O_load tyOK hw 1 (b := br) (off := 0) (v := .slice p l.length c) ?_
  refine SO ?_
  refine O_call (args := #[.slice p l.length c, .int .i64 2]) Tryz.call65 (chunk_c (hw.cut [0, 1, 2, 3, 4] 0 rfl)) ?_
  clear hw; rintro v w ⟨b3, b4, rfl, hw⟩
  replace hw : Own z w [[(b3, .cells #[.slice p l.length c] 35 (0, 0))], [(b4, .cells #[.int .i64 2] 3 (0, 0))], s0, [(br, .cells #[.slice p l.length c] 35 (0, 0))], X, [(b1, .cells #[.func (.yield lo) #[] #[]] 49 (0, 0))], [(b2, .cells #[.int .i64 1, .int .i64 1, .int .i64 2, .int .i64 2, .int .i64 3, .int .i64 3, .int .i64 4, .int .i64 5] 96 (0, 0))]] := Own.open_ (ss := [[(b3, .cells #[.slice p l.length c] 35 (0, 0))], [(b4, .cells #[.int .i64 2] 3 (0, 0))]]) hw
  refine sEnd ?_
  refine qThen ?_
  refine cBlk ?_
  refine keepC [2, 3, 8] (env' := [(2, .pointer (some ⟨b1, 0, none⟩)), (3, .pointer (some ⟨b2, 0, none⟩)), (8, .func (.func 96) #[] #[.pointer (some ⟨b3, 0, none⟩), .pointer (some ⟨b4, 0, none⟩)])]) ?_
  refine cRange (f := 96) (fs := #[]) (cs := #[.pointer (some ⟨b3, 0, none⟩), .pointer (some ⟨b4, 0, none⟩)]) hw Tryz.call96 ?_
  clear hw; intro fn5 tm6 D7 l8 rc9 w hrc10 hfr11 hw
  replace hw : Own z w [[(b3, .cells #[.slice p l.length c] 35 (0, 0))], [(b4, .cells #[.int .i64 2] 3 (0, 0))], s0, [(br, .cells #[.slice p l.length c] 35 (0, 0))], X, [(b1, .cells #[.func (.yield lo) #[] #[]] 49 (0, 0))], [(b2, .cells #[.int .i64 1, .int .i64 1, .int .i64 2, .int .i64 2, .int .i64 3, .int .i64 3, .int .i64 4, .int .i64 5] 96 (0, 0))], [(D7, .deferred (some []))], [(l8, rc9 .ready none)]] := hw
  have hy2 : ∀ m, 2 * m < l.length → ∀ s', (fun m s' => ∃ s, St m s ∧ s' = s ++ ([[(br, .cells #[.slice p l.length c] 35 (0, 0))], [(b1, .cells #[.func (.yield lo) #[] #[]] 49 (0, 0))], [(b2, .cells #[.int .i64 1, .int .i64 1, .int .i64 2, .int .i64 2, .int .i64 3, .int .i64 3, .int .i64 4, .int .i64 5] 96 (0, 0))], [(D7, .deferred (some []))], [(l8, rc9 .ready none)]] : List HL).flatten) m s' → ∀ Y w, (∀ x ∈ X, x ∈ Y) → Own z w [s', Y] → Yld Tryz.prog l8 #[.slice (p.map (·.add (2 * m))) (min 2 (l.length - 2 * m)) (min 2 (l.length - 2 * m))] w (fun v w' => v = .bool true ∧ ∃ s', (fun m s' => ∃ s, St m s ∧ s' = s ++ ([[(br, .cells #[.slice p l.length c] 35 (0, 0))], [(b1, .cells #[.func (.yield lo) #[] #[]] 49 (0, 0))], [(b2, .cells #[.int .i64 1, .int .i64 1, .int .i64 2, .int .i64 2, .int .i64 3, .int .i64 3, .int .i64 4, .int .i64 5] 96 (0, 0))], [(D7, .deferred (some []))], [(l8, rc9 .ready none)]] : List HL).flatten) (m + 1) s' ∧ Own z w' [s', Y]) := by
    clear hw; rintro m hm _ ⟨s, hs, rfl⟩ Y w hXY hw
    replace hw : Own z w [s, [(br, .cells #[.slice p l.length c] 35 (0, 0))], [(b1, .cells #[.func (.yield lo) #[] #[]] 49 (0, 0))], [(b2, .cells #[.int .i64 1, .int .i64 1, .int .i64 2, .int .i64 2, .int .i64 3, .int .i64 3, .int .i64 4, .int .i64 5] 96 (0, 0))], [(D7, .deferred (some []))], [(l8, rc9 .ready none)], Y] := hw.conv (by simp)
    obtain ⟨b12, A13, B14, et15, fr16, rfl, hm17⟩ := hrd.some (by omega)
    replace hm17 := hXY _ hm17
    obtain ⟨x18, hx19⟩ : ∃ x, l[2 * m]? = some x := ⟨_, List.getElem?_eq_getElem (by omega)⟩
    rw [Option.map_some, Addr.add_mid]
    obtain ⟨e, he⟩ : ∃ e, e = min 2 (l.length - 2 * m) := ⟨_, rfl⟩
    rw [← he]
    refine yldI (pl := [9]) (args := [.slice (some ⟨b12, (A13.length + 2 * m), none⟩) e e]) hrc10 hw 5 rfl hfr11 ?_
    refine cReg 1 ?_
    refine SP tyOK 0 1 0 [2, 3, 4] (env' := [(2, .pointer (some ⟨b1, 0, none⟩)), (3, .pointer (some ⟨b2, 0, none⟩)), (4, .slice (some ⟨b12, (A13.length + 2 * m), none⟩) e e)]) ?_
    refine sEnd ?_
    refine qAssign hrc10 hw 5 ?_
    clear hw; intro w hw
    replace hw : Own z w [s, [(br, .cells #[.slice (some ⟨b12, A13.length, none⟩) l.length c] 35 (0, 0))], [(b1, .cells #[.func (.yield lo) #[] #[]] 49 (0, 0))], [(b2, .cells #[.int .i64 1, .int .i64 1, .int .i64 2, .int .i64 2, .int .i64 3, .int .i64 3, .int .i64 4, .int .i64 5] 96 (0, 0))], [(D7, .deferred (some []))], [(l8, rc9 .busy none)], Y] := hw
    refine cBlk ?_
    refine cSeq ?_
    refine noPan_of (cDraw (Has ((b2, .cells #[.int .i64 1, .int .i64 1, .int .i64 2, .int .i64 2, .int .i64 3, .int .i64 3, .int .i64 4, .int .i64 5] 96 (0, 0)) :: Y)) 14 [.q 0, .q 1, .q 2, .q 3, .q 4, .q 5, .q 6, .q 7, .q 8, .q 9, .q 10, .q 11, .q 12, .e 13, .e 14] hw mixed pdNo ?_)
    clear hw; intro w hw
    refine MP (r := [.q 1, .q 2, .q 3, .q 4, .q 5, .q 6, .q 7, .q 8, .q 9, .q 10, .q 11, .q 12, .e 13, .e 14]) tyOK (has_cons (hw.blk 3 rfl) (hw.mem (i := 6) rfl)) [0] [2, 3, 4, 10] (env' := [(2, .pointer (some ⟨b1, 0, none⟩)), (3, .pointer (some ⟨b2, 0, none⟩)), (4, .slice (some ⟨b12, (A13.length + 2 * m), none⟩) e e), (10, .slice (some ⟨b12, (A13.length + 2 * m), none⟩) e e)]) ?_
    refine M_idx tyOK (has_cons (hw.blk 3 rfl) (hw.mem (i := 6) rfl)) (0) (n := e) (b := b12) (off := (A13.length + 2 * m)) (rfl) (by omega) ?_
    refine MLR tyOK (has_cons (hw.blk 3 rfl) (hw.mem (i := 6) rfl)) (b := b12) (off := (A13.length + 2 * m) + 0 * 1) (v := .int .u8 ((x18.toNat : Nat) : Int)) (List.mem_cons_of_mem _ hm17) (ldP_at (T := TY) (t := 5) (size := 1) (i := 2 * m) (fun _ => rfl) hx19 (by as_aux_lemma => kernel_rfl) (by omega)) ?_
    refine MP (r := [.q 4, .q 5, .q 6, .q 7, .q 8, .q 9, .q 10, .q 11, .q 12, .e 13, .e 14]) tyOK (has_cons (hw.blk 3 rfl) (hw.mem (i := 6) rfl)) [3] [2, 3, 4, 13] (env' := [(2, .pointer (some ⟨b1, 0, none⟩)), (3, .pointer (some ⟨b2, 0, none⟩)), (4, .slice (some ⟨b12, (A13.length + 2 * m), none⟩) e e), (13, .int .u8 (IntKind.u8.wrap (BitVec.ofInt 8 ((x18.toNat : Nat) : Int) &&& BitVec.ofInt 8 7).toNat))]) ?_
    refine setM 13 (.int .u8 ((x18.toNat % 8 : Nat) : Int)) (congrArg (Value.int .u8) (u8_and7 x18)) ?_
    refine M_idxA tyOK (has_cons (hw.blk 3 rfl) (hw.mem (i := 6) rfl)) (x18.toNat % 8) (n := 8) (b := b2) (off := 0) (rfl) (by omega) ?_
    refine ML tyOK (has_cons (hw.blk 3 rfl) (hw.mem (i := 6) rfl)) (b := b2) (off := 0 + (x18.toNat % 8) * 1) (v := .int .i64 (kindOf x18.toNat)) (hv := kinds_ld _) mem0 ?_
    refine MP (r := [.q 7, .q 8, .q 9, .q 10, .q 11, .q 12, .e 13, .e 14]) tyOK (has_cons (hw.blk 3 rfl) (hw.mem (i := 6) rfl)) [6] [2, 4, 15, 16] (env' := [(2, .pointer (some ⟨b1, 0, none⟩)), (4, .slice (some ⟨b12, (A13.length + 2 * m), none⟩) e e), (15, .int .i64 (kindOf x18.toNat)), (16, .slice (some ⟨b12, (A13.length + 2 * m), none⟩) e e)]) ?_
    refine M_idx tyOK (has_cons (hw.blk 3 rfl) (hw.mem (i := 6) rfl)) (0) (n := e) (b := b12) (off := (A13.length + 2 * m)) (rfl) (by omega) ?_
    refine MLR tyOK (has_cons (hw.blk 3 rfl) (hw.mem (i := 6) rfl)) (b := b12) (off := (A13.length + 2 * m) + 0 * 1) (v := .int .u8 ((x18.toNat : Nat) : Int)) (List.mem_cons_of_mem _ hm17) (ldP_at (T := TY) (t := 5) (size := 1) (i := 2 * m) (fun _ => rfl) hx19 (by as_aux_lemma => kernel_rfl) (by omega)) ?_
    refine MP (r := [.q 12, .e 13, .e 14]) tyOK (has_cons (hw.blk 3 rfl) (hw.mem (i := 6) rfl)) [9, 10, 11] [2, 4, 15, 21] (env' := [(2, .pointer (some ⟨b1, 0, none⟩)), (4, .slice (some ⟨b12, (A13.length + 2 * m), none⟩) e e), (15, .int .i64 (kindOf x18.toNat)), (21, .int .i64 (Int.tmod (IntKind.i64.wrap (Int.fdiv ((x18.toNat : Nat) : Int) (2 ^ 3))) 4))]) ?_
    refine setM 21 (.int .i64 ((x18.toNat / 8 % 4 : Nat) : Int)) (congrArg (Value.int .i64) (u8_shr x18)) ?_
    refine MP (r := [.e 13, .e 14]) tyOK (has_cons (hw.blk 3 rfl) (hw.mem (i := 6) rfl)) [12] [2, 4, 22] (env' := [(2, .pointer (some ⟨b1, 0, none⟩)), (4, .slice (some ⟨b12, (A13.length + 2 * m), none⟩) e e), (22, .agg ((encChoice (⟨kindOf x18.toNat, ((x18.toNat / 8 % 4 : Nat) : Int), 0⟩)).toArray))]) ?_
    refine MO ?_
    refine O_alloc tyOK hw ?_
    clear hw; intro b20 w hw
    replace hw : Own z w [s, [(br, .cells #[.slice (some ⟨b12, A13.length, none⟩) l.length c] 35 (0, 0))], [(b1, .cells #[.func (.yield lo) #[] #[]] 49 (0, 0))], [(b2, .cells #[.int .i64 1, .int .i64 1, .int .i64 2, .int .i64 2, .int .i64 3, .int .i64 3, .int .i64 4, .int .i64 5] 96 (0, 0))], [(D7, .deferred (some []))], [(l8, rc9 .busy none)], Y, [(b20, .cells (encChoice (⟨0, 0, 0⟩)).toArray 39 (0, 0))]] := hw
    refine ⟨fun _ => (has_cons (hw.blk 3 rfl) (hw.mem (i := 6) rfl)), ?_⟩
    refine MO ?_
    refine O_store tyOK hw 7 (b := b20) (off := 0) (cs' := (encChoice (⟨kindOf x18.toNat, ((x18.toNat / 8 % 4 : Nat) : Int), 0⟩)).toArray) ?_
    clear hw; intro w hw
    replace hw : Own z w [s, [(br, .cells #[.slice (some ⟨b12, A13.length, none⟩) l.length c] 35 (0, 0))], [(b1, .cells #[.func (.yield lo) #[] #[]] 49 (0, 0))], [(b2, .cells #[.int .i64 1, .int .i64 1, .int .i64 2, .int .i64 2, .int .i64 3, .int .i64 3, .int .i64 4, .int .i64 5] 96 (0, 0))], [(D7, .deferred (some []))], [(l8, rc9 .busy none)], Y, [(b20, .cells (encChoice (⟨kindOf x18.toNat, ((x18.toNat / 8 % 4 : Nat) : Int), 0⟩)).toArray 39 (0, 0))]] := hw
    refine ⟨fun h => absurd h (by decide), ?_⟩
    refine mEnd (qNo ?_)
    refine qThen ?_
    refine cSeq ?_
    refine cSeq ?_
    refine cReg 3 ?_
    refine SP tyOK 0 3 0 [2, 4, 5, 25] (env' := [(2, .pointer (some ⟨b1, 0, none⟩)), (4, .slice (some ⟨b12, (A13.length + 2 * m), none⟩) e e), (5, .pointer (some ⟨b20, 0, none⟩)), (25, .bool (decide (((e : Nat) : Int) > 1)))]) ?_
    refine sEnd ?_
    refine qThen ?_
    refine two (decide (((e : Nat) : Int) > 1)) (fun hb21 => ?_) (fun hb21 => ?_)
    ·
      have hb21p : ((e : Nat) : Int) > 1 := of_decide_eq_true hb21
      refine setC 25 (.bool true) (congrArg Value.bool hb21) ?_
      refine cT ?_
      obtain ⟨x22, hx23⟩ : ∃ x, l[2 * m + 1]? = some x := ⟨_, List.getElem?_eq_getElem (by omega)⟩
      refine cReg 6 ?_
      refine SP tyOK 5 1 0 [2, 5, 26] (env' := [(2, .pointer (some ⟨b1, 0, none⟩)), (5, .pointer (some ⟨b20, 0, none⟩)), (26, .slice (some ⟨b12, (A13.length + 2 * m), none⟩) e e)]) ?_
      refine SO ?_
      refine O_idx tyOK (1) (n := e) (rfl) (by omega) ?_
      refine SO ?_
      refine O_loadR tyOK hw 6 (b := b12) (off := (A13.length + 2 * m) + 1 * 1) (v := .int .u8 ((x22.toNat : Nat) : Int)) hm17 (ldP_at (T := TY) (t := 5) (size := 1) (i := 2 * m + 1) (fun _ => rfl) hx23 (by as_aux_lemma => kernel_rfl) (by omega)) ?_
      refine SP tyOK 2 1 3 [2, 5, 29] (env' := [(2, .pointer (some ⟨b1, 0, none⟩)), (5, .pointer (some ⟨b20, 0, none⟩)), (29, .int .i64 (IntKind.i64.wrap ((x22.toNat : Nat) : Int)))]) ?_
      refine setS 29 (.int .i64 ((x22.toNat : Nat) : Int)) (congrArg (Value.int .i64) (u8_i64 x22)) ?_
      refine SP tyOK 1 1 4 [2, 5, 29, 30] (env' := [(2, .pointer (some ⟨b1, 0, none⟩)), (5, .pointer (some ⟨b20, 0, none⟩)), (29, .int .i64 ((x22.toNat : Nat) : Int)), (30, .pointer (some ⟨b20, 2, none⟩))]) ?_
      refine SO ?_
      refine O_store tyOK hw 7 (b := b20) (off := 2) (cs' := (encChoice (⟨kindOf x18.toNat, ((x18.toNat / 8 % 4 : Nat) : Int), ((x22.toNat : Nat) : Int)⟩)).toArray) ?_
      clear hw; intro w hw
      replace hw : Own z w [s, [(br, .cells #[.slice (some ⟨b12, A13.length, none⟩) l.length c] 35 (0, 0))], [(b1, .cells #[.func (.yield lo) #[] #[]] 49 (0, 0))], [(b2, .cells #[.int .i64 1, .int .i64 1, .int .i64 2, .int .i64 2, .int .i64 3, .int .i64 3, .int .i64 4, .int .i64 5] 96 (0, 0))], [(D7, .deferred (some []))], [(l8, rc9 .busy none)], Y, [(b20, .cells (encChoice (⟨kindOf x18.toNat, ((x18.toNat / 8 % 4 : Nat) : Int), ((x22.toNat : Nat) : Int)⟩)).toArray 39 (0, 0))]] := hw
      refine sEnd ?_
      refine qThen ?_
      refine cSeq ?_
      refine cReg 4 ?_
      refine SO ?_
      refine O_load tyOK hw 2 (b := b1) (off := 0) (v := .func (.yield lo) #[] #[]) ?_
      refine SO ?_
      refine O_load tyOK hw 7 (b := b20) (off := 0) (v := .agg ((encChoice (⟨kindOf x18.toNat, ((x18.toNat / 8 % 4 : Nat) : Int), ((x22.toNat : Nat) : Int)⟩)).toArray)) ?_
      refine SO ?_
      have hch : (⟨kindOf x18.toNat, ((x18.toNat / 8 % 4 : Nat) : Int), ((x22.toNat : Nat) : Int)⟩ : Choice) = chAt l m := chAt_mk hx19 hx23 rfl
      refine O_yield (args := [.agg (encChoice (⟨kindOf x18.toNat, ((x18.toNat / 8 % 4 : Nat) : Int), ((x22.toNat : Nat) : Int)⟩)).toArray]) (by rw [hch]; exact hy m (by omega) s hs _ w (hw.cut [0, 1, 2, 3, 4, 5, 6, 7] 1 rfl)) ?_
      clear hw; rintro v w ⟨rfl, s24, hs25, hw⟩
      replace hw : Own z w [s24, [(br, .cells #[.slice (some ⟨b12, A13.length, none⟩) l.length c] 35 (0, 0))], [(b1, .cells #[.func (.yield lo) #[] #[]] 49 (0, 0))], [(b2, .cells #[.int .i64 1, .int .i64 1, .int .i64 2, .int .i64 2, .int .i64 3, .int .i64 3, .int .i64 4, .int .i64 5] 96 (0, 0))], [(D7, .deferred (some []))], [(l8, rc9 .busy none)], Y, [(b20, .cells (encChoice (⟨kindOf x18.toNat, ((x18.toNat / 8 % 4 : Nat) : Int), ((x22.toNat : Nat) : Int)⟩)).toArray 39 (0, 0))]] := Own.open_ (ss := [s24]) hw
      refine SP tyOK 0 1 3 [34] (env' := [(34, .bool false)]) ?_
      refine sEnd ?_
      refine qThen ?_
      refine cF ?_
      refine cSkip ?_
      refine qBlk ?_
      refine qRnd hrc10 hw 5 ?_
      clear hw; intro w hw
      replace hw : Own z w [s24, [(br, .cells #[.slice (some ⟨b12, A13.length, none⟩) l.length c] 35 (0, 0))], [(b1, .cells #[.func (.yield lo) #[] #[]] 49 (0, 0))], [(b2, .cells #[.int .i64 1, .int .i64 1, .int .i64 2, .int .i64 2, .int .i64 3, .int .i64 3, .int .i64 4, .int .i64 5] 96 (0, 0))], [(D7, .deferred (some []))], [(l8, rc9 .ready none)], Y, [(b20, .cells (encChoice (⟨kindOf x18.toNat, ((x18.toNat / 8 % 4 : Nat) : Int), ((x22.toNat : Nat) : Int)⟩)).toArray 39 (0, 0))]] := hw
      exact ⟨rfl, _, ⟨s24, hs25, rfl⟩, Own.conv (ss := [s24, [(br, .cells #[.slice (some ⟨b12, A13.length, none⟩) l.length c] 35 (0, 0))], [(b1, .cells #[.func (.yield lo) #[] #[]] 49 (0, 0))], [(b2, .cells #[.int .i64 1, .int .i64 1, .int .i64 2, .int .i64 2, .int .i64 3, .int .i64 3, .int .i64 4, .int .i64 5] 96 (0, 0))], [(D7, .deferred (some []))], [(l8, rc9 .ready none)], Y]) ((hw.pick [0, 1, 2, 3, 4, 5, 6, 7] rfl).take 7) (by simp)⟩
    ·
      have hb21p : ¬ (((e : Nat) : Int) > 1) := of_decide_eq_false hb21
      refine setC 25 (.bool false) (congrArg Value.bool hb21) ?_
      refine cF ?_
      refine cSkip ?_
      refine qThen ?_
      refine cSeq ?_
      refine cReg 4 ?_
      refine SO ?_
      refine O_load tyOK hw 2 (b := b1) (off := 0) (v := .func (.yield lo) #[] #[]) ?_
      refine SO ?_
      refine O_load tyOK hw 7 (b := b20) (off := 0) (v := .agg ((encChoice (⟨kindOf x18.toNat, ((x18.toNat / 8 % 4 : Nat) : Int), 0⟩)).toArray)) ?_
      refine SO ?_
      have hch : (⟨kindOf x18.toNat, ((x18.toNat / 8 % 4 : Nat) : Int), 0⟩ : Choice) = chAt l m := chAt_mk0 hx19 (by omega) rfl
      refine O_yield (args := [.agg (encChoice (⟨kindOf x18.toNat, ((x18.toNat / 8 % 4 : Nat) : Int), 0⟩)).toArray]) (by rw [hch]; exact hy m (by omega) s hs _ w (hw.cut [0, 1, 2, 3, 4, 5, 6, 7] 1 rfl)) ?_
      clear hw; rintro v w ⟨rfl, s26, hs27, hw⟩
      replace hw : Own z w [s26, [(br, .cells #[.slice (some ⟨b12, A13.length, none⟩) l.length c] 35 (0, 0))], [(b1, .cells #[.func (.yield lo) #[] #[]] 49 (0, 0))], [(b2, .cells #[.int .i64 1, .int .i64 1, .int .i64 2, .int .i64 2, .int .i64 3, .int .i64 3, .int .i64 4, .int .i64 5] 96 (0, 0))], [(D7, .deferred (some []))], [(l8, rc9 .busy none)], Y, [(b20, .cells (encChoice (⟨kindOf x18.toNat, ((x18.toNat / 8 % 4 : Nat) : Int), 0⟩)).toArray 39 (0, 0))]] := Own.open_ (ss := [s26]) hw
      refine SP tyOK 0 1 3 [34] (env' := [(34, .bool false)]) ?_
      refine sEnd ?_
      refine qThen ?_
      refine cF ?_
      refine cSkip ?_
      refine qBlk ?_
      refine qRnd hrc10 hw 5 ?_
      clear hw; intro w hw
      replace hw : Own z w [s26, [(br, .cells #[.slice (some ⟨b12, A13.length, none⟩) l.length c] 35 (0, 0))], [(b1, .cells #[.func (.yield lo) #[] #[]] 49 (0, 0))], [(b2, .cells #[.int .i64 1, .int .i64 1, .int .i64 2, .int .i64 2, .int .i64 3, .int .i64 3, .int .i64 4, .int .i64 5] 96 (0, 0))], [(D7, .deferred (some []))], [(l8, rc9 .ready none)], Y, [(b20, .cells (encChoice (⟨kindOf x18.toNat, ((x18.toNat / 8 % 4 : Nat) : Int), 0⟩)).toArray 39 (0, 0))]] := hw
      exact ⟨rfl, _, ⟨s26, hs27, rfl⟩, Own.conv (ss := [s26, [(br, .cells #[.slice (some ⟨b12, A13.length, none⟩) l.length c] 35 (0, 0))], [(b1, .cells #[.func (.yield lo) #[] #[]] 49 (0, 0))], [(b2, .cells #[.int .i64 1, .int .i64 1, .int .i64 2, .int .i64 2, .int .i64 3, .int .i64 3, .int .i64 4, .int .i64 5] 96 (0, 0))], [(D7, .deferred (some []))], [(l8, rc9 .ready none)], Y]) ((hw.pick [0, 1, 2, 3, 4, 5, 6, 7] rfl).take 7) (by simp)⟩
  replace hw : Own z w [s0 ++ ([[(br, .cells #[.slice p l.length c] 35 (0, 0))], [(b1, .cells #[.func (.yield lo) #[] #[]] 49 (0, 0))], [(b2, .cells #[.int .i64 1, .int .i64 1, .int .i64 2, .int .i64 2, .int .i64 3, .int .i64 3, .int .i64 4, .int .i64 5] 96 (0, 0))], [(D7, .deferred (some []))], [(l8, rc9 .ready none)]] : List HL).flatten, [(b3, .cells #[.slice p l.length c] 35 (0, 0))], [(b4, .cells #[.int .i64 2] 3 (0, 0))], X] := Own.conv (hw.pick [2, 3, 5, 6, 7, 8, 0, 1, 4] rfl) (by simp [pick])
  refine Ret.mono (chunk1_c (St := (fun m s' => ∃ s, St m s ∧ s' = s ++ ([[(br, .cells #[.slice p l.length c] 35 (0, 0))], [(b1, .cells #[.func (.yield lo) #[] #[]] 49 (0, 0))], [(b2, .cells #[.int .i64 1, .int .i64 1, .int .i64 2, .int .i64 2, .int .i64 3, .int .i64 3, .int .i64 4, .int .i64 5] 96 (0, 0))], [(D7, .deferred (some []))], [(l8, rc9 .ready none)]] : List HL).flatten)) hn hc hy2 ⟨s0, h0, rfl⟩ hw) ?_
  clear hw; rintro _ w ⟨_, ⟨s, hs, rfl⟩, hw⟩
  replace hw : Own z w [s, [(br, .cells #[.slice p l.length c] 35 (0, 0))], [(b1, .cells #[.func (.yield lo) #[] #[]] 49 (0, 0))], [(b2, .cells #[.int .i64 1, .int .i64 1, .int .i64 2, .int .i64 2, .int .i64 3, .int .i64 3, .int .i64 4, .int .i64 5] 96 (0, 0))], [(D7, .deferred (some []))], [(l8, rc9 .ready none)], [(b3, .cells #[.slice p l.length c] 35 (0, 0))], [(b4, .cells #[.int .i64 2] 3 (0, 0))], X] := hw.conv (by simp)
  refine ⟨5, [s, [(br, .cells #[.slice p l.length c] 35 (0, 0))], [(b1, .cells #[.func (.yield lo) #[] #[]] 49 (0, 0))], [(b2, .cells #[.int .i64 1, .int .i64 1, .int .i64 2, .int .i64 2, .int .i64 3, .int .i64 3, .int .i64 4, .int .i64 5] 96 (0, 0))], [(D7, .deferred (some []))], [(l8, rc9 .ready none)], [(b3, .cells #[.slice p l.length c] 35 (0, 0))], [(b4, .cells #[.int .i64 2] 3 (0, 0))], X], .ready, none, rfl, rfl, hw, ?_⟩
  clear hw; intro w hw
  replace hw : Own z w [s, [(br, .cells #[.slice p l.length c] 35 (0, 0))], [(b1, .cells #[.func (.yield lo) #[] #[]] 49 (0, 0))], [(b2, .cells #[.int .i64 1, .int .i64 1, .int .i64 2, .int .i64 2, .int .i64 3, .int .i64 3, .int .i64 4, .int .i64 5] 96 (0, 0))], [(D7, .deferred (some []))], [(l8, rc9 .exhausted none)], [(b3, .cells #[.slice p l.length c] 35 (0, 0))], [(b4, .cells #[.int .i64 2] 3 (0, 0))], X] := hw
  show QE _ _ _ _ _ _
  refine qBlk ?_
  refine qEndM (rs := []) [] (.tuple #[]) hw 4 ?_
  clear hw; intro w hw
  replace hw : Own z w [s, [(br, .cells #[.slice p l.length c] 35 (0, 0))], [(b1, .cells #[.func (.yield lo) #[] #[]] 49 (0, 0))], [(b2, .cells #[.int .i64 1, .int .i64 1, .int .i64 2, .int .i64 2, .int .i64 3, .int .i64 3, .int .i64 4, .int .i64 5] 96 (0, 0))], [(D7, .deferred none)], [(l8, rc9 .exhausted none)], [(b3, .cells #[.slice p l.length c] 35 (0, 0))], [(b4, .cells #[.int .i64 2] 3 (0, 0))], X] := hw
  refine ⟨trivial, ?_⟩
  exact ⟨s, hs, ((hw.pick [0, 1, 8, 2, 3, 4, 5, 6, 7] rfl).take 3)⟩

end Go.SL