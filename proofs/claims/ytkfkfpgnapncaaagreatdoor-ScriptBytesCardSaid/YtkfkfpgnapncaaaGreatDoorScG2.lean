import Derived.Test.YtkfkfpgnapncaaaGreatDoorScG1
set_option linter.unusedSimpArgs false
set_option linter.unusedVariables false
namespace Go.SL
open Go Go.RowKit Go.Proofs
open Go.EV (AggOK eqA spA)
set_option maxRecDepth 100000
set_option linter.unusedVariables false
set_option linter.unusedSimpArgs false

theorem appseq_c {z w : World} {L : HL} {br : Nat} {p : Option Addr} {c : Nat} {l : List UInt8} (hn : l.length ≤ 4000) (hc : l.length ≤ c) (hrd : Rd L encB p l) (hw : Own z w [[(br, .cells #[.slice p l.length c] 35 (0, 0))], L]) :
    Ret Tryz.prog 63 #[.slice none 0 0, .func (.func 64) #[] #[.pointer (some ⟨br, 0, none⟩)]] w (fun v w' => ∃ p' c' s', v = .slice p' (chs l).length c' ∧ Sl 39 3 encChoice p' c' (chs l) s' ∧ Own z w' [s', L]) := by
  refine enterM Tryz.ntmps63 Tryz.func63 (args := [.slice none 0 0, .func (.func 64) #[] #[.pointer (some ⟨br, 0, none⟩)]]) ?_
  refine cSeq ?_
  refine cReg 2 ?_
  refine SO ?_
  refine O_box hw (v := .slice none 0 0) ?_
  clear hw; intro b1 w hw
  replace hw : Own z w [[(br, .cells #[.slice p l.length c] 35 (0, 0))], L, [(b1, .cells #[.slice none 0 0] 36 (0, 0))]] := hw
  refine SP tyOK 0 1 1 [1, 2] (env' := [(1, .func (.func 64) #[] #[.pointer (some ⟨br, 0, none⟩)]), (2, .pointer (some ⟨b1, 0, none⟩))]) ?_
  refine sEnd ?_
  refine qThen ?_
  refine cSeq ?_
  refine cSeq ?_
  refine cReg 1 ?_
  refine SP tyOK 0 1 0 [2, 6] (env' := [(2, .pointer (some ⟨b1, 0, none⟩)), (6, .func (.func 64) #[] #[.pointer (some ⟨br, 0, none⟩)])]) ?_
  refine sEnd ?_
  refine qThen ?_
  refine cBlk ?_
  refine keepC [2, 6] (env' := [(2, .pointer (some ⟨b1, 0, none⟩)), (6, .func (.func 64) #[] #[.pointer (some ⟨br, 0, none⟩)])]) ?_
  refine cRange (f := 64) (fs := #[]) (cs := #[.pointer (some ⟨br, 0, none⟩)]) hw Tryz.call64 ?_
  clear hw; intro fn2 tm3 D4 l5 rc6 w hrc7 hfr8 hw
  replace hw : Own z w [[(br, .cells #[.slice p l.length c] 35 (0, 0))], L, [(b1, .cells #[.slice none 0 0] 36 (0, 0))], [(D4, .deferred (some []))], [(l5, rc6 .ready none)]] := hw
  have hy2 : ∀ m, 2 * m < l.length → ∀ s', (fun (m : Nat) (s' : HL) => ∃ q cq sq, Sl 39 3 encChoice q cq (chsN l m) sq ∧ s' = sq ++ ((b1, Obj.cells #[Value.slice q m cq] 36 (0, 0)) :: [(D4, .deferred (some [])), (l5, rc6 .ready none)])) m s' → ∀ Y w, Own z w [s', Y] → Yld Tryz.prog l5 #[.agg (encChoice (chAt l m)).toArray] w (fun v w' => v = .bool true ∧ ∃ s', (fun (m : Nat) (s' : HL) => ∃ q cq sq, Sl 39 3 encChoice q cq (chsN l m) sq ∧ s' = sq ++ ((b1, Obj.cells #[Value.slice q m cq] 36 (0, 0)) :: [(D4, .deferred (some [])), (l5, rc6 .ready none)])) (m + 1) s' ∧ Own z w' [s', Y]) := by
    clear hw; rintro m hm _ ⟨q, cq, s, hsl, rfl⟩ Y w hw
    replace hw : Own z w [s, [(b1, .cells #[.slice q m cq] 36 (0, 0))], [(D4, .deferred (some []))], [(l5, rc6 .ready none)], Y] := hw.conv (by simp)
    refine yldI (pl := [7]) (args := [.agg ((encChoice (chAt l m)).toArray)]) hrc7 hw 3 rfl hfr8 ?_
    refine cReg 2 ?_
    refine SO ?_
    refine O_alloc tyOK hw ?_
    clear hw; intro b9 w hw
    replace hw : Own z w [s, [(b1, .cells #[.slice q m cq] 36 (0, 0))], [(D4, .deferred (some []))], [(l5, rc6 .ready none)], Y, [(b9, .cells (encChoice (⟨0, 0, 0⟩)).toArray 39 (0, 0))]] := hw
    refine SO ?_
    refine O_store tyOK hw 5 (b := b9) (off := 0) (cs' := (encChoice (chAt l m)).toArray) ?_
    clear hw; intro w hw
    replace hw : Own z w [s, [(b1, .cells #[.slice q m cq] 36 (0, 0))], [(D4, .deferred (some []))], [(l5, rc6 .ready none)], Y, [(b9, .cells (encChoice (chAt l m)).toArray 39 (0, 0))]] := hw
    refine sEnd ?_
    refine qAssign hrc7 hw 3 ?_
    clear hw; intro w hw
    replace hw : Own z w [s, [(b1, .cells #[.slice q m cq] 36 (0, 0))], [(D4, .deferred (some []))], [(l5, rc6 .busy none)], Y, [(b9, .cells (encChoice (chAt l m)).toArray 39 (0, 0))]] := hw
    refine cBlk ?_
    refine cReg 5 ?_
    refine SO ?_
    refine O_load tyOK hw 1 (b := b1) (off := 0) (v := .slice q m cq) ?_
    refine SO ?_
    refine O_load tyOK hw 5 (b := b9) (off := 0) (v := .agg ((encChoice (chAt l m)).toArray)) ?_
    refine SO ?_
    refine O_buildSlice tyOK hw (el := 39) ((encChoice (chAt l m)).toArray) ?_
    clear hw; intro b10 w hw
    replace hw : Own z w [s, [(b1, .cells #[.slice q m cq] 36 (0, 0))], [(D4, .deferred (some []))], [(l5, rc6 .busy none)], Y, [(b9, .cells (encChoice (chAt l m)).toArray 39 (0, 0))], [(b10, .cells (encChoice (chAt l m)).toArray 39 (0, 0))]] := hw
    refine SO ?_
    refine O_append tyOK hw 0 (enc := encChoice) (size := 3) (l := (chsN l m)) (ys := [chAt l m]) (n := m) (fun _ => rfl) (by intro x; simp [encChoice, Value.oneCell']) hsl (by simp [chsN_len]) (fun w hw => Src.all (c := 1) (enc := encChoice) (et := 39) (fr := (0, 0)) (l := [chAt l m]) (fun _ => rfl) (hw.blk 6 rfl)) (g := te39) (by show _ * 24 ≤ _; simp [chsN_len]; omega) ?_
    clear hw; intro p11 c12 s13 w hs' hw
    rw [chsN_succ] at hs'
    rw [show ((chsN l m) ++ [chAt l m]).length = m + 1 by simp [chsN_len]]
    replace hw : Own z w [s13, [(b1, .cells #[.slice q m cq] 36 (0, 0))], [(D4, .deferred (some []))], [(l5, rc6 .busy none)], Y, [(b9, .cells (encChoice (chAt l m)).toArray 39 (0, 0))], [(b10, .cells (encChoice (chAt l m)).toArray 39 (0, 0))]] := hw
    refine SO ?_
    refine O_store tyOK hw 1 (b := b1) (off := 0) (cs' := #[.slice p11 (m + 1) c12]) ?_
    clear hw; intro w hw
    replace hw : Own z w [s13, [(b1, .cells #[.slice p11 (m + 1) c12] 36 (0, 0))], [(D4, .deferred (some []))], [(l5, rc6 .busy none)], Y, [(b9, .cells (encChoice (chAt l m)).toArray 39 (0, 0))], [(b10, .cells (encChoice (chAt l m)).toArray 39 (0, 0))]] := hw
    refine sEnd ?_
    refine qBlk ?_
    refine qRnd hrc7 hw 3 ?_
    clear hw; intro w hw
    replace hw : Own z w [s13, [(b1, .cells #[.slice p11 (m + 1) c12] 36 (0, 0))], [(D4, .deferred (some []))], [(l5, rc6 .ready none)], Y, [(b9, .cells (encChoice (chAt l m)).toArray 39 (0, 0))], [(b10, .cells (encChoice (chAt l m)).toArray 39 (0, 0))]] := hw
    exact ⟨rfl, _, ⟨p11, c12, s13, hs', rfl⟩, Own.conv (ss := [s13, [(b1, .cells #[.slice p11 (m + 1) c12] 36 (0, 0))], [(D4, .deferred (some []))], [(l5, rc6 .ready none)], Y]) ((hw.pick [0, 1, 2, 3, 4, 5, 6] rfl).take 5) (by simp)⟩
  replace hw : Own z w [[] ++ ((b1, Obj.cells #[Value.slice none 0 0] 36 (0, 0)) :: [(D4, .deferred (some [])), (l5, rc6 .ready none)]), [(br, .cells #[.slice p l.length c] 35 (0, 0))], L] := Own.conv (hw.pick [2, 3, 4, 0, 1] rfl) (by simp [pick])
  refine Ret.mono (all1_c (St := (fun (m : Nat) (s' : HL) => ∃ q cq sq, Sl 39 3 encChoice q cq (chsN l m) sq ∧ s' = sq ++ ((b1, Obj.cells #[Value.slice q m cq] 36 (0, 0)) :: [(D4, .deferred (some [])), (l5, rc6 .ready none)]))) hn hc hrd hy2 ⟨none, 0, [], .nil, rfl⟩ hw) ?_
  clear hw; rintro _ w ⟨_, ⟨q, cq, s, hsl, rfl⟩, hw⟩
  replace hw : Own z w [s, [(b1, .cells #[.slice q ((l.length + 1) / 2) cq] 36 (0, 0))], [(D4, .deferred (some []))], [(l5, rc6 .ready none)], [(br, .cells #[.slice p l.length c] 35 (0, 0))], L] := hw.conv (by simp)
  refine ⟨3, [s, [(b1, .cells #[.slice q ((l.length + 1) / 2) cq] 36 (0, 0))], [(D4, .deferred (some []))], [(l5, rc6 .ready none)], [(br, .cells #[.slice p l.length c] 35 (0, 0))], L], .ready, none, rfl, rfl, hw, ?_⟩
  clear hw; intro w hw
  replace hw : Own z w [s, [(b1, .cells #[.slice q ((l.length + 1) / 2) cq] 36 (0, 0))], [(D4, .deferred (some []))], [(l5, rc6 .exhausted none)], [(br, .cells #[.slice p l.length c] 35 (0, 0))], L] := hw
  show QE _ _ _ _ _ _
  refine qBlk ?_
  refine qThen ?_
  refine cSeq ?_
  refine cReg 2 ?_
  refine SO ?_
  refine O_load tyOK hw 1 (b := b1) (off := 0) (v := .slice q ((l.length + 1) / 2) cq) ?_
  refine SP tyOK 0 1 1 [4] (env' := [(4, .slice q ((l.length + 1) / 2) cq)]) ?_
  refine sEnd ?_
  refine qThen ?_
  refine cRet ?_
  refine qRetM (rs := [.tmp 4]) [.slice q ((l.length + 1) / 2) cq] (.slice q ((l.length + 1) / 2) cq) hw 2 ?_
  clear hw; intro w hw
  replace hw : Own z w [s, [(b1, .cells #[.slice q ((l.length + 1) / 2) cq] 36 (0, 0))], [(D4, .deferred none)], [(l5, rc6 .exhausted none)], [(br, .cells #[.slice p l.length c] 35 (0, 0))], L] := hw
  refine ⟨⟨rT, trivial⟩, ?_⟩
  have he : chsN l ((l.length + 1) / 2) = chs l := rfl
  rw [he] at hsl
  exact ⟨q, cq, s, by rw [chs_len], hsl, ((hw.pick [0, 5, 1, 2, 3, 4] rfl).take 2)⟩

theorem collect_c {z w : World} {L : HL} {br : Nat} {p : Option Addr} {c : Nat} {l : List UInt8} (hn : l.length ≤ 4000) (hc : l.length ≤ c) (hrd : Rd L encB p l) (hw : Own z w [[(br, .cells #[.slice p l.length c] 35 (0, 0))], L]) :
    Ret Tryz.prog 33 #[.func (.func 64) #[] #[.pointer (some ⟨br, 0, none⟩)]] w (fun v w' => ∃ p' c' s', v = .slice p' (chs l).length c' ∧ Sl 39 3 encChoice p' c' (chs l) s' ∧ Own z w' [s', L]) := by
  refine enterE Tryz.ntmps33 Tryz.func33 (args := [.func (.func 64) #[] #[.pointer (some ⟨br, 0, none⟩)]]) ?_
  refine cSeq ?_
  refine cReg 1 ?_
  refine SP tyOK 0 1 0 [0] (env' := [(0, .func (.func 64) #[] #[.pointer (some ⟨br, 0, none⟩)])]) ?_
  refine sEnd ?_
  refine qThen ?_
  refine cSeq ?_
  refine cReg 3 ?_
  refine SP tyOK 2 1 0 [3] (env' := [(3, .func (.func 64) #[] #[.pointer (some ⟨br, 0, none⟩)])]) ?_
  refine SO ?_
  refine O_call (args := #[.slice none 0 0, .func (.func 64) #[] #[.pointer (some ⟨br, 0, none⟩)]]) Tryz.call63 (appseq_c (L := [L].flatten) hn hc (by simpa using hrd) (hw.cut [0, 1] 1 rfl)) ?_
  clear hw; rintro v w ⟨p1, c2, s3, rfl, hs4, hw⟩
  replace hw : Own z w [s3, L] := Own.open_ (ss := [s3]) hw
  refine SP tyOK 0 1 2 [2] (env' := [(2, .slice p1 ((chs l).length) c2)]) ?_
  refine sEnd ?_
  refine qThen ?_
  refine cRet ?_
  refine qRet (rs := [.tmp 2]) [.slice p1 ((chs l).length) c2] (.slice p1 ((chs l).length) c2) ⟨rT, trivial⟩ ?_
  exact ⟨p1, c2, s3, rfl, hs4, hw⟩

theorem all_c {z w : World} {L : HL} {p : Option Addr} {n c : Nat} (hw : Own z w [L]) :
    Ret Tryz.prog 34 #[.slice p n c] w (fun v w' => ∃ b, v = .func (.func 64) #[] #[.pointer (some ⟨b, 0, none⟩)] ∧ Own z w' [[(b, .cells #[.slice p n c] 35 (0, 0))], L]) := by
  refine enterE Tryz.ntmps34 Tryz.func34 (args := [.slice p n c]) ?_
  refine cSeq ?_
  refine cReg 2 ?_
  refine SO ?_
  refine O_box hw (v := .slice p n c) ?_
  clear hw; intro b1 w hw
  replace hw : Own z w [L, [(b1, .cells #[.slice p n c] 35 (0, 0))]] := hw
  refine SP tyOK 0 1 1 [1] (env' := [(1, .pointer (some ⟨b1, 0, none⟩))]) ?_
  refine sEnd ?_
  refine qThen ?_
  refine cSeq ?_
  refine cReg 2 ?_
  refine SP tyOK 0 2 0 [2] (env' := [(2, .func (.func 64) #[] #[.pointer (some ⟨b1, 0, none⟩)])]) ?_
  refine sEnd ?_
  refine qThen ?_
  refine cRet ?_
  refine qRet (rs := [.tmp 2]) [.func (.func 64) #[] #[.pointer (some ⟨b1, 0, none⟩)]] (.func (.func 64) #[] #[.pointer (some ⟨b1, 0, none⟩)]) ⟨rT, trivial⟩ ?_
  exact ⟨b1, rfl, ((hw.pick [1, 0] rfl).take 2)⟩

theorem choices_c {z w : World} {L : HL} {p : Option Addr} {c : Nat} {l : List UInt8} (hn : l.length ≤ 4000) (hc : l.length ≤ c) (hrd : Rd L encB p l) (hw : Own z w [L]) :
    Ret Tryz.prog 16 #[.slice p l.length c] w (fun v w' => ∃ p' c' s', v = .slice p' (chs l).length c' ∧ Sl 39 3 encChoice p' c' (chs l) s' ∧ Own z w' [s', L]) := by
  refine enterE Tryz.ntmps16 Tryz.func16 (args := [.slice p l.length c]) ?_
  refine cSeq ?_
  refine cReg 1 ?_
  refine SP tyOK 0 1 0 [0] (env' := [(0, .slice p l.length c)]) ?_
  refine sEnd ?_
  refine qThen ?_
  refine cSeq ?_
  refine cReg 4 ?_
  refine SP tyOK 3 1 0 [3] (env' := [(3, .slice p l.length c)]) ?_
  refine SO ?_
  refine O_call (args := #[.slice p l.length c]) Tryz.call34 (all_c (hw.cut [0] 0 rfl)) ?_
  clear hw; rintro v w ⟨b1, rfl, hw⟩
  replace hw : Own z w [[(b1, .cells #[.slice p l.length c] 35 (0, 0))], L] := Own.open_ (ss := [[(b1, .cells #[.slice p l.length c] 35 (0, 0))]]) hw
  refine SO ?_
  refine O_call (args := #[.func (.func 64) #[] #[.pointer (some ⟨b1, 0, none⟩)]]) Tryz.call33 (collect_c (L := [L].flatten) hn hc (by simpa using hrd) (hw.cut [0, 1] 1 rfl)) ?_
  clear hw; rintro v w ⟨p2, c3, s4, rfl, hs5, hw⟩
  replace hw : Own z w [s4, L] := Own.open_ (ss := [s4]) hw
  refine SP tyOK 0 1 3 [2] (env' := [(2, .slice p2 ((chs l).length) c3)]) ?_
  refine sEnd ?_
  refine qThen ?_
  refine cRet ?_
  refine qRet (rs := [.tmp 2]) [.slice p2 ((chs l).length) c3] (.slice p2 ((chs l).length) c3) ⟨rT, trivial⟩ ?_
  exact ⟨p2, c3, s4, rfl, hs5, hw⟩

end Go.SL