import Derived.Test.YtkfkfpgnapncaaaGreatDoorEvSt
set_option linter.unusedSimpArgs false
set_option linter.unusedVariables false
namespace Go.SL
open Go Go.RowKit Go.Proofs
open Go.EV (AggOK eqA spA)
set_option maxRecDepth 100000
set_option linter.unusedVariables false
set_option linter.unusedSimpArgs false

theorem num_c {z w : World} {L : HL} {n : Int} (hw : Own z w [L]) :
    Ret Tryz.prog 21 #[.int .i64 n] w (fun v w' => v = .int .i64 n ∧ Own z w' [L]) := by
  refine enterE Tryz.ntmps21 Tryz.func21 (args := [.int .i64 n]) ?_
  refine cSeq ?_
  refine cReg 1 ?_
  refine SP tyOK 0 1 0 [0] (env' := [(0, .int .i64 n)]) ?_
  refine sEnd ?_
  refine qThen ?_
  refine cSeq ?_
  refine cReg 2 ?_
  refine SP tyOK 0 2 0 [2] (env' := [(2, .int .i64 n)]) ?_
  refine sEnd ?_
  refine qThen ?_
  refine cRet ?_
  refine qRet (rs := [.tmp 2]) [.int .i64 n] (.int .i64 n) ⟨rT, trivial⟩ ?_
  exact ⟨rfl, hw⟩

theorem tells_c {z w : World} {L : HL} {x : Choice} {et : TypeId} (h0 : (0, Obj.cells spA et (0, 0)) ∈ L) (hw : Own z w [L]) :
    Ret Tryz.prog 7 #[.agg (encChoice x).toArray] w (fun v w' => v = .bool true ∧ Own z w' [L]) := by
  refine enterE Tryz.ntmps7 Tryz.func7 (args := [.agg ((encChoice x).toArray)]) ?_
  refine cSeq ?_
  refine cReg 2 ?_
  refine SO ?_
  refine O_box hw (v := .agg ((encChoice x).toArray)) ?_
  clear hw; intro b1 w hw
  replace hw : Own z w [L, [(b1, .cells (encChoice x).toArray 39 (0, 0))]] := hw
  refine SP tyOK 0 1 1 [1] (env' := [(1, .pointer (some ⟨b1, 0, none⟩))]) ?_
  refine sEnd ?_
  refine qThen ?_
  refine cSeq ?_
  refine cReg 8 ?_
  refine SO ?_
  refine O_load tyOK hw 1 (b := b1) (off := 0) (v := .agg ((encChoice x).toArray)) ?_
  refine SO ?_
  refine O_buildSlice tyOK hw (el := 39) ((encChoice x).toArray) ?_
  clear hw; intro b2 w hw
  replace hw : Own z w [L, [(b1, .cells (encChoice x).toArray 39 (0, 0))], [(b2, .cells (encChoice x).toArray 39 (0, 0))]] := hw
  refine SO ?_
  refine O_call (args := #[.slice (some ⟨b2, 0, none⟩) 1 1]) Tryz.call17 (raw_c (L := [L, [(b1, .cells (encChoice x).toArray 39 (0, 0))], [(b2, .cells (encChoice x).toArray 39 (0, 0))]].flatten) (p := some ⟨b2, 0, none⟩) (c := 1) (l := [x]) (rd_own (L := [L, [(b1, .cells (encChoice x).toArray 39 (0, 0))], [(b2, .cells (encChoice x).toArray 39 (0, 0))]].flatten) (enc := encChoice) (l := [x]) (show (b2, Obj.cells (encChoice x).toArray 39 (0, 0)) ∈ [L, [(b1, .cells (encChoice x).toArray 39 (0, 0))], [(b2, .cells (encChoice x).toArray 39 (0, 0))]].flatten from by simp) (by rfl)) (by simp) (hw.cut [0, 1, 2] 0 rfl)) ?_
  clear hw; rintro v w ⟨p3, c4, s5, rfl, hs6, hw⟩
  replace hw : Own z w [s5, L, [(b1, .cells (encChoice x).toArray 39 (0, 0))], [(b2, .cells (encChoice x).toArray 39 (0, 0))]] := Own.open_ (ss := [s5]) hw
  refine SP tyOK 0 5 3 [1, 3, 4] (env' := [(1, .pointer (some ⟨b1, 0, none⟩)), (3, .slice p3 ((rawR [x]).length) c4), (4, .int .i64 (errR [x]))]) ?_
  refine sEnd ?_
  refine qThen ?_
  refine cSeq ?_
  refine cReg 8 ?_
  refine SO ?_
  refine O_load tyOK hw 2 (b := b1) (off := 0) (v := .agg ((encChoice x).toArray)) ?_
  refine SO ?_
  refine O_buildSlice tyOK hw (el := 39) ((encChoice x).toArray) ?_
  clear hw; intro b7 w hw
  replace hw : Own z w [s5, L, [(b1, .cells (encChoice x).toArray 39 (0, 0))], [(b2, .cells (encChoice x).toArray 39 (0, 0))], [(b7, .cells (encChoice x).toArray 39 (0, 0))]] := hw
  refine SO ?_
  refine O_call (args := #[.slice (some ⟨b7, 0, none⟩) 1 1]) Tryz.call18 (rraw_c (L := [s5, L, [(b1, .cells (encChoice x).toArray 39 (0, 0))], [(b2, .cells (encChoice x).toArray 39 (0, 0))], [(b7, .cells (encChoice x).toArray 39 (0, 0))]].flatten) (p := some ⟨b7, 0, none⟩) (c := 1) (l := [x]) (rd_own (L := [s5, L, [(b1, .cells (encChoice x).toArray 39 (0, 0))], [(b2, .cells (encChoice x).toArray 39 (0, 0))], [(b7, .cells (encChoice x).toArray 39 (0, 0))]].flatten) (enc := encChoice) (l := [x]) (show (b7, Obj.cells (encChoice x).toArray 39 (0, 0)) ∈ [s5, L, [(b1, .cells (encChoice x).toArray 39 (0, 0))], [(b2, .cells (encChoice x).toArray 39 (0, 0))], [(b7, .cells (encChoice x).toArray 39 (0, 0))]].flatten from by simp) (by rfl)) (by simp) (hw.cut [0, 1, 2, 3, 4] 0 rfl)) ?_
  clear hw; rintro v w ⟨p8, c9, s10, rfl, hs11, hw⟩
  replace hw : Own z w [s10, s5, L, [(b1, .cells (encChoice x).toArray 39 (0, 0))], [(b2, .cells (encChoice x).toArray 39 (0, 0))], [(b7, .cells (encChoice x).toArray 39 (0, 0))]] := Own.open_ (ss := [s10]) hw
  refine SP tyOK 0 5 3 [3, 4, 5, 6] (env' := [(3, .slice p3 ((rawR [x]).length) c4), (4, .int .i64 (errR [x])), (5, .slice p8 ((rawR [x]).length) c9), (6, .int .i64 (errR [x]))]) ?_
  refine sEnd ?_
  refine qThen ?_
  refine cSeq ?_
  have hE : ((bstr (rawR [x])).toList == (bstr (rawR [x])).toList) = true := bstr_self _
  have hF : ((errR [x]) == (errR [x])) = true := by simp
  refine cReg 15 ?_
  refine SP tyOK 14 1 0 [4, 5, 6, 19] (env' := [(4, .int .i64 (errR [x])), (5, .slice p8 ((rawR [x]).length) c9), (6, .int .i64 (errR [x])), (19, .slice p3 ((rawR [x]).length) c4)]) ?_
  refine SO ?_
  refine O_toStr tyOK (rawR [x]) (Src.rd (c := c4) (fun _ => rfl) (Rd.of_sl hs6) (hw.mem (i := 1) rfl)) ?_
  refine SP tyOK 12 1 2 [4, 6, 20, 21] (env' := [(4, .int .i64 (errR [x])), (6, .int .i64 (errR [x])), (20, .string (bstr (rawR [x]))), (21, .slice p8 ((rawR [x]).length) c9)]) ?_
  refine SO ?_
  refine O_toStr tyOK (rawR [x]) (Src.rd (c := c9) (fun _ => rfl) (Rd.of_sl hs11) (hw.mem (i := 0) rfl)) ?_
  refine SO ?_
  refine O_strEq (s1 := bstr (rawR [x])) (s2 := bstr (rawR [x])) ?_
  refine SP tyOK 9 1 5 [4, 6, 24] (env' := [(4, .int .i64 (errR [x])), (6, .int .i64 (errR [x])), (24, .bool ((bstr (rawR [x])).toList == (bstr (rawR [x])).toList))]) ?_
  refine setS 24 (.bool true) (congrArg Value.bool hE) ?_
  refine SP tyOK 8 1 6 [6, 24, 25] (env' := [(6, .int .i64 (errR [x])), (24, .bool true), (25, .int .i64 (errR [x]))]) ?_
  refine SO ?_
  refine O_call (args := #[.int .i64 (errR [x])]) Tryz.call21 (num_c (n := errR [x]) (hw.cut [0, 1, 2, 3, 4, 5] 0 rfl) ) ?_
  clear hw; rintro v w ⟨rfl, hw⟩
  replace hw : Own z w [s10, s5, L, [(b1, .cells (encChoice x).toArray 39 (0, 0))], [(b2, .cells (encChoice x).toArray 39 (0, 0))], [(b7, .cells (encChoice x).toArray 39 (0, 0))]] := Own.open_ (ss := []) hw
  refine SP tyOK 3 4 8 [30] (env' := [(30, .bool ((errR [x]) == (errR [x])))]) ?_
  refine setS 30 (.bool true) (congrArg Value.bool hF) ?_
  refine SO ?_
  refine O_call (args := #[]) Tryz.call15 (works_c (L := [s10, s5, L, [(b1, .cells (encChoice x).toArray 39 (0, 0))], [(b2, .cells (encChoice x).toArray 39 (0, 0))], [(b7, .cells (encChoice x).toArray 39 (0, 0))]].flatten) (et := et) (by simp [h0]) (hw.cut [0, 1, 2, 3, 4, 5] 0 rfl)) ?_
  clear hw; rintro v w ⟨rfl, hw⟩
  replace hw : Own z w [s10, s5, L, [(b1, .cells (encChoice x).toArray 39 (0, 0))], [(b2, .cells (encChoice x).toArray 39 (0, 0))], [(b7, .cells (encChoice x).toArray 39 (0, 0))]] := Own.open_ (ss := []) hw
  refine SP tyOK 0 2 13 [2] (env' := [(2, .bool true)]) ?_
  refine sEnd ?_
  refine qThen ?_
  refine cRet ?_
  refine qRet (rs := [.tmp 2]) [.bool true] (.bool true) ⟨rT, trivial⟩ ?_
  exact ⟨by simp, ((hw.pick [2, 0, 1, 3, 4, 5] rfl).take 1)⟩

end Go.SL