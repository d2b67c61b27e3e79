import Derived.Test.YtkfkfpgnapncaaaGreatDoorScJ3
set_option linter.unusedSimpArgs false
set_option linter.unusedVariables false
namespace Go.SL
open Go Go.RowKit Go.Proofs
open Go.EV (AggOK eqA spA)
set_option maxRecDepth 100000
set_option linter.unusedVariables false
set_option linter.unusedSimpArgs false
set_option maxHeartbeats 4000000

theorem ssame_c {z w : World} {L : HL} {et : TypeId} {pda pha pma : Option Addr} {cda cha cma : Nat} {lda : List Did} {lha : List Hart} {lma : List UInt8} {ra : Bool} {pdb phb pmb : Option Addr} {cdb chb cmb : Nat} {ldb : List Did} {lhb : List Hart} {lmb : List UInt8} {rb : Bool} (hda : Rd L encDid pda lda) (hha : Rd L encHart pha lha) (hma : Rd L encB pma lma) (nda : lda.length ≤ maxLen) (nha : lha.length ≤ maxLen) (nma : lma.length ≤ maxLen) (hdb : Rd L encDid pdb ldb) (hhb : Rd L encHart phb lhb) (hmb : Rd L encB pmb lmb) (ndb : ldb.length ≤ maxLen) (nhb : lhb.length ≤ maxLen) (nmb : lmb.length ≤ maxLen) (h0 : (0, Obj.cells spA et (0, 0)) ∈ L) (hw : Own z w [L]) :
    Ret Tryz.prog 8 #[.agg ((encRan (⟨(.slice pda lda.length cda), (.slice pha lha.length cha), (.slice pma lma.length cma), ra⟩)).toArray), .agg ((encRan (⟨(.slice pdb ldb.length cdb), (.slice phb lhb.length chb), (.slice pmb lmb.length cmb), rb⟩)).toArray)] w (fun v w' => v = .bool true ∧ Own z w' [L]) := by
  refine enterE Tryz.ntmps8 Tryz.func8 (args := [.agg ((encRan (⟨(.slice pda lda.length cda), (.slice pha lha.length cha), (.slice pma lma.length cma), ra⟩)).toArray), .agg ((encRan (⟨(.slice pdb ldb.length cdb), (.slice phb lhb.length chb), (.slice pmb lmb.length cmb), rb⟩)).toArray)]) ?_
  refine cSeq ?_
  refine cReg 3 ?_
  refine SO ?_
  refine O_box hw (v := .agg ((encRan (⟨(.slice pda lda.length cda), (.slice pha lha.length cha), (.slice pma lma.length cma), ra⟩)).toArray)) ?_
  clear hw; intro b1 w hw
  replace hw : Own z w [L, [(b1, .cells (encRan (⟨(.slice pda lda.length cda), (.slice pha lha.length cha), (.slice pma lma.length cma), ra⟩)).toArray 52 (0, 0))]] := hw
  refine SO ?_
  refine O_box hw (v := .agg ((encRan (⟨(.slice pdb ldb.length cdb), (.slice phb lhb.length chb), (.slice pmb lmb.length cmb), rb⟩)).toArray)) ?_
  clear hw; intro b2 w hw
  replace hw : Own z w [L, [(b1, .cells (encRan (⟨(.slice pda lda.length cda), (.slice pha lha.length cha), (.slice pma lma.length cma), ra⟩)).toArray 52 (0, 0))], [(b2, .cells (encRan (⟨(.slice pdb ldb.length cdb), (.slice phb lhb.length chb), (.slice pmb lmb.length cmb), rb⟩)).toArray 52 (0, 0))]] := hw
  refine SP tyOK 0 1 2 [2, 3] (env' := [(2, .pointer (some ⟨b1, 0, none⟩)), (3, .pointer (some ⟨b2, 0, none⟩))]) ?_
  refine sEnd ?_
  refine qThen ?_
  refine cSeq ?_
  refine cSeq ?_
  refine cReg 30 ?_
  refine SP tyOK 29 1 0 [2, 3, 5] (env' := [(2, .pointer (some ⟨b1, 0, none⟩)), (3, .pointer (some ⟨b2, 0, none⟩)), (5, .pointer (some ⟨b1, 0, none⟩))]) ?_
  refine SO ?_
  refine O_load tyOK hw 1 (b := b1) (off := 0) (v := .slice pda lda.length cda) ?_
  refine SP tyOK 26 2 2 [2, 3, 7, 8] (env' := [(2, .pointer (some ⟨b1, 0, none⟩)), (3, .pointer (some ⟨b2, 0, none⟩)), (7, .int .i64 ((lda.length : Nat) : Int)), (8, .pointer (some ⟨b1, 1, none⟩))]) ?_
  refine SO ?_
  refine O_load tyOK hw 1 (b := b1) (off := 1) (v := .slice pha lha.length cha) ?_
  refine SP tyOK 21 4 5 [2, 3, 13] (env' := [(2, .pointer (some ⟨b1, 0, none⟩)), (3, .pointer (some ⟨b2, 0, none⟩)), (13, .bool (decide ((IntKind.i64.wrap (((lda.length : Nat) : Int) + ((lha.length : Nat) : Int))) > 100)))]) ?_
  refine two (decide ((IntKind.i64.wrap (((lda.length : Nat) : Int) + ((lha.length : Nat) : Int))) > 100)) (fun hb3 => ?_) (fun hb3 => ?_)
  ·
    have hb3p : (IntKind.i64.wrap (((lda.length : Nat) : Int) + ((lha.length : Nat) : Int))) > 100 := of_decide_eq_true hb3
    refine setS 13 (.bool true) (congrArg Value.bool hb3) ?_
    refine SP tyOK 0 21 9 [2, 3, 34] (env' := [(2, .pointer (some ⟨b1, 0, none⟩)), (3, .pointer (some ⟨b2, 0, none⟩)), (34, .bool true)]) ?_
    refine sEnd ?_
    refine qThen ?_
    refine cT ?_
    refine cSeq ?_
    refine cReg 2 ?_
    refine SO ?_
    refine O_call (args := #[]) Tryz.call15 (works_c (L := ([L, [(b1, .cells (encRan (⟨(.slice pda lda.length cda), (.slice pha lha.length cha), (.slice pma lma.length cma), ra⟩)).toArray 52 (0, 0))], [(b2, .cells (encRan (⟨(.slice pdb ldb.length cdb), (.slice phb lhb.length chb), (.slice pmb lmb.length cmb), rb⟩)).toArray 52 (0, 0))]] : List HL).flatten) (et := et) (by simp [h0]) (hw.cut [0, 1, 2] 0 rfl)) ?_
    clear hw; rintro v w ⟨rfl, hw⟩
    replace hw : Own z w [L, [(b1, .cells (encRan (⟨(.slice pda lda.length cda), (.slice pha lha.length cha), (.slice pma lma.length cma), ra⟩)).toArray 52 (0, 0))], [(b2, .cells (encRan (⟨(.slice pdb ldb.length cdb), (.slice phb lhb.length chb), (.slice pmb lmb.length cmb), rb⟩)).toArray 52 (0, 0))]] := Own.open_ (ss := []) hw
    refine SP tyOK 0 1 1 [4] (env' := [(4, .bool true)]) ?_
    refine sEnd ?_
    refine qThen ?_
    refine cRet ?_
    refine qThenR ?_
    refine qRet (rs := [.tmp 4]) [.bool true] (.bool true) ⟨rT, trivial⟩ ?_
    exact ⟨by rfl, hw.take 1⟩
  ·
    have hb3p : ¬ ((IntKind.i64.wrap (((lda.length : Nat) : Int) + ((lha.length : Nat) : Int))) > 100) := of_decide_eq_false hb3
    refine setS 13 (.bool false) (congrArg Value.bool hb3) ?_
    refine SP tyOK 20 1 9 [2, 3, 13, 14] (env' := [(2, .pointer (some ⟨b1, 0, none⟩)), (3, .pointer (some ⟨b2, 0, none⟩)), (13, .bool false), (14, .pointer (some ⟨b2, 0, none⟩))]) ?_
    refine SO ?_
    refine O_load tyOK hw 2 (b := b2) (off := 0) (v := .slice pdb ldb.length cdb) ?_
    refine SP tyOK 17 2 11 [2, 3, 13, 16, 17] (env' := [(2, .pointer (some ⟨b1, 0, none⟩)), (3, .pointer (some ⟨b2, 0, none⟩)), (13, .bool false), (16, .int .i64 ((ldb.length : Nat) : Int)), (17, .pointer (some ⟨b2, 1, none⟩))]) ?_
    refine SO ?_
    refine O_load tyOK hw 2 (b := b2) (off := 1) (v := .slice phb lhb.length chb) ?_
    refine SP tyOK 11 5 14 [2, 3, 23] (env' := [(2, .pointer (some ⟨b1, 0, none⟩)), (3, .pointer (some ⟨b2, 0, none⟩)), (23, .bool (decide ((IntKind.i64.wrap (((ldb.length : Nat) : Int) + ((lhb.length : Nat) : Int))) > 100)))]) ?_
    refine two (decide ((IntKind.i64.wrap (((ldb.length : Nat) : Int) + ((lhb.length : Nat) : Int))) > 100)) (fun hb4 => ?_) (fun hb4 => ?_)
    ·
      have hb4p : (IntKind.i64.wrap (((ldb.length : Nat) : Int) + ((lhb.length : Nat) : Int))) > 100 := of_decide_eq_true hb4
      refine setS 23 (.bool true) (congrArg Value.bool hb4) ?_
      refine SP tyOK 0 11 19 [2, 3, 34] (env' := [(2, .pointer (some ⟨b1, 0, none⟩)), (3, .pointer (some ⟨b2, 0, none⟩)), (34, .bool true)]) ?_
      refine sEnd ?_
      refine qThen ?_
      refine cT ?_
      refine cSeq ?_
      refine cReg 2 ?_
      refine SO ?_
      refine O_call (args := #[]) Tryz.call15 (works_c (L := ([L, [(b1, .cells (encRan (⟨(.slice pda lda.length cda), (.slice pha lha.length cha), (.slice pma lma.length cma), ra⟩)).toArray 52 (0, 0))], [(b2, .cells (encRan (⟨(.slice pdb ldb.length cdb), (.slice phb lhb.length chb), (.slice pmb lmb.length cmb), rb⟩)).toArray 52 (0, 0))]] : List HL).flatten) (et := et) (by simp [h0]) (hw.cut [0, 1, 2] 0 rfl)) ?_
      clear hw; rintro v w ⟨rfl, hw⟩
      replace hw : Own z w [L, [(b1, .cells (encRan (⟨(.slice pda lda.length cda), (.slice pha lha.length cha), (.slice pma lma.length cma), ra⟩)).toArray 52 (0, 0))], [(b2, .cells (encRan (⟨(.slice pdb ldb.length cdb), (.slice phb lhb.length chb), (.slice pmb lmb.length cmb), rb⟩)).toArray 52 (0, 0))]] := Own.open_ (ss := []) hw
      refine SP tyOK 0 1 1 [4] (env' := [(4, .bool true)]) ?_
      refine sEnd ?_
      refine qThen ?_
      refine cRet ?_
      refine qThenR ?_
      refine qRet (rs := [.tmp 4]) [.bool true] (.bool true) ⟨rT, trivial⟩ ?_
      exact ⟨by rfl, hw.take 1⟩
    ·
      have hb4p : ¬ ((IntKind.i64.wrap (((ldb.length : Nat) : Int) + ((lhb.length : Nat) : Int))) > 100) := of_decide_eq_false hb4
      refine setS 23 (.bool false) (congrArg Value.bool hb4) ?_
      refine SP tyOK 10 1 19 [2, 3, 23, 24] (env' := [(2, .pointer (some ⟨b1, 0, none⟩)), (3, .pointer (some ⟨b2, 0, none⟩)), (23, .bool false), (24, .pointer (some ⟨b1, 2, none⟩))]) ?_
      refine SO ?_
      refine O_load tyOK hw 1 (b := b1) (off := 2) (v := .slice pma lma.length cma) ?_
      refine SP tyOK 5 4 21 [2, 3, 29] (env' := [(2, .pointer (some ⟨b1, 0, none⟩)), (3, .pointer (some ⟨b2, 0, none⟩)), (29, .bool (decide (((lma.length : Nat) : Int) > 5000)))]) ?_
      refine two (decide (((lma.length : Nat) : Int) > 5000)) (fun hb5 => ?_) (fun hb5 => ?_)
      ·
        have hb5p : ((lma.length : Nat) : Int) > 5000 := of_decide_eq_true hb5
        refine setS 29 (.bool true) (congrArg Value.bool hb5) ?_
        refine SP tyOK 0 5 25 [2, 3, 34] (env' := [(2, .pointer (some ⟨b1, 0, none⟩)), (3, .pointer (some ⟨b2, 0, none⟩)), (34, .bool true)]) ?_
        refine sEnd ?_
        refine qThen ?_
        refine cT ?_
        refine cSeq ?_
        refine cReg 2 ?_
        refine SO ?_
        refine O_call (args := #[]) Tryz.call15 (works_c (L := ([L, [(b1, .cells (encRan (⟨(.slice pda lda.length cda), (.slice pha lha.length cha), (.slice pma lma.length cma), ra⟩)).toArray 52 (0, 0))], [(b2, .cells (encRan (⟨(.slice pdb ldb.length cdb), (.slice phb lhb.length chb), (.slice pmb lmb.length cmb), rb⟩)).toArray 52 (0, 0))]] : List HL).flatten) (et := et) (by simp [h0]) (hw.cut [0, 1, 2] 0 rfl)) ?_
        clear hw; rintro v w ⟨rfl, hw⟩
        replace hw : Own z w [L, [(b1, .cells (encRan (⟨(.slice pda lda.length cda), (.slice pha lha.length cha), (.slice pma lma.length cma), ra⟩)).toArray 52 (0, 0))], [(b2, .cells (encRan (⟨(.slice pdb ldb.length cdb), (.slice phb lhb.length chb), (.slice pmb lmb.length cmb), rb⟩)).toArray 52 (0, 0))]] := Own.open_ (ss := []) hw
        refine SP tyOK 0 1 1 [4] (env' := [(4, .bool true)]) ?_
        refine sEnd ?_
        refine qThen ?_
        refine cRet ?_
        refine qThenR ?_
        refine qRet (rs := [.tmp 4]) [.bool true] (.bool true) ⟨rT, trivial⟩ ?_
        exact ⟨by rfl, hw.take 1⟩
      ·
        have hb5p : ¬ (((lma.length : Nat) : Int) > 5000) := of_decide_eq_false hb5
        refine setS 29 (.bool false) (congrArg Value.bool hb5) ?_
        refine SP tyOK 4 1 25 [2, 3, 29, 30] (env' := [(2, .pointer (some ⟨b1, 0, none⟩)), (3, .pointer (some ⟨b2, 0, none⟩)), (29, .bool false), (30, .pointer (some ⟨b2, 2, none⟩))]) ?_
        refine SO ?_
        refine O_load tyOK hw 2 (b := b2) (off := 2) (v := .slice pmb lmb.length cmb) ?_
        refine SP tyOK 0 3 27 [2, 3, 34] (env' := [(2, .pointer (some ⟨b1, 0, none⟩)), (3, .pointer (some ⟨b2, 0, none⟩)), (34, .bool (decide (((lmb.length : Nat) : Int) > 5000)))]) ?_
        refine sEnd ?_
        refine qThen ?_
        refine two (decide (((lmb.length : Nat) : Int) > 5000)) (fun hb6 => ?_) (fun hb6 => ?_)
        ·
          have hb6p : ((lmb.length : Nat) : Int) > 5000 := of_decide_eq_true hb6
          refine setC 34 (.bool true) (congrArg Value.bool hb6) ?_
          refine cT ?_
          refine cSeq ?_
          refine cReg 2 ?_
          refine SO ?_
          refine O_call (args := #[]) Tryz.call15 (works_c (L := ([L, [(b1, .cells (encRan (⟨(.slice pda lda.length cda), (.slice pha lha.length cha), (.slice pma lma.length cma), ra⟩)).toArray 52 (0, 0))], [(b2, .cells (encRan (⟨(.slice pdb ldb.length cdb), (.slice phb lhb.length chb), (.slice pmb lmb.length cmb), rb⟩)).toArray 52 (0, 0))]] : List HL).flatten) (et := et) (by simp [h0]) (hw.cut [0, 1, 2] 0 rfl)) ?_
          clear hw; rintro v w ⟨rfl, hw⟩
          replace hw : Own z w [L, [(b1, .cells (encRan (⟨(.slice pda lda.length cda), (.slice pha lha.length cha), (.slice pma lma.length cma), ra⟩)).toArray 52 (0, 0))], [(b2, .cells (encRan (⟨(.slice pdb ldb.length cdb), (.slice phb lhb.length chb), (.slice pmb lmb.length cmb), rb⟩)).toArray 52 (0, 0))]] := Own.open_ (ss := []) hw
          refine SP tyOK 0 1 1 [4] (env' := [(4, .bool true)]) ?_
          refine sEnd ?_
          refine qThen ?_
          refine cRet ?_
          refine qThenR ?_
          refine qRet (rs := [.tmp 4]) [.bool true] (.bool true) ⟨rT, trivial⟩ ?_
          exact ⟨by rfl, hw.take 1⟩
        ·
          have hb6p : ¬ (((lmb.length : Nat) : Int) > 5000) := of_decide_eq_false hb6
          refine setC 34 (.bool false) (congrArg Value.bool hb6) ?_
          refine cF ?_
          refine cSkip ?_
          refine qThen ?_
          refine cSeq ?_
          have hk7 : ((ranB lda lha lma ra ldb lhb lmb rb) == (ranB lda lha lma ra ldb lhb lmb rb)) = true := by simp
          have hk8 : (ranB lda lha lma ra lda lha lma ra) = true := ranB_self _ _ _ _
          refine noPan_of (cDraw (Has [(b1, .cells (encRan (⟨(.slice pda lda.length cda), (.slice pha lha.length cha), (.slice pma lma.length cma), ra⟩)).toArray 52 (0, 0)), (b2, .cells (encRan (⟨(.slice pdb ldb.length cdb), (.slice phb lhb.length chb), (.slice pmb lmb.length cmb), rb⟩)).toArray 52 (0, 0))]) 15 [.q 0, .q 1, .q 3, .q 4, .e 2, .e 5, .q 6, .q 7, .q 8, .q 9, .e 10, .q 11, .q 12, .e 13, .q 14, .e 15] hw mixed pdNo ?_)
          clear hw; intro w hw
          refine ML tyOK (has_cons (hw.blk 1 rfl) (has_cons (hw.blk 2 rfl) has_nil)) (b := b1) (off := 0) (v := .agg ((encRan (⟨(.slice pda lda.length cda), (.slice pha lha.length cha), (.slice pma lma.length cma), ra⟩)).toArray)) mem0 ?_
          refine ML tyOK (has_cons (hw.blk 1 rfl) (has_cons (hw.blk 2 rfl) has_nil)) (b := b2) (off := 0) (v := .agg ((encRan (⟨(.slice pdb ldb.length cdb), (.slice phb lhb.length chb), (.slice pmb lmb.length cmb), rb⟩)).toArray)) (memS mem0) ?_
          refine ML tyOK (has_cons (hw.blk 1 rfl) (has_cons (hw.blk 2 rfl) has_nil)) (b := b1) (off := 0) (v := .agg ((encRan (⟨(.slice pda lda.length cda), (.slice pha lha.length cha), (.slice pma lma.length cma), ra⟩)).toArray)) mem0 ?_
          refine ML tyOK (has_cons (hw.blk 1 rfl) (has_cons (hw.blk 2 rfl) has_nil)) (b := b2) (off := 0) (v := .agg ((encRan (⟨(.slice pdb ldb.length cdb), (.slice phb lhb.length chb), (.slice pmb lmb.length cmb), rb⟩)).toArray)) (memS mem0) ?_
          refine MO ?_
          refine O_call (args := #[.agg ((encRan (⟨(.slice pda lda.length cda), (.slice pha lha.length cha), (.slice pma lma.length cma), ra⟩)).toArray), .agg ((encRan (⟨(.slice pdb ldb.length cdb), (.slice phb lhb.length chb), (.slice pmb lmb.length cmb), rb⟩)).toArray)]) Tryz.call22 (psame_c (L := ([L, [(b1, .cells (encRan (⟨(.slice pda lda.length cda), (.slice pha lha.length cha), (.slice pma lma.length cma), ra⟩)).toArray 52 (0, 0))], [(b2, .cells (encRan (⟨(.slice pdb ldb.length cdb), (.slice phb lhb.length chb), (.slice pmb lmb.length cmb), rb⟩)).toArray 52 (0, 0))]] : List HL).flatten) (Rd.mono hda (fun x h => by simp [h])) (Rd.mono hha (fun x h => by simp [h])) (Rd.mono hma (fun x h => by simp [h])) nda nha nma (Rd.mono hdb (fun x h => by simp [h])) (Rd.mono hhb (fun x h => by simp [h])) (Rd.mono hmb (fun x h => by simp [h])) ndb nhb nmb (hw.cut [0, 1, 2] 0 rfl)) ?_
          clear hw; rintro v w ⟨rfl, hw⟩
          replace hw : Own z w [L, [(b1, .cells (encRan (⟨(.slice pda lda.length cda), (.slice pha lha.length cha), (.slice pma lma.length cma), ra⟩)).toArray 52 (0, 0))], [(b2, .cells (encRan (⟨(.slice pdb ldb.length cdb), (.slice phb lhb.length chb), (.slice pmb lmb.length cmb), rb⟩)).toArray 52 (0, 0))]] := Own.open_ (ss := []) hw
          refine ⟨fun _ => (has_cons (hw.blk 1 rfl) (has_cons (hw.blk 2 rfl) has_nil)), ?_⟩
          refine MO ?_
          refine O_call (args := #[.agg ((encRan (⟨(.slice pda lda.length cda), (.slice pha lha.length cha), (.slice pma lma.length cma), ra⟩)).toArray), .agg ((encRan (⟨(.slice pdb ldb.length cdb), (.slice phb lhb.length chb), (.slice pmb lmb.length cmb), rb⟩)).toArray)]) Tryz.call23 (lsame_c (L := ([L, [(b1, .cells (encRan (⟨(.slice pda lda.length cda), (.slice pha lha.length cha), (.slice pma lma.length cma), ra⟩)).toArray 52 (0, 0))], [(b2, .cells (encRan (⟨(.slice pdb ldb.length cdb), (.slice phb lhb.length chb), (.slice pmb lmb.length cmb), rb⟩)).toArray 52 (0, 0))]] : List HL).flatten) (Rd.mono hda (fun x h => by simp [h])) (Rd.mono hha (fun x h => by simp [h])) (Rd.mono hma (fun x h => by simp [h])) nda nha nma (Rd.mono hdb (fun x h => by simp [h])) (Rd.mono hhb (fun x h => by simp [h])) (Rd.mono hmb (fun x h => by simp [h])) ndb nhb nmb (hw.cut [0, 1, 2] 0 rfl)) ?_
          clear hw; rintro v w ⟨rfl, hw⟩
          replace hw : Own z w [L, [(b1, .cells (encRan (⟨(.slice pda lda.length cda), (.slice pha lha.length cha), (.slice pma lma.length cma), ra⟩)).toArray 52 (0, 0))], [(b2, .cells (encRan (⟨(.slice pdb ldb.length cdb), (.slice phb lhb.length chb), (.slice pmb lmb.length cmb), rb⟩)).toArray 52 (0, 0))]] := Own.open_ (ss := []) hw
          refine ⟨fun _ => (has_cons (hw.blk 1 rfl) (has_cons (hw.blk 2 rfl) has_nil)), ?_⟩
          refine MP (r := [.q 8, .q 9, .e 10, .q 11, .q 12, .e 13, .q 14, .e 15]) tyOK (has_cons (hw.blk 1 rfl) (has_cons (hw.blk 2 rfl) has_nil)) [6, 7] [2, 43] (env' := [(2, .pointer (some ⟨b1, 0, none⟩)), (43, .bool ((ranB lda lha lma ra ldb lhb lmb rb) == (ranB lda lha lma ra ldb lhb lmb rb)))]) ?_
          refine setM 43 (.bool true) (congrArg Value.bool hk7) ?_
          refine ML tyOK (has_cons (hw.blk 1 rfl) (has_cons (hw.blk 2 rfl) has_nil)) (b := b1) (off := 0) (v := .agg ((encRan (⟨(.slice pda lda.length cda), (.slice pha lha.length cha), (.slice pma lma.length cma), ra⟩)).toArray)) mem0 ?_
          refine ML tyOK (has_cons (hw.blk 1 rfl) (has_cons (hw.blk 2 rfl) has_nil)) (b := b1) (off := 0) (v := .agg ((encRan (⟨(.slice pda lda.length cda), (.slice pha lha.length cha), (.slice pma lma.length cma), ra⟩)).toArray)) mem0 ?_
          refine MO ?_
          refine O_call (args := #[.agg ((encRan (⟨(.slice pda lda.length cda), (.slice pha lha.length cha), (.slice pma lma.length cma), ra⟩)).toArray), .agg ((encRan (⟨(.slice pda lda.length cda), (.slice pha lha.length cha), (.slice pma lma.length cma), ra⟩)).toArray)]) Tryz.call22 (psame_c (L := ([L, [(b1, .cells (encRan (⟨(.slice pda lda.length cda), (.slice pha lha.length cha), (.slice pma lma.length cma), ra⟩)).toArray 52 (0, 0))], [(b2, .cells (encRan (⟨(.slice pdb ldb.length cdb), (.slice phb lhb.length chb), (.slice pmb lmb.length cmb), rb⟩)).toArray 52 (0, 0))]] : List HL).flatten) (Rd.mono hda (fun x h => by simp [h])) (Rd.mono hha (fun x h => by simp [h])) (Rd.mono hma (fun x h => by simp [h])) nda nha nma (Rd.mono hda (fun x h => by simp [h])) (Rd.mono hha (fun x h => by simp [h])) (Rd.mono hma (fun x h => by simp [h])) nda nha nma (hw.cut [0, 1, 2] 0 rfl)) ?_
          clear hw; rintro v w ⟨rfl, hw⟩
          replace hw : Own z w [L, [(b1, .cells (encRan (⟨(.slice pda lda.length cda), (.slice pha lha.length cha), (.slice pma lma.length cma), ra⟩)).toArray 52 (0, 0))], [(b2, .cells (encRan (⟨(.slice pdb ldb.length cdb), (.slice phb lhb.length chb), (.slice pmb lmb.length cmb), rb⟩)).toArray 52 (0, 0))]] := Own.open_ (ss := []) hw
          refine ⟨fun _ => (has_cons (hw.blk 1 rfl) (has_cons (hw.blk 2 rfl) has_nil)), ?_⟩
          refine MP (r := [.e 13, .q 14, .e 15]) tyOK (has_cons (hw.blk 1 rfl) (has_cons (hw.blk 2 rfl) has_nil)) [11, 12] [48] (env' := [(48, .bool (ranB lda lha lma ra lda lha lma ra))]) ?_
          refine setM 48 (.bool true) (congrArg Value.bool hk8) ?_
          refine MO ?_
          refine O_call (args := #[]) Tryz.call15 (works_c (L := ([L, [(b1, .cells (encRan (⟨(.slice pda lda.length cda), (.slice pha lha.length cha), (.slice pma lma.length cma), ra⟩)).toArray 52 (0, 0))], [(b2, .cells (encRan (⟨(.slice pdb ldb.length cdb), (.slice phb lhb.length chb), (.slice pmb lmb.length cmb), rb⟩)).toArray 52 (0, 0))]] : List HL).flatten) (et := et) (by simp [h0]) (hw.cut [0, 1, 2] 0 rfl)) ?_
          clear hw; rintro v w ⟨rfl, hw⟩
          replace hw : Own z w [L, [(b1, .cells (encRan (⟨(.slice pda lda.length cda), (.slice pha lha.length cha), (.slice pma lma.length cma), ra⟩)).toArray 52 (0, 0))], [(b2, .cells (encRan (⟨(.slice pdb ldb.length cdb), (.slice phb lhb.length chb), (.slice pmb lmb.length cmb), rb⟩)).toArray 52 (0, 0))]] := Own.open_ (ss := []) hw
          refine ⟨fun _ => (has_cons (hw.blk 1 rfl) (has_cons (hw.blk 2 rfl) has_nil)), ?_⟩
          refine MP (r := [.e 15]) tyOK (has_cons (hw.blk 1 rfl) (has_cons (hw.blk 2 rfl) has_nil)) [14] [50] (env' := [(50, .bool true)]) ?_
          refine MO ?_
          refine O_pure tyOK (.bool true) ?_
          refine ⟨fun h => absurd h (by decide), ?_⟩
          refine mEnd (qNo ?_)
          refine qThen ?_
          refine cRet ?_
          refine qRet (rs := [.tmp 4]) [.bool true] (.bool true) ⟨rT, trivial⟩ ?_
          exact ⟨by rfl, hw.take 1⟩

end Go.SL