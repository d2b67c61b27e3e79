import Derived.Test.YtkfkfpgnapncaaaGreatDoorScJ2
set_option linter.unusedSimpArgs false
set_option linter.unusedVariables false
namespace Go.SL
open Go Go.RowKit Go.Proofs
open Go.EV (AggOK eqA spA)
set_option maxRecDepth 100000
set_option linter.unusedVariables false
set_option linter.unusedSimpArgs false
set_option maxHeartbeats 4000000

theorem psame_c {z w : World} {L : HL} {pda pha pma : Option Addr} {cda cha cma : Nat} {lda : List Did} {lha : List Hart} {lma : List UInt8} {ra : Bool} {pdb phb pmb : Option Addr} {cdb chb cmb : Nat} {ldb : List Did} {lhb : List Hart} {lmb : List UInt8} {rb : Bool} (hda : Rd L encDid pda lda) (hha : Rd L encHart pha lha) (hma : Rd L encB pma lma) (nda : lda.length ≤ maxLen) (nha : lha.length ≤ maxLen) (nma : lma.length ≤ maxLen) (hdb : Rd L encDid pdb ldb) (hhb : Rd L encHart phb lhb) (hmb : Rd L encB pmb lmb) (ndb : ldb.length ≤ maxLen) (nhb : lhb.length ≤ maxLen) (nmb : lmb.length ≤ maxLen) (hw : Own z w [L]) :
    Ret Tryz.prog 22 #[.agg ((encRan (⟨(.slice pda lda.length cda), (.slice pha lha.length cha), (.slice pma lma.length cma), ra⟩)).toArray), .agg ((encRan (⟨(.slice pdb ldb.length cdb), (.slice phb lhb.length chb), (.slice pmb lmb.length cmb), rb⟩)).toArray)] w (fun v w' => v = .bool (ranB lda lha lma ra ldb lhb lmb rb) ∧ Own z w' [L]) := by
  refine enterE Tryz.ntmps22 Tryz.func22 (args := [.agg ((encRan (⟨(.slice pda lda.length cda), (.slice pha lha.length cha), (.slice pma lma.length cma), ra⟩)).toArray), .agg ((encRan (⟨(.slice pdb ldb.length cdb), (.slice phb lhb.length chb), (.slice pmb lmb.length cmb), rb⟩)).toArray)]) ?_
  refine cSeq ?_
  refine cReg 3 ?_
  refine SO ?_
  refine O_box hw (v := .agg ((encRan (⟨(.slice pda lda.length cda), (.slice pha lha.length cha), (.slice pma lma.length cma), ra⟩)).toArray)) ?_
  clear hw; intro b1 w hw
  replace hw : Own z w [L, [(b1, .cells (encRan (⟨(.slice pda lda.length cda), (.slice pha lha.length cha), (.slice pma lma.length cma), ra⟩)).toArray 52 (0, 0))]] := hw
  refine SO ?_
  refine O_box hw (v := .agg ((encRan (⟨(.slice pdb ldb.length cdb), (.slice phb lhb.length chb), (.slice pmb lmb.length cmb), rb⟩)).toArray)) ?_
  clear hw; intro b2 w hw
  replace hw : Own z w [L, [(b1, .cells (encRan (⟨(.slice pda lda.length cda), (.slice pha lha.length cha), (.slice pma lma.length cma), ra⟩)).toArray 52 (0, 0))], [(b2, .cells (encRan (⟨(.slice pdb ldb.length cdb), (.slice phb lhb.length chb), (.slice pmb lmb.length cmb), rb⟩)).toArray 52 (0, 0))]] := hw
  refine SP tyOK 0 1 2 [2, 3] (env' := [(2, .pointer (some ⟨b1, 0, none⟩)), (3, .pointer (some ⟨b2, 0, none⟩))]) ?_
  refine sEnd ?_
  refine qThen ?_
  refine cSeq ?_
  refine cReg 27 ?_
  refine SP tyOK 26 1 0 [2, 3, 5] (env' := [(2, .pointer (some ⟨b1, 0, none⟩)), (3, .pointer (some ⟨b2, 0, none⟩)), (5, .pointer (some ⟨b1, 0, none⟩))]) ?_
  refine SO ?_
  refine O_load tyOK hw 1 (b := b1) (off := 0) (v := .slice pda lda.length cda) ?_
  refine SP tyOK 24 1 2 [2, 3, 6, 7] (env' := [(2, .pointer (some ⟨b1, 0, none⟩)), (3, .pointer (some ⟨b2, 0, none⟩)), (6, .slice pda lda.length cda), (7, .pointer (some ⟨b2, 0, none⟩))]) ?_
  refine SO ?_
  refine O_load tyOK hw 2 (b := b2) (off := 0) (v := .slice pdb ldb.length cdb) ?_
  refine SO ?_
  refine O_call (args := #[.slice pda lda.length cda, .slice pdb ldb.length cdb]) Tryz.call37 (alDid_c (L := ([L, [(b1, .cells (encRan (⟨(.slice pda lda.length cda), (.slice pha lha.length cha), (.slice pma lma.length cma), ra⟩)).toArray 52 (0, 0))], [(b2, .cells (encRan (⟨(.slice pdb ldb.length cdb), (.slice phb lhb.length chb), (.slice pmb lmb.length cmb), rb⟩)).toArray 52 (0, 0))]] : List HL).flatten) (pa := pda) (ca := cda) (la := lda) (pb := pdb) (cb := cdb) (lb := ldb) (Rd.mono hda (fun x h => by simp [h])) (Rd.mono hdb (fun x h => by simp [h])) nda (hw.cut [0, 1, 2] 0 rfl)) ?_
  clear hw; rintro v w ⟨rfl, hw⟩
  replace hw : Own z w [L, [(b1, .cells (encRan (⟨(.slice pda lda.length cda), (.slice pha lha.length cha), (.slice pma lma.length cma), ra⟩)).toArray 52 (0, 0))], [(b2, .cells (encRan (⟨(.slice pdb ldb.length cdb), (.slice phb lhb.length chb), (.slice pmb lmb.length cmb), rb⟩)).toArray 52 (0, 0))]] := Own.open_ (ss := []) hw
  refine SP tyOK 21 1 5 [2, 3, 10] (env' := [(2, .pointer (some ⟨b1, 0, none⟩)), (3, .pointer (some ⟨b2, 0, none⟩)), (10, .bool (leq didB lda ldb))]) ?_
  refine two (leq didB lda ldb) (fun hb3 => ?_) (fun hb3 => ?_)
  ·
    refine setS 10 (.bool true) (congrArg Value.bool hb3) ?_
    refine SP tyOK 20 1 6 [2, 3, 10, 11] (env' := [(2, .pointer (some ⟨b1, 0, none⟩)), (3, .pointer (some ⟨b2, 0, none⟩)), (10, .bool true), (11, .pointer (some ⟨b1, 1, none⟩))]) ?_
    refine SO ?_
    refine O_load tyOK hw 1 (b := b1) (off := 1) (v := .slice pha lha.length cha) ?_
    refine SP tyOK 18 1 8 [2, 3, 10, 12, 13] (env' := [(2, .pointer (some ⟨b1, 0, none⟩)), (3, .pointer (some ⟨b2, 0, none⟩)), (10, .bool true), (12, .slice pha lha.length cha), (13, .pointer (some ⟨b2, 1, none⟩))]) ?_
    refine SO ?_
    refine O_load tyOK hw 2 (b := b2) (off := 1) (v := .slice phb lhb.length chb) ?_
    refine SO ?_
    refine O_call (args := #[.slice pha lha.length cha, .slice phb lhb.length chb]) Tryz.call38 (alHart_c (L := ([L, [(b1, .cells (encRan (⟨(.slice pda lda.length cda), (.slice pha lha.length cha), (.slice pma lma.length cma), ra⟩)).toArray 52 (0, 0))], [(b2, .cells (encRan (⟨(.slice pdb ldb.length cdb), (.slice phb lhb.length chb), (.slice pmb lmb.length cmb), rb⟩)).toArray 52 (0, 0))]] : List HL).flatten) (pa := pha) (ca := cha) (la := lha) (pb := phb) (cb := chb) (lb := lhb) (Rd.mono hha (fun x h => by simp [h])) (Rd.mono hhb (fun x h => by simp [h])) nha (hw.cut [0, 1, 2] 0 rfl)) ?_
    clear hw; rintro v w ⟨rfl, hw⟩
    replace hw : Own z w [L, [(b1, .cells (encRan (⟨(.slice pda lda.length cda), (.slice pha lha.length cha), (.slice pma lma.length cma), ra⟩)).toArray 52 (0, 0))], [(b2, .cells (encRan (⟨(.slice pdb ldb.length cdb), (.slice phb lhb.length chb), (.slice pmb lmb.length cmb), rb⟩)).toArray 52 (0, 0))]] := Own.open_ (ss := []) hw
    refine SP tyOK 14 2 11 [2, 3, 17] (env' := [(2, .pointer (some ⟨b1, 0, none⟩)), (3, .pointer (some ⟨b2, 0, none⟩)), (17, .bool (leq hartB lha lhb))]) ?_
    refine two (leq hartB lha lhb) (fun hb4 => ?_) (fun hb4 => ?_)
    ·
      refine setS 17 (.bool true) (congrArg Value.bool hb4) ?_
      refine SP tyOK 13 1 13 [2, 3, 17, 18] (env' := [(2, .pointer (some ⟨b1, 0, none⟩)), (3, .pointer (some ⟨b2, 0, none⟩)), (17, .bool true), (18, .pointer (some ⟨b1, 2, none⟩))]) ?_
      refine SO ?_
      refine O_load tyOK hw 1 (b := b1) (off := 2) (v := .slice pma lma.length cma) ?_
      refine SP tyOK 11 1 15 [2, 3, 17, 19, 20] (env' := [(2, .pointer (some ⟨b1, 0, none⟩)), (3, .pointer (some ⟨b2, 0, none⟩)), (17, .bool true), (19, .slice pma lma.length cma), (20, .pointer (some ⟨b2, 2, none⟩))]) ?_
      refine SO ?_
      refine O_load tyOK hw 2 (b := b2) (off := 2) (v := .slice pmb lmb.length cmb) ?_
      refine SO ?_
      refine O_call (args := #[.slice pma lma.length cma, .slice pmb lmb.length cmb]) Tryz.call39 (alByt_c (L := ([L, [(b1, .cells (encRan (⟨(.slice pda lda.length cda), (.slice pha lha.length cha), (.slice pma lma.length cma), ra⟩)).toArray 52 (0, 0))], [(b2, .cells (encRan (⟨(.slice pdb ldb.length cdb), (.slice phb lhb.length chb), (.slice pmb lmb.length cmb), rb⟩)).toArray 52 (0, 0))]] : List HL).flatten) (pa := pma) (ca := cma) (la := lma) (pb := pmb) (cb := cmb) (lb := lmb) (Rd.mono hma (fun x h => by simp [h])) (Rd.mono hmb (fun x h => by simp [h])) nma (hw.cut [0, 1, 2] 0 rfl)) ?_
      clear hw; rintro v w ⟨rfl, hw⟩
      replace hw : Own z w [L, [(b1, .cells (encRan (⟨(.slice pda lda.length cda), (.slice pha lha.length cha), (.slice pma lma.length cma), ra⟩)).toArray 52 (0, 0))], [(b2, .cells (encRan (⟨(.slice pdb ldb.length cdb), (.slice phb lhb.length chb), (.slice pmb lmb.length cmb), rb⟩)).toArray 52 (0, 0))]] := Own.open_ (ss := []) hw
      refine SP tyOK 7 2 18 [2, 3, 24] (env' := [(2, .pointer (some ⟨b1, 0, none⟩)), (3, .pointer (some ⟨b2, 0, none⟩)), (24, .bool (leq bytB lma lmb))]) ?_
      refine two (leq bytB lma lmb) (fun hb5 => ?_) (fun hb5 => ?_)
      ·
        refine setS 24 (.bool true) (congrArg Value.bool hb5) ?_
        refine SP tyOK 6 1 20 [3, 24, 25] (env' := [(3, .pointer (some ⟨b2, 0, none⟩)), (24, .bool true), (25, .pointer (some ⟨b1, 3, none⟩))]) ?_
        refine SO ?_
        refine O_load tyOK hw 1 (b := b1) (off := 3) (v := .bool ra) ?_
        refine SP tyOK 4 1 22 [24, 26, 27] (env' := [(24, .bool true), (26, .bool ra), (27, .pointer (some ⟨b2, 3, none⟩))]) ?_
        refine SO ?_
        refine O_load tyOK hw 2 (b := b2) (off := 3) (v := .bool rb) ?_
        refine SP tyOK 0 3 24 [4] (env' := [(4, .bool (ra == rb))]) ?_
        refine sEnd ?_
        refine qThen ?_
        refine cRet ?_
        refine qRet (rs := [.tmp 4]) [.bool (ra == rb)] (.bool (ra == rb)) ⟨rT, trivial⟩ ?_
        exact ⟨by simp [ranB, hb3, hb4, hb5], hw.take 1⟩
      ·
        refine setS 24 (.bool false) (congrArg Value.bool hb5) ?_
        refine SP tyOK 0 7 20 [4] (env' := [(4, .bool false)]) ?_
        refine sEnd ?_
        refine qThen ?_
        refine cRet ?_
        refine qRet (rs := [.tmp 4]) [.bool false] (.bool false) ⟨rT, trivial⟩ ?_
        exact ⟨by simp [ranB, hb3, hb4, hb5], hw.take 1⟩
    ·
      refine setS 17 (.bool false) (congrArg Value.bool hb4) ?_
      refine SP tyOK 0 14 13 [4] (env' := [(4, .bool false)]) ?_
      refine sEnd ?_
      refine qThen ?_
      refine cRet ?_
      refine qRet (rs := [.tmp 4]) [.bool false] (.bool false) ⟨rT, trivial⟩ ?_
      exact ⟨by simp [ranB, hb3, hb4], hw.take 1⟩
  ·
    refine setS 10 (.bool false) (congrArg Value.bool hb3) ?_
    refine SP tyOK 0 21 6 [4] (env' := [(4, .bool false)]) ?_
    refine sEnd ?_
    refine qThen ?_
    refine cRet ?_
    refine qRet (rs := [.tmp 4]) [.bool false] (.bool false) ⟨rT, trivial⟩ ?_
    exact ⟨by simp [ranB, hb3], hw.take 1⟩

theorem lsame_c {z w : World} {L : HL} {pda pha pma : Option Addr} {cda cha cma : Nat} {lda : List Did} {lha : List Hart} {lma : List UInt8} {ra : Bool} {pdb phb pmb : Option Addr} {cdb chb cmb : Nat} {ldb : List Did} {lhb : List Hart} {lmb : List UInt8} {rb : Bool} (hda : Rd L encDid pda lda) (hha : Rd L encHart pha lha) (hma : Rd L encB pma lma) (nda : lda.length ≤ maxLen) (nha : lha.length ≤ maxLen) (nma : lma.length ≤ maxLen) (hdb : Rd L encDid pdb ldb) (hhb : Rd L encHart phb lhb) (hmb : Rd L encB pmb lmb) (ndb : ldb.length ≤ maxLen) (nhb : lhb.length ≤ maxLen) (nmb : lmb.length ≤ maxLen) (hw : Own z w [L]) :
    Ret Tryz.prog 23 #[.agg ((encRan (⟨(.slice pda lda.length cda), (.slice pha lha.length cha), (.slice pma lma.length cma), ra⟩)).toArray), .agg ((encRan (⟨(.slice pdb ldb.length cdb), (.slice phb lhb.length chb), (.slice pmb lmb.length cmb), rb⟩)).toArray)] w (fun v w' => v = .bool (ranB lda lha lma ra ldb lhb lmb rb) ∧ Own z w' [L]) := by
  refine enterE Tryz.ntmps23 Tryz.func23 (args := [.agg ((encRan (⟨(.slice pda lda.length cda), (.slice pha lha.length cha), (.slice pma lma.length cma), ra⟩)).toArray), .agg ((encRan (⟨(.slice pdb ldb.length cdb), (.slice phb lhb.length chb), (.slice pmb lmb.length cmb), rb⟩)).toArray)]) ?_
  refine cSeq ?_
  refine cReg 3 ?_
  refine SO ?_
  refine O_box hw (v := .agg ((encRan (⟨(.slice pda lda.length cda), (.slice pha lha.length cha), (.slice pma lma.length cma), ra⟩)).toArray)) ?_
  clear hw; intro b1 w hw
  replace hw : Own z w [L, [(b1, .cells (encRan (⟨(.slice pda lda.length cda), (.slice pha lha.length cha), (.slice pma lma.length cma), ra⟩)).toArray 52 (0, 0))]] := hw
  refine SO ?_
  refine O_box hw (v := .agg ((encRan (⟨(.slice pdb ldb.length cdb), (.slice phb lhb.length chb), (.slice pmb lmb.length cmb), rb⟩)).toArray)) ?_
  clear hw; intro b2 w hw
  replace hw : Own z w [L, [(b1, .cells (encRan (⟨(.slice pda lda.length cda), (.slice pha lha.length cha), (.slice pma lma.length cma), ra⟩)).toArray 52 (0, 0))], [(b2, .cells (encRan (⟨(.slice pdb ldb.length cdb), (.slice phb lhb.length chb), (.slice pmb lmb.length cmb), rb⟩)).toArray 52 (0, 0))]] := hw
  refine SP tyOK 0 1 2 [2, 3] (env' := [(2, .pointer (some ⟨b1, 0, none⟩)), (3, .pointer (some ⟨b2, 0, none⟩))]) ?_
  refine sEnd ?_
  refine qThen ?_
  refine cSeq ?_
  refine cReg 29 ?_
  refine SP tyOK 28 1 0 [2, 3, 5] (env' := [(2, .pointer (some ⟨b1, 0, none⟩)), (3, .pointer (some ⟨b2, 0, none⟩)), (5, .pointer (some ⟨b1, 0, none⟩))]) ?_
  refine SO ?_
  refine O_load tyOK hw 1 (b := b1) (off := 0) (v := .slice pda lda.length cda) ?_
  refine SP tyOK 26 1 2 [2, 3, 6, 7] (env' := [(2, .pointer (some ⟨b1, 0, none⟩)), (3, .pointer (some ⟨b2, 0, none⟩)), (6, .slice pda lda.length cda), (7, .pointer (some ⟨b2, 0, none⟩))]) ?_
  refine SO ?_
  refine O_load tyOK hw 2 (b := b2) (off := 0) (v := .slice pdb ldb.length cdb) ?_
  refine SO ?_
  refine O_call (args := #[.slice pda lda.length cda, .slice pdb ldb.length cdb]) Tryz.call40 (dids_c (L := ([L, [(b1, .cells (encRan (⟨(.slice pda lda.length cda), (.slice pha lha.length cha), (.slice pma lma.length cma), ra⟩)).toArray 52 (0, 0))], [(b2, .cells (encRan (⟨(.slice pdb ldb.length cdb), (.slice phb lhb.length chb), (.slice pmb lmb.length cmb), rb⟩)).toArray 52 (0, 0))]] : List HL).flatten) (pa := pda) (ca := cda) (la := lda) (pb := pdb) (cb := cdb) (lb := ldb) (Rd.mono hda (fun x h => by simp [h])) (Rd.mono hdb (fun x h => by simp [h])) nda (hw.cut [0, 1, 2] 0 rfl)) ?_
  clear hw; rintro v w ⟨rfl, hw⟩
  replace hw : Own z w [L, [(b1, .cells (encRan (⟨(.slice pda lda.length cda), (.slice pha lha.length cha), (.slice pma lma.length cma), ra⟩)).toArray 52 (0, 0))], [(b2, .cells (encRan (⟨(.slice pdb ldb.length cdb), (.slice phb lhb.length chb), (.slice pmb lmb.length cmb), rb⟩)).toArray 52 (0, 0))]] := Own.open_ (ss := []) hw
  refine SP tyOK 23 1 5 [2, 3, 10] (env' := [(2, .pointer (some ⟨b1, 0, none⟩)), (3, .pointer (some ⟨b2, 0, none⟩)), (10, .bool (leq didB lda ldb))]) ?_
  refine two (leq didB lda ldb) (fun hb3 => ?_) (fun hb3 => ?_)
  ·
    refine setS 10 (.bool true) (congrArg Value.bool hb3) ?_
    refine SP tyOK 22 1 6 [2, 3, 10, 11] (env' := [(2, .pointer (some ⟨b1, 0, none⟩)), (3, .pointer (some ⟨b2, 0, none⟩)), (10, .bool true), (11, .pointer (some ⟨b1, 1, none⟩))]) ?_
    refine SO ?_
    refine O_load tyOK hw 1 (b := b1) (off := 1) (v := .slice pha lha.length cha) ?_
    refine SP tyOK 20 1 8 [2, 3, 10, 12, 13] (env' := [(2, .pointer (some ⟨b1, 0, none⟩)), (3, .pointer (some ⟨b2, 0, none⟩)), (10, .bool true), (12, .slice pha lha.length cha), (13, .pointer (some ⟨b2, 1, none⟩))]) ?_
    refine SO ?_
    refine O_load tyOK hw 2 (b := b2) (off := 1) (v := .slice phb lhb.length chb) ?_
    refine SO ?_
    refine O_call (args := #[.slice pha lha.length cha, .slice phb lhb.length chb]) Tryz.call41 (harts_c (L := ([L, [(b1, .cells (encRan (⟨(.slice pda lda.length cda), (.slice pha lha.length cha), (.slice pma lma.length cma), ra⟩)).toArray 52 (0, 0))], [(b2, .cells (encRan (⟨(.slice pdb ldb.length cdb), (.slice phb lhb.length chb), (.slice pmb lmb.length cmb), rb⟩)).toArray 52 (0, 0))]] : List HL).flatten) (pa := pha) (ca := cha) (la := lha) (pb := phb) (cb := chb) (lb := lhb) (Rd.mono hha (fun x h => by simp [h])) (Rd.mono hhb (fun x h => by simp [h])) nha (hw.cut [0, 1, 2] 0 rfl)) ?_
    clear hw; rintro v w ⟨rfl, hw⟩
    replace hw : Own z w [L, [(b1, .cells (encRan (⟨(.slice pda lda.length cda), (.slice pha lha.length cha), (.slice pma lma.length cma), ra⟩)).toArray 52 (0, 0))], [(b2, .cells (encRan (⟨(.slice pdb ldb.length cdb), (.slice phb lhb.length chb), (.slice pmb lmb.length cmb), rb⟩)).toArray 52 (0, 0))]] := Own.open_ (ss := []) hw
    refine SP tyOK 16 2 11 [2, 3, 17] (env' := [(2, .pointer (some ⟨b1, 0, none⟩)), (3, .pointer (some ⟨b2, 0, none⟩)), (17, .bool (leq hartB lha lhb))]) ?_
    refine two (leq hartB lha lhb) (fun hb4 => ?_) (fun hb4 => ?_)
    ·
      refine setS 17 (.bool true) (congrArg Value.bool hb4) ?_
      refine SP tyOK 15 1 13 [2, 3, 17, 18] (env' := [(2, .pointer (some ⟨b1, 0, none⟩)), (3, .pointer (some ⟨b2, 0, none⟩)), (17, .bool true), (18, .pointer (some ⟨b1, 2, none⟩))]) ?_
      refine SO ?_
      refine O_load tyOK hw 1 (b := b1) (off := 2) (v := .slice pma lma.length cma) ?_
      refine SO ?_
      refine O_toStr tyOK lma (Src.rd (c := cma) (fun _ => rfl) hma (hw.mem (i := 0) rfl)) ?_
      refine SP tyOK 12 1 16 [2, 3, 17, 20, 21] (env' := [(2, .pointer (some ⟨b1, 0, none⟩)), (3, .pointer (some ⟨b2, 0, none⟩)), (17, .bool true), (20, .string (bstr lma)), (21, .pointer (some ⟨b2, 2, none⟩))]) ?_
      refine SO ?_
      refine O_load tyOK hw 2 (b := b2) (off := 2) (v := .slice pmb lmb.length cmb) ?_
      refine SO ?_
      refine O_toStr tyOK lmb (Src.rd (c := cmb) (fun _ => rfl) hmb (hw.mem (i := 0) rfl)) ?_
      refine SO ?_
      refine O_strEq (s1 := bstr lma) (s2 := bstr lmb) ?_
      refine setS 24 (.bool (leq bytB lma lmb)) (congrArg Value.bool (bstr_leq _ _)) ?_
      refine SP tyOK 7 2 20 [2, 3, 26] (env' := [(2, .pointer (some ⟨b1, 0, none⟩)), (3, .pointer (some ⟨b2, 0, none⟩)), (26, .bool (leq bytB lma lmb))]) ?_
      refine two (leq bytB lma lmb) (fun hb5 => ?_) (fun hb5 => ?_)
      ·
        refine setS 26 (.bool true) (congrArg Value.bool hb5) ?_
        refine SP tyOK 6 1 22 [3, 26, 27] (env' := [(3, .pointer (some ⟨b2, 0, none⟩)), (26, .bool true), (27, .pointer (some ⟨b1, 3, none⟩))]) ?_
        refine SO ?_
        refine O_load tyOK hw 1 (b := b1) (off := 3) (v := .bool ra) ?_
        refine SP tyOK 4 1 24 [26, 28, 29] (env' := [(26, .bool true), (28, .bool ra), (29, .pointer (some ⟨b2, 3, none⟩))]) ?_
        refine SO ?_
        refine O_load tyOK hw 2 (b := b2) (off := 3) (v := .bool rb) ?_
        refine SP tyOK 0 3 26 [4] (env' := [(4, .bool (ra == rb))]) ?_
        refine sEnd ?_
        refine qThen ?_
        refine cRet ?_
        refine qRet (rs := [.tmp 4]) [.bool (ra == rb)] (.bool (ra == rb)) ⟨rT, trivial⟩ ?_
        exact ⟨by simp [ranB, hb3, hb4, hb5], hw.take 1⟩
      ·
        refine setS 26 (.bool false) (congrArg Value.bool hb5) ?_
        refine SP tyOK 0 7 22 [4] (env' := [(4, .bool false)]) ?_
        refine sEnd ?_
        refine qThen ?_
        refine cRet ?_
        refine qRet (rs := [.tmp 4]) [.bool false] (.bool false) ⟨rT, trivial⟩ ?_
        exact ⟨by simp [ranB, hb3, hb4, hb5], hw.take 1⟩
    ·
      refine setS 17 (.bool false) (congrArg Value.bool hb4) ?_
      refine SP tyOK 0 16 13 [4] (env' := [(4, .bool false)]) ?_
      refine sEnd ?_
      refine qThen ?_
      refine cRet ?_
      refine qRet (rs := [.tmp 4]) [.bool false] (.bool false) ⟨rT, trivial⟩ ?_
      exact ⟨by simp [ranB, hb3, hb4], hw.take 1⟩
  ·
    refine setS 10 (.bool false) (congrArg Value.bool hb3) ?_
    refine SP tyOK 0 23 6 [4] (env' := [(4, .bool false)]) ?_
    refine sEnd ?_
    refine qThen ?_
    refine cRet ?_
    refine qRet (rs := [.tmp 4]) [.bool false] (.bool false) ⟨rT, trivial⟩ ?_
    exact ⟨by simp [ranB, hb3], hw.take 1⟩

end Go.SL