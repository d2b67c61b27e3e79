import Derived.Test.YtkfkfpgnapncaaaGreatDoorEvRk
import Derived.Test.YtkfkfpgnapncaaaGreatDoorScP
import Derived.Test.YtkfkfpgnapncaaaGreatDoorCards
import Derived.Stop.Joined
set_option linter.unusedSimpArgs false
set_option linter.unusedVariables false
/-! What the rows have in common: arguments opened, the close behind a call that keeps all memory. -/
namespace Go.Proofs.YtkfkfpgnapncaaaGreatDoor
open Go.ChangeShapes Go.WideShapes Go.ChangeAt Go.RowKit Go.SL Go.EV

set_option maxRecDepth 100000

theorem ownOk : ownKnob Tryz.prog.godebug = Option.none := by kernel_rfl
theorem and2 {a b : Bool} (ha : a = true) (hb : b = true) : (a && b) = true := by rw [ha, hb]; rfl
theorem kidsT : Kids Tryz.prog (· < Tryz.prog.types.size) := kids_rows (by kernel_rfl) (by kernel_rfl)
theorem slicesT : ∀ t e, t < Tryz.prog.types.size → Tryz.prog.underlying t = some (.slice e) → 0 < Tryz.prog.cellsOf e := slices_full_of Tryz.prog (by kernel_rfl)
theorem cells1 : Tryz.prog.cellsOf 5 = 1 ∧ Tryz.prog.cellsOf 3 = 1 ∧ Tryz.prog.cellsOf 37 = 1 ∧ Tryz.prog.cellsOf 39 = 3 := ⟨by kernel_rfl, by kernel_rfl, by kernel_rfl, by kernel_rfl⟩

section
variable {H : Type} {enc : TypeId × Value → H} {W : World} {base : Nat} {sp : Nat → Bool} {held : Bool}
theorem open_byte {n : Nat} {cs : List Value} {x : DataW H × List MemPlace} (h : DataW.trod enc Tryz.prog W base sp held n 5 cs = some x) : ∃ y : UInt8, cs = encB y ∧ True := by
  obtain ⟨k, rfl, _, hw⟩ := DataW.trod_int Tryz.underlying5 h
  obtain ⟨h0, h1⟩ := bounds_u8 hw
  refine ⟨UInt8.ofNat k.toNat, ?_, trivial⟩
  rw [encB, u8_of (by omega)]
  congr 2
  omega
theorem open_choice {n : Nat} {cs : List Value} {x : DataW H × List MemPlace} (h : DataW.trod enc Tryz.prog W base sp held n 39 cs = some x) : ∃ y : Choice, cs = encChoice y ∧ True := by
  obtain ⟨xs, m, _, _, hlen, hn, hf⟩ := DataW.trod_struct Tryz.underlying39 h
  obtain ⟨_, c3, c37, c39⟩ := cells1
  rw [c39] at hlen
  have f0 : DataW.trod enc Tryz.prog W base sp held m 37 ((cs.drop 0).take (Tryz.prog.cellsOf 37)) = xs[0]? := hf 0 _ rfl
  have f1 : DataW.trod enc Tryz.prog W base sp held m 3 ((cs.drop 1).take (Tryz.prog.cellsOf 3)) = xs[1]? := hf 1 _ rfl
  have f2 : DataW.trod enc Tryz.prog W base sp held m 3 ((cs.drop 2).take (Tryz.prog.cellsOf 3)) = xs[2]? := hf 2 _ rfl
  rw [c37] at f0
  rw [c3] at f1 f2
  have hx : xs.length = 3 := hn
  rw [List.getElem?_eq_getElem (by omega)] at f0 f1 f2
  obtain ⟨a, e0, _, _⟩ := DataW.trod_int Tryz.underlying37 f0
  obtain ⟨b, e1, _, _⟩ := DataW.trod_int Tryz.underlying3 f1
  obtain ⟨c, e2, _, _⟩ := DataW.trod_int Tryz.underlying3 f2
  match cs, hlen with
  | [u0, u1, u2], _ =>
    simp only [List.drop_succ_cons, List.drop_zero, List.take_succ_cons, List.take_zero, List.cons.injEq, and_true] at e0 e1 e2
    subst e0; subst e1; subst e2
    exact ⟨⟨a, b, c⟩, rfl, trivial⟩
end

theorem done {H : Type} {enc : TypeId × Value → H} {f : Func} {s : ChangeSpec} {apart fresh handsOn again : Bool} {W : World} {args : Array Value} {n : FuncId} {ds gs : List (DataW H)} {before pa : List MemPlace}
    (hW : DataW.Whole enc Tryz.prog f.params.toList s.vars apart W args.toList ds gs before) (hgs : DataW.TrodVars enc Tryz.prog W (fun _ => true) s.vars gs [])
    (hA : DataW.TrodAll enc Tryz.prog W 0 (fun _ => true) true f.params.toList args.toList ds pa) (hb : before = pa ++ [])
    (hT : ∀ t ∈ f.params.toList, t < Tryz.prog.types.size)
    (hargs : (s.fn H (ds ++ gs)).args = ds) (hvs : s.vars = []) (hgv : (s.fn H (ds ++ gs)).vars = [])
    (hr : f.resultTypes = #[4]) (hres : (s.fn H (ds ++ gs)).results = [.lit (.bool true)])
    (hc : Ret Tryz.prog n args W (fun v w' => v = .bool true ∧ Own W w' [blocks W])) :
    Calls Tryz.prog n args W (fun e w' => ∃ v, e = .returned v ∧ s.post enc Tryz.prog f apart fresh handsOn again W args v w') := by
  refine Calls.mono hc fun e W' ⟨v, he, hv, hO⟩ => ⟨v, he, ?_⟩
  subst hv
  have hk := kept_of_own hO (i := 0) rfl
  refine post_of_kept (pa := pa) (pv := []) hW hk (fun b sp hd => ?_) (fun sp hsp => ?_) (fun sp _ => ?_) hb ?_
  · rw [hr, hres]; exact trodAll_mk1 (shut_bool Tryz.underlying4 _)
  · rw [hargs]; exact trodAll_kept kidsT slicesT hk hT hA (fun p hp => hsp p (by rw [hb]; simpa using hp))
  · rw [hvs, hgv]; rfl
  · exact ok_one hr rfl (okWide_bool_mk Tryz.underlying4 _)
end Go.Proofs.YtkfkfpgnapncaaaGreatDoor
