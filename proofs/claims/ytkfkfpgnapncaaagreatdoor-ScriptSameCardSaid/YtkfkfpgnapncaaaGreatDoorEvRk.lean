import Derived.Test.YtkfkfpgnapncaaaGreatDoorEvPo
import Derived.Test.YtkfkfpgnapncaaaGreatDoorEvAg
import Derived.ReadAgain
import Derived.ChangeStays
set_option linter.unusedSimpArgs false
set_option linter.unusedVariables false
/-! Arguments that are slices: what they read as; what is kept behind the call. -/
noncomputable section
namespace Go.EV
open Go Go.RowKit Go.SL Go.Proofs Go.WideShapes
theorem kept_of_own {W w : World} {ss : List HL} {i : Nat} (h : Own W w ss) (hi : ss[i]? = some (blocks W)) : Kept W w := by
  refine ⟨h.os, h.tape, h.output, h.size, fun b o hb => ?_⟩
  have hlt := (Array.getElem?_eq_some_iff.1 hb).1
  have hm : (b, o) ∈ blocks W := List.mem_map.2 ⟨b, List.mem_range.2 hlt, by simp [Array.getD, hlt, (Array.getElem?_eq_some_iff.1 hb).2]⟩
  exact h.get i hi hm
theorem mem_blocks {W : World} {b : Nat} {o : Obj} (hb : W.heap[b]? = some o) : (b, o) ∈ blocks W := by
  have hlt := (Array.getElem?_eq_some_iff.1 hb).1
  exact List.mem_map.2 ⟨b, List.mem_range.2 hlt, by simp [Array.getD, hlt, (Array.getElem?_eq_some_iff.1 hb).2]⟩

/-- A call that was run for every start. -/
theorem pure_ret {P : Program} {f : FuncId} {args : List Value} {res : Value} (hp : PureF P f args res) {z w : World} {L : HL} {et : TypeId} (hw : Own z w [L]) (h0 : (0, Obj.cells spA et (0, 0)) ∈ L) :
    Ret P f args.toArray w (fun v w' => v = res ∧ Own z w' [L]) := by
  have hm := hw.mem (i := 0) rfl
  refine (hp.run w et (hm _ h0)).mono fun e w' ⟨he, hk⟩ => ⟨res, he, rfl, ?_⟩
  exact ⟨hk.os.trans hw.os, hk.tape.trans hw.tape, hk.output.trans hw.output, Nat.le_trans hw.size hk.size, hw.nd, fun p hp => hk.heap _ _ (hw.at_ p hp)⟩

section
variable {H : Type} {enc : TypeId × Value → H} {P : Program} {W W' : World} {sp : Nat → Bool}
theorem Kept.sameAt (hk : Kept W W') {p : MemPlace} (hp : p.block < W.heap.size) : W.sameAt W' p := by
  have h1 : W.heap[p.block]? = some W.heap[p.block] := by simp [hp]
  have h2 := hk.heap _ _ h1
  cases p with
  | cell b off => simp only [World.sameAt, World.cell?]; rw [show W'.heap[b]? = W.heap[b]? from h2.trans h1.symm]
  | map b => exact h2.trans h1.symm
theorem trodAll_kept (K : Kids P (· < P.types.size)) (hz : ∀ t e, t < P.types.size → P.underlying t = some (.slice e) → 0 < P.cellsOf e) (hk : Kept W W') :
    ∀ {ts : List TypeId} {vs : List Value} {ds : List (DataW H)} {ps : List MemPlace}, (∀ t ∈ ts, t < P.types.size) → DataW.TrodAll enc P W 0 (fun _ => true) true ts vs ds ps → (∀ p ∈ ps, sp p.block = true) → DataW.TrodAll enc P W' 0 sp true ts vs ds ps
  | [], [], [], _, _, h, _ => h
  | t :: _, _ :: _, _ :: _, _, hT, ⟨p, q, ⟨n, h1⟩, h2, e⟩, hs =>
    ⟨p, q, ⟨n, DataW.trod_stays K (fun ht hu => hz _ _ ht hu) (fun h => by cases h) (hT t List.mem_cons_self) h1 (fun x hx => hk.sameAt (DataW.trod_lt n _ _ _ h1 x hx)) (fun x hx => hs x (by rw [e]; exact List.mem_append_left _ hx))⟩,
      trodAll_kept K hz hk (fun t ht => hT t (List.mem_cons_of_mem _ ht)) h2 (fun x hx => hs x (by rw [e]; exact List.mem_append_right _ hx)), e⟩

theorem addr_add_add (a : Addr) (i j : Nat) : (a.add i).add j = a.add (i + j) := by
  unfold Addr.add
  by_cases hi : i = 0
  · subst hi; simp
  · by_cases hj : j = 0
    · subst hj; simp
    · have : ¬ i + j = 0 := by omega
      simp [hi, hj, this, Nat.add_assoc]
theorem list_of {α : Type} (n : Nat) (Q : Nat → α → Prop) (h : ∀ i, i < n → ∃ y, Q i y) : ∃ l : List α, l.length = n ∧ ∀ i y, l[i]? = some y → Q i y := by
  induction n with
  | zero => exact ⟨[], rfl, fun i y h => by simp at h⟩
  | succ n ih =>
    obtain ⟨l, hl, hq⟩ := ih fun i hi => h i (by omega)
    obtain ⟨y, hy⟩ := h n (by omega)
    refine ⟨l ++ [y], by simp [hl], fun i x hx => ?_⟩
    by_cases hi : i < l.length
    · rw [List.getElem?_append_left hi] at hx; exact hq i x hx
    · have hi2 : i = n := by
        have := (List.getElem?_eq_some_iff.1 hx).1
        simp at this; omega
      subst hi2
      rw [List.getElem?_append_right (by omega), hl] at hx
      simp at hx
      subst hx; exact hy

/-- A slice that is an argument, opened. -/
theorem open_sl {α : Type} {encA : α → List Value} {size : Nat} {good : α → Prop} {t e : TypeId} {v : Value} {d : DataW H} {ps : List MemPlace} {r : Reach} {b0 : Nat} (ht : P.underlying t = some (.slice e)) (hc : P.cellsOf e = size) (hs : 0 < size) (hz : ∀ x, (encA x).length = size)
    (hval : Value.okWide P W r b0 t v) (hd : DataW.Trod enc P W 0 (fun _ => true) true t v d ps)
    (hel : ∀ n cs x, DataW.trod enc P W 0 (fun _ => true) true n e cs = some x → ∃ y : α, cs = encA y ∧ good y) :
    ∃ (p : Option Addr) (l : List α) (c : Nat), v = .slice p l.length c ∧ l.length ≤ maxLen ∧ l.length ≤ c ∧ Rd (blocks W) encA p l ∧ ∀ y ∈ l, good y := by
  obtain ⟨a, len, cap, rfl⟩ := okWide_slice ht hval
  obtain ⟨fuel, h⟩ := hd
  have hcs : (Value.slice a len cap).cells.toList = [.slice a len cap] := rfl
  rw [hcs] at h
  rcases DataW.trod_slice ht h with ⟨h0, _⟩ | ⟨a', len', cap', elems, rest, n, _, h0, _, hb, hl, hm, hlen, hE, _, _⟩
  · simp only [List.cons.injEq, Value.slice.injEq, and_true] at h0
    obtain ⟨rfl, rfl, rfl⟩ := h0
    exact ⟨none, [], 0, rfl, Nat.zero_le _, Nat.zero_le _, .emp _, fun y hy => by cases hy⟩
  · simp only [List.cons.injEq, Value.slice.injEq, and_true] at h0
    obtain ⟨rfl, rfl, rfl⟩ := h0
    rw [hc] at hE
    obtain ⟨l, hll, hq⟩ := list_of len (fun i (y : α) => good y ∧ ∀ j v, (encA y)[j]? = some v → W.cell? (a'.add (i * size + j)) = some v) (fun i hi => by
      have he := hE i hi
      rw [List.getElem?_eq_getElem (by omega)] at he
      cases hcc : W.cells? 0 (a'.add (i * size)) size with
      | none => simp [hcc] at he
      | some cs =>
        simp only [hcc, Option.bind_some] at he
        obtain ⟨y, rfl, hy⟩ := hel _ _ _ he
        obtain ⟨_, h1, h2⟩ := World.cells?_some hcc
        refine ⟨y, hy, fun j v hv => ?_⟩
        have hj : j < size := by rw [← h1]; exact (List.getElem?_eq_some_iff.1 hv).1
        have := h2 j hj
        rw [hv] at this
        rw [← this, addr_add_add])
    subst hll
    exact ⟨some a', l, cap, rfl, Nat.le_trans hl hm, hl, rd_cells hz hs (fun i x hx => (hq i x hx).2), fun y hy => by
      obtain ⟨i, hi⟩ := List.mem_iff_getElem?.1 hy
      exact (hq i y hi).1⟩
end
end Go.EV
