import Derived.WalkKit
import Derived.OrdersHeld
import Derived.Deep.MidRow
/-! Separation by lists of blocks: what a world holds, block by block, in segments. -/
namespace Go.SL
open Go Go.RowKit

abbrev HL := List (Nat × Obj)

/-- The world 'w' stands behind 'z' (same outside world, same tape, no smaller heap), and holds the blocks of 'ss', all of them different. -/
structure Own (z w : World) (ss : List HL) : Prop where
  os : w.os = z.os
  tape : w.tape = z.tape
  output : w.output = z.output
  size : z.heap.size ≤ w.heap.size
  nd : (ss.flatten.map (·.1)).Nodup
  at_ : ∀ p ∈ ss.flatten, w.heap[p.1]? = some p.2

theorem mem_flatten_of_get {ss : List HL} {i : Nat} {s : HL} (h : ss[i]? = some s) {p : Nat × Obj} (hp : p ∈ s) : p ∈ ss.flatten :=
  List.mem_flatten.2 ⟨s, List.mem_of_getElem? h, hp⟩

theorem Own.get {z w : World} {ss : List HL} (h : Own z w ss) (i : Nat) {s : HL} (hi : ss[i]? = some s) {p : Nat × Obj} (hp : p ∈ s) : w.heap[p.1]? = some p.2 :=
  h.at_ p (mem_flatten_of_get hi hp)

theorem Own.blk {z w : World} {ss : List HL} (h : Own z w ss) (i : Nat) {b : Nat} {o : Obj} (hi : ss[i]? = some [(b, o)]) : w.heap[b]? = some o :=
  h.get i hi (p := (b, o)) (by simp)

theorem Own.conv {z w : World} {ss tt : List HL} (h : Own z w ss) (hs : tt.flatten = ss.flatten) : Own z w tt :=
  ⟨h.os, h.tape, h.output, h.size, by rw [hs]; exact h.nd, by rw [hs]; exact h.at_⟩

theorem Own.perm {z w : World} {ss tt : List HL} (h : Own z w ss) (hs : ss.Perm tt) : Own z w tt :=
  ⟨h.os, h.tape, h.output, h.size, ((hs.flatten).map (·.1)).nodup_iff.1 h.nd, fun p hp => h.at_ p (hs.flatten.mem_iff.2 hp)⟩

theorem Own.left {z w : World} {ss tt : List HL} (h : Own z w (ss ++ tt)) : Own z w ss :=
  ⟨h.os, h.tape, h.output, h.size, by have := h.nd; rw [List.flatten_append, List.map_append] at this; exact (List.nodup_append.1 this).1,
    fun p hp => h.at_ p (by rw [List.flatten_append]; exact List.mem_append_left _ hp)⟩

theorem Own.take {z w : World} {ss : List HL} (k : Nat) (h : Own z w ss) : Own z w (ss.take k) := by
  rw [← List.take_append_drop k ss] at h
  exact h.left

/-- Picked by numbers. -/
def pick (ss : List HL) (idx : List Nat) : List HL := idx.map fun i => ss.getD i []

theorem pick_range (ss : List HL) : pick ss (List.range ss.length) = ss := by
  apply List.ext_getElem?
  intro i
  unfold pick
  by_cases h : i < ss.length
  · simp [h]
  · simp [h]

theorem Own.pick {z w : World} {ss : List HL} (idx : List Nat) (hi : idx.isPerm (List.range ss.length) = true) (h : Own z w ss) : Own z w (pick ss idx) := by
  have hp : (SL.pick ss idx).Perm ss := by
    have := (List.isPerm_iff.1 hi).map (fun i => ss.getD i [])
    have e := pick_range ss
    unfold SL.pick at *
    rw [e] at this
    exact this
  exact h.perm hp.symm

/-- The last segments as one. -/
theorem Own.shut {z w : World} {ss tt : List HL} (h : Own z w (ss ++ tt)) : Own z w (ss ++ [tt.flatten]) :=
  h.conv (by simp)
theorem Own.open_ {z w : World} {ss tt : List HL} (h : Own z w (ss ++ [tt.flatten])) : Own z w (ss ++ tt) :=
  h.conv (by simp)

theorem Own.drew {z w : World} {ss : List HL} (h : Own z w ss) : Own z w.drew ss := ⟨h.os, h.tape, h.output, h.size, h.nd, h.at_⟩

theorem Own.alloc {z w : World} {ss : List HL} (h : Own z w ss) (o : Obj) : Own z { w with heap := w.heap.push o } (ss ++ [[(w.heap.size, o)]]) := by
  have hlt : ∀ p ∈ ss.flatten, p.1 < w.heap.size := fun p hp => (Array.getElem?_eq_some_iff.1 (h.at_ p hp)).1
  refine ⟨h.os, h.tape, h.output, by simp; exact Nat.le_succ_of_le h.size, ?_, ?_⟩
  · simp only [List.flatten_append, List.map_append, List.flatten_cons, List.flatten_nil, List.append_nil, List.map_cons, List.map_nil]
    rw [List.nodup_append]
    refine ⟨h.nd, by simp, ?_⟩
    intro a ha b hb hab
    simp only [List.mem_singleton] at hb
    obtain ⟨p, hp, rfl⟩ := List.mem_map.1 ha
    have := hlt p hp
    omega
  · intro p hp
    simp only [List.flatten_append, List.mem_append, List.flatten_cons, List.flatten_nil, List.append_nil, List.mem_singleton] at hp
    rcases hp with hp | rfl
    · have := hlt p hp
      show (w.heap.push o)[p.1]? = some p.2
      rw [Array.getElem?_push, if_neg (by omega)]
      exact h.at_ p hp
    · show (w.heap.push o)[w.heap.size]? = some o
      simp

theorem flatten_set_split {ss : List HL} {i : Nat} {s : HL} (h : ss[i]? = some s) (s' : HL) :
    ss.flatten = (ss.take i).flatten ++ (s ++ (ss.drop (i + 1)).flatten) ∧ (ss.set i s').flatten = (ss.take i).flatten ++ (s' ++ (ss.drop (i + 1)).flatten) := by
  have hlt : i < ss.length := (List.getElem?_eq_some_iff.1 h).1
  have he : ss[i] = s := (List.getElem?_eq_some_iff.1 h).2
  constructor
  · conv => lhs; rw [← List.take_append_drop i ss, List.flatten_append, List.drop_eq_getElem_cons hlt, List.flatten_cons, he]
  · rw [List.set_eq_take_append_cons_drop, if_pos hlt]
    simp

theorem Own.put {z w : World} {ss : List HL} (h : Own z w ss) (i : Nat) {b : Nat} {o : Obj} (hi : ss[i]? = some [(b, o)]) (o' : Obj) :
    Own z { w with heap := w.heap.setIfInBounds b o' } (ss.set i [(b, o')]) := by
  obtain ⟨e1, e2⟩ := flatten_set_split hi [(b, o')]
  have hb := h.blk i hi
  have hlt : b < w.heap.size := (Array.getElem?_eq_some_iff.1 hb).1
  have hnd := h.nd
  rw [e1] at hnd
  refine ⟨h.os, h.tape, h.output, by simpa using h.size, ?_, ?_⟩
  · rw [e2]; simpa using hnd
  · intro p hp
    rw [e2] at hp
    show (w.heap.setIfInBounds b o')[p.1]? = some p.2
    simp only [List.mem_append, List.mem_singleton] at hp
    have hne : p ∈ (ss.take i).flatten ∨ p ∈ (ss.drop (i + 1)).flatten → p.1 ≠ b := by
      intro hp' e
      simp only [List.map_append, List.map_cons, List.map_nil] at hnd
      rcases hp' with hp' | hp'
      · have := (List.nodup_append.1 hnd).2.2 p.1 (List.mem_map.2 ⟨p, hp', rfl⟩) b (by simp)
        exact this e
      · have := (List.nodup_append.1 hnd).2.1
        simp only [List.cons_append, List.nil_append, List.nodup_cons] at this
        exact this.1 (List.mem_map.2 ⟨p, hp', e⟩)
    rcases hp with hp | rfl | hp
    · rw [Array.getElem?_setIfInBounds_ne (by have := hne (.inl hp); omega)]
      exact h.at_ p (by rw [e1]; simp [hp])
    · simp [hlt]
    · rw [Array.getElem?_setIfInBounds_ne (by have := hne (.inr hp); omega)]
      exact h.at_ p (by rw [e1]; simp [hp])

/-! ### Whole worlds -/
/-- Every block of a world. -/
def blocks (w : World) : HL := (List.range w.heap.size).map fun i => (i, w.heap.getD i default)
theorem Own.all (w : World) : Own w w [blocks w] := by
  refine ⟨rfl, rfl, rfl, Nat.le_refl _, ?_, ?_⟩
  · simp [blocks, Function.comp_def, List.nodup_range]
  · intro p hp
    simp only [blocks, List.flatten_cons, List.flatten_nil, List.append_nil, List.mem_map, List.mem_range] at hp
    obtain ⟨i, hi, rfl⟩ := hp
    simp [hi]

theorem Own.below {z w : World} {ss : List HL} (h : Own z w ss) (i : Nat) (hi : ss[i]? = some (blocks z)) : Below z.heap.size z w := by
  refine ⟨h.os, h.tape, h.output, h.size, fun k hk => ?_⟩
  have hm : (k, z.heap.getD k default) ∈ blocks z := List.mem_map.2 ⟨k, by simpa using hk, rfl⟩
  have := h.get i hi hm
  simp only at this
  rw [this]
  simp [hk]
end Go.SL
