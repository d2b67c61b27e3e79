import Derived.Test.YtkfkfpgnapncaaaGreatDoorEvB
set_option linter.unusedSimpArgs false
set_option linter.unusedVariables false
/-! Worlds, frames: what the computed walk knows of them. -/
noncomputable section
namespace Go.EV
open Go Go.RowKit Go.SL

abbrev En := Tri Value
/-- Is it a space of ASCII? -/
def spI (c : Nat) : Int := bif Nat.beq c 32 then 1 else bif Nat.ble 9 c && Nat.ble c 13 then 1 else 0
/-- What strings.asciiSpace holds. -/
def spA : Array Value := ((List.range 256).map fun c => .int .u8 (spI c)).toArray
theorem ar_ints {ρ : Ren} (l : List Nat) (k : IntKind) (g : Nat → Int) : AR ρ ((l.map fun c => Value.int k (g c)).toArray) ((l.map fun c => Value.int k (g c)).toArray) := ⟨rfl, fun i x x' h1 h2 => by
  rw [h1] at h2
  obtain rfl := Option.some.inj h2
  simp at h1
  obtain ⟨c, _, rfl⟩ := h1
  exact .int k _⟩
theorem ar_spA {ρ : Ren} : AR ρ spA spA := ar_ints _ _ _

inductive AO where
  | cells (cs : Array Value) (et : TypeId) (op : Bool)
  | map (es : List (Value × Value)) (ord : Bool)
  | miter (m : Nat)
  | loop (env : En) (nt : Nat) (ps : Array Tmp) (as b : Code) (D : Nat) (st : LoopState) (pd : Option Code)
  | defr (fresh : Bool)
  | ro (et : TypeId)           -- strings.asciiSpace, as the text lays it; it is never written

abbrev Hp := Nat → Option AO

/-- What is known of a frame's slots. -/
def SR (ρ : Ren) (nt : Nat) (env : En) (tm : Array Value) : Prop := tm.size = nt ∧ ∀ s v, env.get s = some v → ∃ v', tm[s]? = some v' ∧ VR ρ v v'

def MR (ρ : Ren) : List (Value × Value) → List MapEntry → Prop
  | [], [] => True
  | p :: r, e :: r' => p.1 = e.key ∧ VR ρ p.2 e.val ∧ MR ρ r r'
  | _, _ => False

def OR (T : TT) (ρ : Ren) (C : Nat) : AO → Obj → Prop
  | .cells cs et op, o => ∃ cs' sp, o = .cells (cs' ++ sp) et (0, 0) ∧ AR ρ cs cs' ∧ (op = true → ∃ g, T et = some g ∧ 0 < g.size ∧ C * g.size = cs'.size + sp.size)
  | .map es ord, o => ∃ es' es'' c, o = .map es' c ∧ MR ρ es es'' ∧ es''.Perm es'.toList ∧ (ord = true → es'' = es'.toList)
  | .miter m, o => ∃ b C' c, ρ m = some (b, C') ∧ o = .mapIter (some b) c #[] c
  | .loop env nt ps as b D st pd, o => ∃ f tm D' C', o = recL f tm ps as b D' st pd ∧ SR ρ nt env tm ∧ ρ D = some (D', C')
  | .defr fresh, o => o = .deferred (if fresh then some [] else none)
  | .ro et, o => o = .cells spA et (0, 0)

/-- ρ' is ρ below n. -/
def Ext (n : Nat) (ρ ρ' : Ren) : Prop := ∀ i, i < n → ρ' i = ρ i

structure WR (G : Nat) (T : TT) (ρ : Ren) (h : Hp) (n : Nat) (L : Nat → Option Obj) (z w : World) : Prop where
  os : w.os = z.os
  tape : w.tape = z.tape
  output : w.output = z.output
  size : z.heap.size ≤ w.heap.size
  dom : ∀ i, n ≤ i → ρ i = none
  hp : ∀ i o, h i = some o → ∃ b C o', ρ i = some (b, C) ∧ w.heap[b]? = some o' ∧ L b = none ∧ OR T ρ C o o'
  inj : ∀ i j oi oj b C C', h i = some oi → h j = some oj → ρ i = some (b, C) → ρ j = some (b, C') → i = j
  fr : ∀ b o, L b = some o → w.heap[b]? = some o
  gl : ∀ g, g < G → ∃ C, ρ g = some (g, C)

variable {G : Nat} {T : TT} {ρ ρ' : Ren} {h : Hp} {n : Nat} {L : Nat → Option Obj} {z w : World}

theorem Ext.refl (n : Nat) (ρ : Ren) : Ext n ρ ρ := fun _ _ => rfl
theorem Ext.trans {n n' : Nat} {ρ₁ ρ₂ ρ₃ : Ren} (h1 : Ext n ρ₁ ρ₂) (h2 : Ext n' ρ₂ ρ₃) (hn : n ≤ n') : Ext n ρ₁ ρ₃ := fun i hi => (h2 i (by omega)).trans (h1 i hi)
theorem Ext.le (he : Ext n ρ ρ') (hd : ∀ i, n ≤ i → ρ i = none) : Ren.le ρ ρ' := fun i p hp => by
  by_cases hi : i < n
  · rw [he i hi]; exact hp
  · rw [hd i (by omega)] at hp; cases hp
theorem WR.le (hw : WR G T ρ h n L z w) (he : Ext n ρ ρ') : Ren.le ρ ρ' := he.le hw.dom

theorem SR.mono (hl : Ren.le ρ ρ') {nt : Nat} {env : En} {tm : Array Value} (hs : SR ρ nt env tm) : SR ρ' nt env tm := ⟨hs.1, fun s v hv => let ⟨v', h1, h2⟩ := hs.2 s v hv; ⟨v', h1, h2.mono hl⟩⟩
theorem MR.mono (hl : Ren.le ρ ρ') : ∀ {es : List (Value × Value)} {es' : List MapEntry}, MR ρ es es' → MR ρ' es es'
  | [], [], _ => trivial
  | _ :: _, _ :: _, hm => ⟨hm.1, hm.2.1.mono hl, MR.mono hl hm.2.2⟩
  | [], _ :: _, hm => hm.elim
  | _ :: _, [], hm => hm.elim
theorem OR.mono (hl : Ren.le ρ ρ') {C : Nat} {o : AO} {o' : Obj} (hr : OR T ρ C o o') : OR T ρ' C o o' := by
  cases o with
  | cells cs et op => obtain ⟨cs', sp, e, hc, hs⟩ := hr; exact ⟨cs', sp, e, hc.mono hl, hs⟩
  | map es ord => obtain ⟨es', es'', c, e, hm, hp⟩ := hr; exact ⟨es', es'', c, e, hm.mono hl, hp⟩
  | miter m => obtain ⟨b, C', c, hb, e⟩ := hr; exact ⟨b, C', c, hl _ _ hb, e⟩
  | loop env nt ps as b D st pd => obtain ⟨f, tm, D', C', e, hs, hD⟩ := hr; exact ⟨f, tm, D', C', e, hs.mono hl, hl _ _ hD⟩
  | defr f => exact hr
  | ro et => exact hr

/-- Slots that are written. -/
theorem SR.put {nt : Nat} {env : En} {tm : Array Value} (hs : SR ρ nt env tm) {d : Nat} {v v' : Value} (hv : VR ρ v v') (hd : d < nt) (hf : Tri.fits d = true) : SR ρ nt (env.set d (some v)) (tm.setIfInBounds d v') := by
  refine ⟨by simp [hs.1], fun s u hu => ?_⟩
  rw [Tri.get_set hf] at hu
  rw [Array.getElem?_setIfInBounds]
  by_cases e : s = d
  · subst e
    rw [if_pos rfl] at hu
    obtain rfl := Option.some.inj hu
    exact ⟨v', by simp [hs.1, hd], hv⟩
  · rw [if_neg e] at hu
    rw [if_neg (fun h => e h.symm)]
    exact hs.2 s u hu

/-- The blocks of the walk are new below what is told. -/
theorem WR.hdom (hw : WR G T ρ h n L z w) {i : Nat} {o : AO} (hi : h i = some o) : i < n := by
  obtain ⟨b, C, o', hr, _⟩ := hw.hp i o hi
  apply Classical.byContradiction
  intro hn
  rw [hw.dom i (by omega)] at hr
  cases hr

def updH (h : Hp) (i : Nat) (o : Option AO) : Hp := fun j => if j = i then o else h j
def updL (L : Nat → Option Obj) (b : Nat) (o : Option Obj) : Nat → Option Obj := fun j => if j = b then o else L j

theorem WR.conv {h' : Hp} (hw : WR G T ρ h n L z w) (he : ∀ i, h' i = h i) : WR G T ρ h' n L z w := by
  have : h' = h := funext he
  rw [this]; exact hw

/-- A block of the walk is written. -/
theorem WR.put (hw : WR G T ρ h n L z w) {i b C : Nat} {o : AO} (hi : h i = some o) (hb : ρ i = some (b, C)) {p : AO} {p' : Obj} (hp : OR T ρ C p p') :
    WR G T ρ (updH h i (some p)) n L z { w with heap := w.heap.setIfInBounds b p' } := by
  obtain ⟨b0, C0, o0, hr, hbk, hL, _⟩ := hw.hp i o hi
  rw [hb] at hr
  obtain ⟨rfl, rfl⟩ := Prod.mk.inj (Option.some.inj hr)
  have hlt : b < w.heap.size := (Array.getElem?_eq_some_iff.1 hbk).1
  refine ⟨hw.os, hw.tape, hw.output, by simpa using hw.size, hw.dom, ?_, ?_, ?_, hw.gl⟩
  · intro j q hq
    unfold updH at hq
    by_cases e : j = i
    · subst e
      rw [if_pos rfl] at hq
      obtain rfl := Option.some.inj hq
      exact ⟨b, C, p', hb, by simp [hlt], hL, hp⟩
    · rw [if_neg e] at hq
      obtain ⟨b', C', q', h1, h2, h3, h4⟩ := hw.hp j q hq
      refine ⟨b', C', q', h1, ?_, h3, h4⟩
      have hne : b ≠ b' := fun e' => by subst e'; exact e (hw.inj _ _ _ _ _ _ _ hq hi h1 hb)
      show (w.heap.setIfInBounds b p')[b']? = _
      rw [Array.getElem?_setIfInBounds_ne hne]; exact h2
  · intro j k oj ok b' C1 C2 hj hk h1 h2
    have key : ∀ j q, updH h i (some p) j = some q → ∃ q', h j = some q' := fun j q hq => by
      unfold updH at hq
      by_cases e : j = i
      · subst e; exact ⟨o, hi⟩
      · rw [if_neg e] at hq; exact ⟨q, hq⟩
    obtain ⟨_, hj'⟩ := key j oj hj
    obtain ⟨_, hk'⟩ := key k ok hk
    exact hw.inj _ _ _ _ _ _ _ hj' hk' h1 h2
  · intro b' q hq
    have hne : b ≠ b' := fun e' => by subst e'; rw [hL] at hq; cases hq
    show (w.heap.setIfInBounds b p')[b']? = _
    rw [Array.getElem?_setIfInBounds_ne hne]; exact hw.fr _ _ hq

/-- Where a new block of the walk is. -/
def updR (ρ : Ren) (i : Nat) (p : Nat × Nat) : Ren := fun j => if j = i then some p else ρ j
theorem ext_updR {n i : Nat} {p : Nat × Nat} (h : n ≤ i) : Ext n ρ (updR ρ i p) := fun j hj => by
  unfold updR; rw [if_neg (by omega)]
theorem le_updR {i : Nat} {p : Nat × Nat} (h : ρ i = none) : Ren.le ρ (updR ρ i p) := fun j q hq => by
  unfold updR
  by_cases e : j = i
  · subst e; rw [h] at hq; cases hq
  · rw [if_neg e]; exact hq

theorem WR.Llt (hw : WR G T ρ h n L z w) {b : Nat} {o : Obj} (hb : L b = some o) : b < w.heap.size := (Array.getElem?_eq_some_iff.1 (hw.fr b o hb)).1

/-- A new block, under a number that is free. -/
theorem WR.new (hw : WR G T ρ h n L z w) {i n' : Nat} (hi : ρ i = none) (hn : n ≤ n') (hin : i < n') (C : Nat) {p : AO} {p' : Obj} (hp : OR T ρ C p p') :
    WR G T (updR ρ i (w.heap.size, C)) (updH h i (some p)) n' L z { w with heap := w.heap.push p' } := by
  have hle := le_updR (p := (w.heap.size, C)) hi
  have hpush : ∀ {b : Nat} {o : Obj}, w.heap[b]? = some o → (w.heap.push p')[b]? = some o := fun {b o} hb => by
    have hlt : b < w.heap.size := (Array.getElem?_eq_some_iff.1 hb).1
    rw [Array.getElem?_push, if_neg (by omega)]; exact hb
  refine ⟨hw.os, hw.tape, hw.output, by simp; exact Nat.le_succ_of_le hw.size, ?_, ?_, ?_, ?_, fun g hg => let ⟨C, hC⟩ := hw.gl g hg; ⟨C, hle _ _ hC⟩⟩
  · intro j hj
    unfold updR
    rw [if_neg (by omega)]
    exact hw.dom j (by omega)
  · intro j q hq
    unfold updH at hq
    by_cases e : j = i
    · subst e
      rw [if_pos rfl] at hq
      obtain rfl := Option.some.inj hq
      refine ⟨w.heap.size, C, p', by simp [updR], by simp, ?_, hp.mono hle⟩
      cases hl : L w.heap.size with
      | none => rfl
      | some o => have := hw.Llt hl; omega
    · rw [if_neg e] at hq
      obtain ⟨b', C', q', h1, h2, h3, h4⟩ := hw.hp j q hq
      exact ⟨b', C', q', hle _ _ h1, hpush h2, h3, h4.mono hle⟩
  · intro j k oj ok b' C1 C2 hj hk h1 h2
    have key : ∀ {j : Nat} {q : AO} {b' C1 : Nat}, updH h i (some p) j = some q → updR ρ i (w.heap.size, C) j = some (b', C1) → (j = i ∧ b' = w.heap.size) ∨ (j ≠ i ∧ h j = some q ∧ ρ j = some (b', C1) ∧ b' < w.heap.size) := fun {j q b' C1} hq hr => by
      unfold updH at hq
      unfold updR at hr
      by_cases e : j = i
      · subst e; rw [if_pos rfl] at hr; obtain ⟨rfl, rfl⟩ := Prod.mk.inj (Option.some.inj hr); exact .inl ⟨rfl, rfl⟩
      · rw [if_neg e] at hq hr
        obtain ⟨b'', C'', q', h1, h2, _⟩ := hw.hp j q hq
        rw [hr] at h1
        obtain ⟨rfl, rfl⟩ := Prod.mk.inj (Option.some.inj h1)
        exact .inr ⟨e, hq, hr, (Array.getElem?_eq_some_iff.1 h2).1⟩
    rcases key hj h1 with ⟨rfl, hb1⟩ | ⟨_, hj', h1', hb1⟩
    · rcases key hk h2 with ⟨rfl, _⟩ | ⟨_, _, _, hb2⟩
      · rfl
      · omega
    · rcases key hk h2 with ⟨rfl, hb2⟩ | ⟨_, hk', h2', hb2⟩
      · omega
      · exact hw.inj _ _ _ _ _ _ _ hj' hk' h1' h2'
  · intro b' q hq
    exact hpush (hw.fr _ _ hq)

/-- A number that names nothing is given a place. -/
theorem WR.ext (hw : WR G T ρ h n L z w) {j n' : Nat} (hj : ρ j = none) (hn : n ≤ n') (hjn : j < n') (p : Nat × Nat) : WR G T (updR ρ j p) h n' L z w := by
  have hle := le_updR (p := p) hj
  refine ⟨hw.os, hw.tape, hw.output, hw.size, ?_, ?_, ?_, hw.fr, fun g hg => let ⟨C, hC⟩ := hw.gl g hg; ⟨C, hle _ _ hC⟩⟩
  · intro i hi
    unfold updR
    rw [if_neg (by omega)]
    exact hw.dom i (by omega)
  · intro i o hi
    obtain ⟨b, C, o', h1, h2, h3, h4⟩ := hw.hp i o hi
    exact ⟨b, C, o', hle _ _ h1, h2, h3, h4.mono hle⟩
  · intro i k oi ok b C C' hi hk h1 h2
    have key : ∀ {i : Nat} {o : AO} {b C : Nat}, h i = some o → updR ρ j p i = some (b, C) → ρ i = some (b, C) := fun {i o b C} hi h1 => by
      unfold updR at h1
      by_cases e : i = j
      · subst e
        obtain ⟨b', C', o', g1, _⟩ := hw.hp i o hi
        rw [hj] at g1; cases g1
      · rw [if_neg e] at h1; exact h1
    exact hw.inj _ _ _ _ _ _ _ hi hk (key hi h1) (key hk h2)

/-- The walk forgets a block. -/
theorem WR.drop (hw : WR G T ρ h n L z w) (i : Nat) : WR G T ρ (updH h i none) n L z w := by
  refine ⟨hw.os, hw.tape, hw.output, hw.size, hw.dom, ?_, ?_, hw.fr, hw.gl⟩
  · intro j q hq
    unfold updH at hq
    by_cases e : j = i
    · rw [if_pos e] at hq; cases hq
    · rw [if_neg e] at hq; exact hw.hp j q hq
  · intro j k oj ok b' C1 C2 hj hk
    unfold updH at hj hk
    by_cases e : j = i
    · rw [if_pos e] at hj; cases hj
    · rw [if_neg e] at hj
      by_cases e' : k = i
      · rw [if_pos e'] at hk; cases hk
      · rw [if_neg e'] at hk; exact hw.inj _ _ _ _ _ _ _ hj hk

/-- A block is put aside: what is done then leaves it alone. -/
theorem WR.aside (hw : WR G T ρ h n L z w) {i : Nat} {o : AO} (hi : h i = some o) : ∃ b C o', ρ i = some (b, C) ∧ OR T ρ C o o' ∧ L b = none ∧ WR G T ρ (updH h i none) n (updL L b (some o')) z w := by
  obtain ⟨b, C, o', h1, h2, h3, h4⟩ := hw.hp i o hi
  refine ⟨b, C, o', h1, h4, h3, ?_⟩
  have hd := hw.drop i
  refine ⟨hw.os, hw.tape, hw.output, hw.size, hw.dom, ?_, hd.inj, ?_, hw.gl⟩
  · intro j q hq
    obtain ⟨b', C', q', g1, g2, g3, g4⟩ := hd.hp j q hq
    refine ⟨b', C', q', g1, g2, ?_, g4⟩
    unfold updL
    by_cases e : b' = b
    · subst e
      unfold updH at hq
      by_cases e' : j = i
      · rw [if_pos e'] at hq; cases hq
      · rw [if_neg e'] at hq; exact absurd (hw.inj _ _ _ _ _ _ _ hq hi g1 h1) e'
    · rw [if_neg e]; exact g3
  · intro b' q hq
    unfold updL at hq
    by_cases e : b' = b
    · subst e; rw [if_pos rfl] at hq; obtain rfl := Option.some.inj hq; exact h2
    · rw [if_neg e] at hq; exact hw.fr _ _ hq

/-- And is taken back. -/
theorem WR.back {b : Nat} (hL : L b = none) {o' : Obj} (hw : WR G T ρ h n (updL L b (some o')) z w) {i C : Nat} {o : AO} (hi : ρ i = some (b, C)) (ho : OR T ρ C o o') (hn : h i = none) : WR G T ρ (updH h i (some o)) n L z w := by
  have hbk : w.heap[b]? = some o' := hw.fr b o' (by simp [updL])
  refine ⟨hw.os, hw.tape, hw.output, hw.size, hw.dom, ?_, ?_, ?_, hw.gl⟩
  · intro j q hq
    unfold updH at hq
    by_cases e : j = i
    · subst e; rw [if_pos rfl] at hq; obtain rfl := Option.some.inj hq
      exact ⟨b, C, o', hi, hbk, hL, ho⟩
    · rw [if_neg e] at hq
      obtain ⟨b', C', q', g1, g2, g3, g4⟩ := hw.hp j q hq
      refine ⟨b', C', q', g1, g2, ?_, g4⟩
      unfold updL at g3
      by_cases e' : b' = b
      · rw [if_pos e'] at g3; cases g3
      · rw [if_neg e'] at g3; exact g3
  · intro j k oj ok b' C1 C2 hj hk h1 h2
    have key : ∀ {j : Nat} {q : AO} {b' C1 : Nat}, updH h i (some o) j = some q → ρ j = some (b', C1) → (j = i ∧ b' = b) ∨ (h j = some q ∧ b' ≠ b) := fun {j q b' C1} hq hr => by
      unfold updH at hq
      by_cases e : j = i
      · subst e; rw [hi] at hr; obtain ⟨rfl, rfl⟩ := Prod.mk.inj (Option.some.inj hr); exact .inl ⟨rfl, rfl⟩
      · rw [if_neg e] at hq
        obtain ⟨b'', C'', q', g1, g2, g3, g4⟩ := hw.hp j q hq
        rw [hr] at g1
        obtain ⟨rfl, rfl⟩ := Prod.mk.inj (Option.some.inj g1)
        refine .inr ⟨hq, fun e' => ?_⟩
        subst e'
        simp [updL] at g3
    rcases key hj h1 with ⟨rfl, hb1⟩ | ⟨hj', hb1⟩
    · rcases key hk h2 with ⟨rfl, _⟩ | ⟨_, hb2⟩
      · rfl
      · exact absurd hb1 hb2
    · rcases key hk h2 with ⟨rfl, hb2⟩ | ⟨hk', hb2⟩
      · exact absurd hb2 hb1
      · exact hw.inj _ _ _ _ _ _ _ hj' hk' h1 h2
  · intro b' q hq
    refine hw.fr b' q ?_
    unfold updL
    by_cases e : b' = b
    · subst e; rw [hL] at hq; cases hq
    · rw [if_neg e]; exact hq
end Go.EV
