import Derived.Test.YtkfkfpgnapncaaaGreatDoorSlD
/-! A region that draws its order: one walk, for every order: what only looks comes first, what acts comes when nothing else may. -/
namespace Go.SL
open Go Go.RowKit
variable {r₀ : Option Nat} {P : Program} {T : TT} {ops : Array Oper} {Q : Exit → Act → World → Prop} {md : Region.Mode}

/-- Every operation from N on waits for every one below N. -/
def tailOk (ops : Array Oper) (N : Nat) : Bool :=
  (List.range ops.size).all fun j => Nat.blt j N || (List.range N).all fun i => (ops[j]?).any fun o => o.after.any fun e => Nat.beq e.on i && Region.binds .any e

/-- Whatever order is picked from here on, and S holds behind every operation below N. -/
def wpAnyN (r₀ : Option Nat) (P : Program) (ops : Array Oper) (Q : Exit → Act → World → Prop) (S : World → Prop) (N : Nat) : Nat → Array Bool → Act → World → Prop
  | 0, listed, a, w => Region.ready .any ops listed = [] ∧ Q .normal a w
  | fuel + 1, listed, a, w =>
    (Region.ready .any ops listed = [] → Q .normal a w) ∧
    ∀ i ∈ Region.ready .any ops listed, opW r₀ P ops Q i (fun a' w' => (i < N → S w') ∧ wpAnyN r₀ P ops Q S N fuel (listed.setIfInBounds i true) a' w') a w

theorem wpAny_of_N {S : World → Prop} {N : Nat} : ∀ (fuel : Nat) (listed : Array Bool) (a : Act) (w : World), wpAnyN r₀ P ops Q S N fuel listed a w → wpAnyIn (FW r₀) 0 P .any ops Q fuel listed a w
  | 0, _, _, _, h => h
  | fuel + 1, _, _, _, h => ⟨h.1, fun i hi => opW_in (opW_mono (fun a' w' h' => wpAny_of_N fuel _ a' w' h'.2) (h.2 i hi))⟩

theorem tailOk_spec {N : Nat} (h : tailOk ops N = true) {i j : Nat} {oj : Oper} {listed : Array Bool} (hi : i < N) (hun : listed.getD i true = false) (hj : j ∈ Region.ready .any ops listed) (hoj : ops[j]? = some oj) : j < N := by
  apply Classical.byContradiction
  intro hjN
  have hlt : j < ops.size := (Array.getElem?_eq_some_iff.1 hoj).1
  have h1 := List.all_eq_true.1 h j (List.mem_range.2 hlt)
  have h2 : Nat.blt j N = false := by
    cases hb : Nat.blt j N with
    | false => rfl
    | true => exact absurd (Nat.lt_of_succ_le (Nat.le_of_ble_eq_true hb)) hjN
  rw [h2, Bool.false_or] at h1
  have h3 := List.all_eq_true.1 h1 i (List.mem_range.2 hi)
  rw [hoj] at h3
  simp only [Option.any_some, Array.any_eq_true, Bool.and_eq_true] at h3
  obtain ⟨n, hn, he, hb⟩ := h3
  obtain ⟨_, oj', hoj', hall⟩ := mem_ready.1 hj
  rw [hoj] at hoj'
  obtain rfl := Option.some.inj hoj'
  have := hall _ (Array.getElem_mem hn) hb
  rw [Nat.eq_of_beq_eq_true he] at this
  rcases Nat.lt_or_ge i listed.size with h' | h'
  · simp [h'] at hun this; rw [hun] at this; cases this
  · simp [Array.getElem?_eq_none h'] at this

theorem yif_opW {S : World → Prop} {i : Nat} {o : Oper} {v : Value} {a : Act} (hi : ops[i]? = some o) (hy : YieldsIf P ops S o v a)
    {K : Act → World → Prop} {w : World} (hS : S w) (h : K (a.put o.dst v) w) : opW r₀ P ops Q i K a w := by
  rcases hy with ⟨hw, hv⟩ | ⟨hw, rfl⟩
  · exact wpOp_val hi hw (hv w hS) h
  · exact wpOp_pass hi hw h

/-- One operation 'oj', apart from 'oi'. -/
theorem opW_putIf {S : World → Prop} {j : Nat} {oi oj : Oper} {v : Value} (hj : ops[j]? = some oj) (hap : oi.apart ops oj = true)
    (hsi : ∀ cs b, oi.op ≠ .select cs b) (hsj : ∀ cs b, oj.op ≠ .select cs b) (hdj : ∀ c, oj.op ≠ .defer c)
    (hQ : ∀ c a w, Q (.panic c) (a.put oi.dst v) w → Q (.panic c) a w) {K : Act → World → Prop} {a : Act} {w : World}
    (hy : YieldsIf P ops S oi v a) (h : opW r₀ P ops Q j K (a.put oi.dst v) w) :
    opW r₀ P ops Q j (fun a' w' => YieldsIf P ops S oi v a' ∧ K (a'.put oi.dst v) w') a w := by
  obtain ⟨h1, h2, h3⟩ := Oper.apart_spec hap
  have keep : ∀ (a : Act), YieldsIf P ops S oi v a → ∀ u, YieldsIf P ops S oi v (a.put oj.dst u) := fun a hy u =>
    hy.of_same (execOp_put oi hsi a oj.dst u h3) (wanted_put oi a oj.dst u h3)
  unfold SL.opW at *
  simp only [hj] at *
  rw [wanted_put oj a oi.dst v h1] at h
  split
  · rename_i hw
    simp only [hw, if_true] at h
    unfold Oper.wpIn at *
    refine ⟨fun _ _ => trivial, ?_⟩
    have h := h.2
    rw [semAt_run hdj, execOp_put oj hsj a oi.dst v h1] at h
    rw [semAt_run hdj]
    generalize hr : (execOp a.eval oj).run P w = rr at *
    cases rr with
    | ok x w' =>
      cases x <;> simp only [Oper.uponIn] at h ⊢
      case value u => exact ⟨keep a hy u, by rw [← Act.put_comm a v u h2]; exact h⟩
      case skip => exact ⟨keep a hy _, by rw [← Act.put_comm a v undef h2]; exact h⟩
      case defer d =>
        refine ⟨?_, ?_⟩
        · exact (show YieldsIf P ops S oi v { a with defers := d :: a.defers } from hy.of_same rfl rfl).of_same (execOp_put oi hsi { a with defers := d :: a.defers } oj.dst undef h3) (wanted_put oi { a with defers := d :: a.defers } oj.dst undef h3)
        · rw [← Act.put_comm _ v undef h2, ← Act.put_defers]
          exact h
      case enter f args =>
        refine ⟨h.1, CallsIn.mono h.2 fun e w'' he => ?_⟩
        cases e with
        | returned u => exact ⟨keep a hy u, by rw [← Act.put_comm a v u h2]; exact he⟩
        | panicked c => exact hQ _ _ _ he
        | outgrown => exact he
      case row row args => exact ⟨h.1, RowsIn.mono h.2 fun u w'' he => ⟨keep a hy u, by rw [← Act.put_comm a v u h2]; exact he⟩⟩
      case round l f tmps assign body =>
        refine ⟨h.1, RoundIn.mono h.2 fun e w'' he => ?_⟩
        cases e with
        | returned u => exact ⟨keep a hy u, by rw [← Act.put_comm a v u h2]; exact he⟩
        | panicked c => exact hQ _ _ _ he
        | outgrown => exact he
    | halt x w' =>
      cases x <;> simp only [Oper.uponIn] at h ⊢
      case panic u => exact hQ _ _ _ h
  · rename_i hw
    simp only [hw] at h
    exact ⟨keep a hy _, by rw [← Act.put_comm a v undef h2]; exact h⟩

theorem wpAnyN_first {S : World → Prop} {N : Nat} (hN : tailOk ops N = true) {i : Nat} {oi : Oper} {v : Value} (hiN : i < N) (hi : ops[i]? = some oi) (hsel : ∀ (j : Nat) (o : Oper) cs b, ops[j]? = some o → o.op ≠ .select cs b)
    (hdef : ∀ (j : Nat) (o : Oper) c, ops[j]? = some o → o.op ≠ .defer c)
    (hQ : ∀ c a w, Q (.panic c) (a.put oi.dst v) w → Q (.panic c) a w) :
    ∀ (fuel : Nat) (listed : Array Bool) (a : Act) (w : World),
      (∀ j oj, ops[j]? = some oj → j ≠ i → listed.getD j true = false → (∀ e ∈ oj.after, Region.binds .any e = true → e.on ≠ i) → oi.apart ops oj = true) →
      i ∈ Region.ready .any ops listed → YieldsIf P ops S oi v a → S w →
      wpAnyN r₀ P ops Q S N fuel (listed.setIfInBounds i true) (a.put oi.dst v) w → wpAnyN r₀ P ops Q S N (fuel + 1) listed a w := by
  intro fuel
  induction fuel with
  | zero =>
    intro listed a w _ hr hy hS H
    refine ⟨fun h => (by rw [h] at hr; cases hr), fun j hj => ?_⟩
    by_cases hji : j = i
    · subst hji; exact yif_opW hi hy hS ⟨fun _ => hS, H⟩
    · have := ready_mono hj hji
      rw [H.1] at this
      cases this
  | succ fuel ih =>
    intro listed a w hfree hr hy hS H
    refine ⟨fun h => (by rw [h] at hr; cases hr), fun j hj => ?_⟩
    by_cases hji : j = i
    · subst hji; exact yif_opW hi hy hS ⟨fun _ => hS, H⟩
    · have h1 := H.2 j (ready_mono hj hji)
      obtain ⟨hjun, oj, hoj, hall⟩ := mem_ready.1 hj
      have hjN : j < N := tailOk_spec hN hiN (mem_ready.1 hr).1 hj hoj
      have hnot : ∀ e ∈ oj.after, Region.binds .any e = true → e.on ≠ i := fun e he hb heq => by
        have h1 := hall e he hb
        have h0 := (mem_ready.1 hr).1
        rw [heq] at h1
        rcases Nat.lt_or_ge i listed.size with h' | h'
        · simp [h'] at h0 h1; rw [h0] at h1; cases h1
        · simp [Array.getElem?_eq_none h'] at h1
      have h2 := opW_putIf hoj (hfree j oj hoj hji hjun hnot) (fun cs b => hsel i oi cs b hi) (fun cs b => hsel j oj cs b hoj) (fun c => hdef j oj c hoj) hQ hy h1
      have hfree' : ∀ k ok, ops[k]? = some ok → k ≠ i → (listed.setIfInBounds j true).getD k true = false →
          (∀ e ∈ ok.after, Region.binds .any e = true → e.on ≠ i) → oi.apart ops ok = true := fun k ok hk hki hun hno => by
        refine hfree k ok hk hki ?_ hno
        by_cases hjk : j = k
        · subst hjk; exact hjun
        · rw [getD_set_ne true hjk] at hun; exact hun
      refine opW_mono (fun a' w' h3 => ?_) h2
      have hSw := h3.2.1 hjN
      refine ⟨fun _ => hSw, ih (listed.setIfInBounds j true) a' w' hfree' (ready_mono hr (Ne.symm hji)) h3.1 hSw ?_⟩
      rw [Array.setIfInBounds_comm _ _ hji]
      exact h3.2.2

def noDefer (ops : Array Oper) : Bool := ops.all fun o => match o.op with | .defer _ => false | _ => true
theorem noDefer_spec (h : noDefer ops = true) (j : Nat) (o : Oper) (c : Call) (ho : ops[j]? = some o) : o.op ≠ .defer c := by
  intro hc
  obtain ⟨hj, rfl⟩ := Array.getElem?_eq_some_iff.1 ho
  have := (Array.all_eq_true.1 h) j hj
  rw [hc] at this
  simp at this

/-! ### The order -/
inductive Stp where
  | q (i : Nat)   -- it only looks
  | e (i : Nat)   -- it acts; nothing else may come

def chk (ops : Array Oper) (N : Nat) : Array Bool → List Stp → Bool
  | listed, [] => (Region.ready .any ops listed).isEmpty
  | listed, .q i :: r => Nat.blt i N && Region.free .any ops listed i && (Region.ready .any ops listed).contains i && chk ops N (listed.setIfInBounds i true) r
  | listed, .e i :: r => (Region.ready .any ops listed == [i]) && chk ops N (listed.setIfInBounds i true) r

/-- The walk in that order. -/
def sem (r₀ : Option Nat) (P : Program) (ops : Array Oper) (Q : Exit → Act → World → Prop) (S : World → Prop) (N : Nat) : List Stp → Act → World → Prop
  | [], a, w => Q .normal a w
  | .q i :: r, a, w => S w ∧ ∃ o v, ops[i]? = some o ∧ YieldsIf P ops S o v a ∧ sem r₀ P ops Q S N r (a.put o.dst v) w
  | .e i :: r, a, w => opW r₀ P ops Q i (fun a' w' => (i < N → S w') ∧ sem r₀ P ops Q S N r a' w') a w

theorem wpAnyN_of_sem {S : World → Prop} {N : Nat} (hN : tailOk ops N = true) (hs : Region.noSelect ops = true) (hdf : noDefer ops = true) (hQ : ∀ c a w (d : Option Tmp) v, Q (.panic c) (a.put d v) w → Q (.panic c) a w) :
    ∀ (ord : List Stp) (listed : Array Bool) (a : Act) (w : World) (fuel : Nat), chk ops N listed ord = true → ord.length ≤ fuel → sem r₀ P ops Q S N ord a w → wpAnyN r₀ P ops Q S N fuel listed a w
  | [], listed, a, w, fuel, hc, _, h => by
    have hr : Region.ready .any ops listed = [] := by simpa [chk] using hc
    cases fuel with
    | zero => exact ⟨hr, h⟩
    | succ f => exact ⟨fun _ => h, by rw [hr]; simp⟩
  | .q i :: r, listed, a, w, fuel, hc, hl, h => by
    obtain ⟨hS, o, v, ho, hy, hrest⟩ := h
    simp only [chk, Bool.and_eq_true] at hc
    obtain ⟨⟨⟨h1, h2⟩, h3⟩, h4⟩ := hc
    have hiN : i < N := Nat.lt_of_succ_le (Nat.le_of_ble_eq_true h1)
    cases fuel with
    | zero => simp at hl
    | succ f =>
      exact wpAnyN_first hN hiN ho (Region.noSelect_spec hs) (noDefer_spec hdf) (fun c a w => hQ c a w _ _) f listed a w (Region.free_spec ho h2) (by simpa using h3) hy hS
        (wpAnyN_of_sem hN hs hdf hQ r _ _ _ f h4 (by simp at hl; omega) hrest)
  | .e i :: r, listed, a, w, fuel, hc, hl, h => by
    simp only [chk, Bool.and_eq_true] at hc
    obtain ⟨h1, h2⟩ := hc
    have hr : Region.ready .any ops listed = [i] := by simpa using h1
    cases fuel with
    | zero => simp at hl
    | succ f =>
      refine ⟨fun h0 => (by rw [hr] at h0; cases h0), fun j hj => ?_⟩
      rw [hr] at hj
      obtain rfl : j = i := by simpa using hj
      exact opW_mono (fun a' w' h' => ⟨h'.1, wpAnyN_of_sem hN hs hdf hQ r _ _ _ f h2 (by simp at hl; omega) h'.2⟩) h

/-- **A region that draws.** -/
theorem region_draw {id : Nat} {a : Act} {w : World} (S : World → Prop) (N : Nat) (ord : List Stp) (hm : P.follows .mixedOrders = true)
    (hc : (tailOk ops N && Region.noSelect ops && noDefer ops && chk ops N (Array.replicate ops.size false) ord && Nat.ble ord.length ops.size) = true)
    (hQ : ∀ c a w (d : Option Tmp) v, Q (.panic c) (a.put d v) w → Q (.panic c) a w)
    (h : sem r₀ P ops Q S N ord a w.drew) : (Code.region id ops true).wpIn (FW r₀) 0 P Q a w := by
  simp only [Bool.and_eq_true] at hc
  obtain ⟨⟨⟨⟨h1, h2⟩, h5⟩, h3⟩, h4⟩ := hc
  exact wpIn_region_any hm (wpAny_of_N _ _ _ _ (wpAnyN_of_sem h1 h2 h5 hQ ord _ _ _ _ h3 (Nat.le_of_ble_eq_true h4) h))

/-! ### The moves -/
variable {S : World → Prop} {N : Nat} {r : List Stp} {a : Act} {w z : World} {ss : List HL}

/-- Several that only compute, one behind the other. -/
def qs : List Nat → List Stp → List Stp
  | [], r => r
  | i :: l, r => .q i :: qs l r

/-- What S says in a region: these blocks are there. -/
def Has (l : HL) (w : World) : Prop := ∀ p ∈ l, w.heap[p.1]? = some p.2
end Go.SL
