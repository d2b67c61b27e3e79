import Derived.Test.YtkfkfpgnapncaaaGreatDoorEvX
set_option linter.unusedSimpArgs false
set_option linter.unusedVariables false
/-! Functions that answer alike at every start: what a table holds; the functions by their numbers. -/
noncomputable section
namespace Go.EV
open Go Go.RowKit Go.SL

/-- Values in which no block is named. -/
def plV : Nat → Value → Bool
  | 0, _ => false
  | d + 1, v => match v with
    | .bool _ | .int _ _ | .string _ | .nilIface | .nilFunc => true
    | .agg cs => cs.toList.all (plV d)
    | .tuple cs => cs.toList.all (plV d)
    | _ => false

theorem plV_arr {d : Nat} {cs : Array Value} (h : cs.toList.all (plV d) = true) {i : Nat} {x : Value} (hx : cs[i]? = some x) : plV d x = true :=
  List.all_eq_true.1 h x (by rw [← Array.getElem?_toList] at hx; exact List.mem_of_getElem? hx)

theorem plV_vr {ρ : Ren} : ∀ (d : Nat) (v : Value), plV d v = true → VR ρ v v
  | 0, _, h => by cases h
  | d + 1, v, h => by
    unfold plV at h
    split at h
    · exact .bool _
    · exact .int _ _
    · exact .str _
    · exact .nilI
    · exact .nilF
    · refine .agg rfl fun i x x' h1 h2 => ?_
      rw [h1] at h2
      obtain rfl := Option.some.inj h2
      exact plV_vr d x (plV_arr h h1)
    · refine .tup rfl fun i x x' h1 h2 => ?_
      rw [h1] at h2
      obtain rfl := Option.some.inj h2
      exact plV_vr d x (plV_arr h h1)
    · cases h

theorem arr_eq {cs cs' : Array Value} (hs : cs.size = cs'.size) (h : ∀ (i : Nat) (x x' : Value), cs[i]? = some x → cs'[i]? = some x' → x' = x) : cs' = cs := by
  apply Array.ext hs.symm
  intro i h1 h2
  exact h i cs[i] cs'[i] (by simp [h2]) (by simp [h1])

theorem plV_eq {ρ : Ren} : ∀ (d : Nat) (v v' : Value), plV d v = true → VR ρ v v' → v' = v
  | 0, _, _, h, _ => by cases h
  | d + 1, v, v', h, hv => by
    unfold plV at h
    split at h
    · cases hv; rfl
    · cases hv; rfl
    · cases hv; rfl
    · cases hv; rfl
    · cases hv; rfl
    · cases hv with
      | agg h1 h2 => rw [arr_eq h1 fun i x x' a b => plV_eq d x x' (plV_arr h a) (h2 i x x' a b)]
    · cases hv with
      | tup h1 h2 => rw [arr_eq h1 fun i x x' a b => plV_eq d x x' (plV_arr h a) (h2 i x x' a b)]
    · cases h

theorem plVs_eq {ρ : Ren} {d : Nat} : ∀ {l l' : List Value}, l.all (plV d) = true → VRs ρ l l' → l' = l
  | [], [], _, _ => rfl
  | x :: l, x' :: l', h, hv => by
    rw [List.all_cons, Bool.and_eq_true] at h
    rw [plV_eq d x x' h.1 hv.1, plVs_eq h.2 hv.2]
  | [], _ :: _, _, hv => hv.elim
  | _ :: _, [], _, hv => hv.elim
theorem plVs_vr {ρ : Ren} {d : Nat} : ∀ {l : List Value}, l.all (plV d) = true → VRs ρ l l
  | [], _ => trivial
  | x :: l, h => by
    rw [List.all_cons, Bool.and_eq_true] at h
    exact ⟨plV_vr d x h.1, plVs_vr h.2⟩

theorem eqVs_eq (d : Nat) (l l' : List Value) (h : eqV.eqL d l l' = true) : l = l' := by
  have := eqV_eq (d + 1) (.agg l.toArray) (.agg l'.toArray) (by unfold eqV; exact h)
  simpa using this

/-- What a world keeps. -/
structure Kept (w w' : World) : Prop where
  os : w'.os = w.os
  tape : w'.tape = w.tape
  output : w'.output = w.output
  size : w.heap.size ≤ w'.heap.size
  heap : ∀ (b : Nat) (o : Obj), w.heap[b]? = some o → w'.heap[b]? = some o

/-- At every start it answers so, and changes nothing that was. -/
structure PureF (P : Program) (f : FuncId) (args : List Value) (res : Value) : Prop where
  call : ∀ (as : Array Value) (w : World), (callFunc f as).run P w = .ok (.enter f as) w
  run : ∀ (w : World) (et : TypeId), w.heap[0]? = some (.cells spA et (0, 0)) → Calls P f args.toArray w (fun e w' => e = .returned res ∧ Kept w w')

/-- The start of a computed walk: G variables of packages, of which strings.asciiSpace is the first. -/
def stA (G : Nat) (et : TypeId) : St := { h := (Tri.leaf : Tri AO).set 0 (some (.ro et)), n := G }
def renA (G : Nat) : Ren := fun i => if i < G then some (i, 1) else none
def topR (res : Value) : Option (CR × St) → Option AO
  | some (.ok v, st) => match eqV 5 v res with
    | true => st.h.get 0
    | false => none
  | _ => none

variable {P : Program} {T : TT} {G : Nat}

theorem wrA (hG : 0 < G) {w : World} {et : TypeId} (h0 : w.heap[0]? = some (.cells spA et (0, 0))) : WR G T (renA G) (stA G et).h.get (stA G et).n (fun b => if b = 0 then none else w.heap[b]?) w w := by
  have hget : ∀ i o, (stA G et).h.get i = some o → i = 0 ∧ o = .ro et := fun i o h => by
    unfold stA at h
    simp only at h
    rw [Tri.get_set (by rfl)] at h
    by_cases e : i = 0
    · rw [if_pos e] at h; exact ⟨e, (Option.some.inj h).symm⟩
    · rw [if_neg e, Tri.get_leaf] at h; cases h
  refine ⟨rfl, rfl, rfl, Nat.le_refl _, fun i hi => if_neg (Nat.not_lt.2 hi), ?_, ?_, ?_, fun g hg => ⟨1, if_pos hg⟩⟩
  · intro i o h
    obtain ⟨rfl, rfl⟩ := hget i o h
    exact ⟨0, 1, _, if_pos hG, h0, rfl, rfl⟩
  · intro i j oi oj b C C' h1 h2 _ _
    rw [(hget i oi h1).1, (hget j oj h2).1]
  · intro b o h
    by_cases e : b = 0
    · subst e; simp at h
    · simpa [e] using h

theorem pure_of_run (hG : 0 < G) {orc : Orc} (hO : OrcOK P T G orc) {f : FuncId} {args : List Value} {res : Value} (ha : args.all (plV 5) = true) (hp : plV 5 res = true)
    (hr : ∀ et, topR res (orc.call f args (stA G et)) = some (.ro et)) : PureF P f args res := by
  have key : ∀ et, ∃ st', orc.call f args (stA G et) = some (.ok res, st') ∧ st'.h.get 0 = some (.ro et) := fun et => by
    have h := hr et
    unfold topR at h
    split at h
    · rename_i v st hv
      split at h
      · rename_i he
        obtain rfl := eqV_eq 5 v res he
        exact ⟨st, hv, h⟩
      · cases h
    · cases h
  have main : ∀ (w : World) (et : TypeId), w.heap[0]? = some (.cells spA et (0, 0)) → (∀ (as : Array Value) (w : World), (callFunc f as).run P w = .ok (.enter f as) w) ∧ Calls P f args.toArray w (fun e w' => e = .returned res ∧ Kept w w') := by
    intro w et h0
    obtain ⟨st', h1, h2⟩ := key et
    obtain ⟨g1, g2⟩ := hO.call h1 (wrA (T := T) hG h0) (plVs_vr ha)
    refine ⟨g1, g2.mono fun e w' ⟨_, ρ', hext, hw, hc⟩ => ?_⟩
    obtain ⟨v', rfl, hv⟩ := hc
    refine ⟨by rw [plV_eq 5 res v' hp hv], hw.os, hw.tape, hw.output, hw.size, fun b o hb => ?_⟩
    by_cases e : b = 0
    · subst e
      obtain ⟨b', C, o', k1, k2, _, rfl⟩ := hw.hp 0 _ h2
      rw [hext 0 hG] at k1
      have : renA G 0 = some (0, 1) := if_pos hG
      rw [this] at k1
      obtain ⟨rfl, rfl⟩ := Prod.mk.inj (Option.some.inj k1)
      rw [k2, ← hb, h0]
    · exact hw.fr b o (by simpa [e] using hb)
  refine ⟨?_, fun w et h0 => (main w et h0).2⟩
  exact (main { heap := #[.cells spA 0 (0, 0)], tape := fun _ _ => 0, drawn := 0, os := default, output := #[] } 0 rfl).1

/-! ### Tables -/
abbrev Tb := List (FuncId × List Value × Value)
def tbOf : Tb → FuncId → List Value → St → Option (CR × St)
  | [], _, _, _ => none
  | (g, as, res) :: r, f, args, st => match Nat.beq g f with
    | true => match eqV.eqL 5 args as, st.h.get 0 with
      | true, some (.ro _) => some (.ok res, st)
      | _, _ => tbOf r f args st
    | false => tbOf r f args st
structure TbE (P : Program) (e : FuncId × List Value × Value) : Prop where
  pure : PureF P e.1 e.2.1 e.2.2
  args : e.2.1.all (plV 5) = true
  res : plV 5 e.2.2 = true

theorem tbOf_spec : ∀ {l : Tb} {f : FuncId} {args : List Value} {st st' : St} {r : CR}, tbOf l f args st = some (r, st') → ∃ res et, (f, args, res) ∈ l ∧ r = .ok res ∧ st' = st ∧ st.h.get 0 = some (.ro et)
  | [], _, _, _, _, _, h => by simp [tbOf] at h
  | (g, as, res) :: l, f, args, st, st', r, h => by
    unfold tbOf at h
    split at h
    · rename_i hg
      split at h
      · rename_i et he hr
        simp only [Option.some.injEq, Prod.mk.injEq] at h
        obtain ⟨rfl, rfl⟩ := h
        obtain rfl := Nat.eq_of_beq_eq_true hg
        obtain rfl := eqVs_eq 5 args as he
        exact ⟨res, et, List.mem_cons_self, rfl, rfl, hr⟩
      · obtain ⟨r', et, h1, h2⟩ := tbOf_spec h
        exact ⟨r', et, List.mem_cons_of_mem _ h1, h2⟩
    · obtain ⟨r', et, h1, h2⟩ := tbOf_spec h
      exact ⟨r', et, List.mem_cons_of_mem _ h1, h2⟩

theorem tab_ok (hG : 0 < G) {l : Tb} (hl : ∀ e ∈ l, TbE P e) : TabOK P T G (tbOf l) := by
  intro f args args' st st' r ρ L z w h hw hv
  obtain ⟨res, et, h1, rfl, rfl, h4⟩ := tbOf_spec h
  obtain ⟨hp, ha, hres⟩ := hl _ h1
  obtain rfl := plVs_eq ha hv
  obtain ⟨b, C, o', k1, k2, k3, rfl⟩ := hw.hp 0 _ h4
  obtain ⟨C', hg⟩ := hw.gl 0 hG
  rw [hg] at k1
  obtain ⟨rfl, rfl⟩ := Prod.mk.inj (Option.some.inj k1)
  refine ⟨hp.call, (hp.run w et k2).mono fun e w' ⟨he, hk⟩ => ?_⟩
  refine ⟨Nat.le_refl _, ρ, Ext.refl _ _, ⟨hk.os.trans hw.os, hk.tape.trans hw.tape, hk.output.trans hw.output, Nat.le_trans hw.size hk.size, hw.dom, ?_, hw.inj, fun b o hb => hk.heap b o (hw.fr b o hb), hw.gl⟩, ⟨res, he, plV_vr 5 res hres⟩⟩
  intro i o hi
  obtain ⟨b, C, o', q1, q2, q3, q4⟩ := hw.hp i o hi
  exact ⟨b, C, o', q1, hk.heap b o' q2, q3, q4⟩

/-! ### The functions by their numbers -/
def Tri.AllN {α : Type} (p : Nat → α → Prop) : Tri α → (Nat → Nat) → Prop
  | .leaf, _ => True
  | .node v l r, g => (∀ x, v = some x → p (g 0) x) ∧ AllN p l (fun k => g (2 * k + 1)) ∧ AllN p r (fun k => g (2 * k + 2))
theorem Tri.AllN.get {α : Type} {p : Nat → α → Prop} : ∀ {t : Tri α} {g : Nat → Nat}, t.AllN p g → ∀ (k : Nat) (x : α), t.get k = some x → p (g k) x
  | .leaf, _, _, k, x, hx => by rw [Tri.get_leaf] at hx; cases hx
  | .node v l r, g, h, 0, x, hx => h.1 x hx
  | .node v l r, g, h, k + 1, x, hx => by
    rw [Tri.get_node] at hx
    by_cases e : k % 2 = 0
    · rw [if_pos e] at hx
      have : p (g (2 * (k / 2) + 1)) x := AllN.get h.2.1 (k / 2) x hx
      rwa [show 2 * (k / 2) + 1 = k + 1 by omega] at this
    · rw [if_neg e] at hx
      have : p (g (2 * (k / 2) + 2)) x := AllN.get h.2.2 (k / 2) x hx
      rwa [show 2 * (k / 2) + 2 = k + 1 by omega] at this

def FOne (P : Program) (f : Nat) (fn : Func) : Prop := P.funcs[f]? = some fn ∧ (fn.name == "runtime.NumGoroutine") = false
theorem fok_all {t : Tri Func} (h : t.AllN (FOne P) (fun k => k)) : FOK P t.get := fun f fn hf => by
  obtain ⟨h1, h2⟩ := h.get f fn hf
  refine ⟨h1, fun hb as w => ?_⟩
  cases hbd : fn.body with
  | none => rw [hbd] at hb; cases hb
  | some c =>
    have h3 : ¬ fn.name = "runtime.NumGoroutine" := by simpa using h2
    simp [callFunc, h1, h3, hbd]
theorem fone {f : Nat} {fn : Func} (h : P.funcs[f]? = some fn) (hn : (fn.name == "runtime.NumGoroutine") = false) : ∀ x, some fn = some x → FOne P f x := fun x hx => by
  obtain rfl := Option.some.inj hx
  exact ⟨h, hn⟩
theorem fnone {f : Nat} : ∀ x, (none : Option Func) = some x → FOne P f x := fun x hx => by cases hx
end Go.EV
