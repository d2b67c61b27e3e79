import Derived.Test.YtkfkfpgnapncaaaGreatDoorSlP
/-! Regions that draw, where new blocks are laid at any time beside what goes on in an order. -/
namespace Go.SL
open Go Go.RowKit
variable {ro : Option Nat} {P : Program} {T : TT} {ops : Array Oper} {Q : Exit → Act → World → Prop} {w z : World} {ss : List HL} {nt : Nat} {ds : List Deferred} {env env' : Env} {Kp : Env → World → Prop} {k : Nat}

theorem Own.fperm {tt : List HL} (h : Own z w ss) (hs : ss.flatten.Perm tt.flatten) : Own z w tt :=
  ⟨h.os, h.tape, h.output, h.size, (hs.map (·.1)).nodup_iff.1 h.nd, fun p hp => h.at_ p (hs.mem_iff.2 hp)⟩

/-- An operation leaves the slots of others alone. -/
theorem opW_slot {i : Nat} {K : Act → World → Prop} {a : Act} (s : Nat) (hd : ∀ o, ops[i]? = some o → o.dst ≠ some s) (h : opW ro P ops Q i K a w) :
    opW ro P ops Q i (fun a' w' => K a' w' ∧ a'.tmps.getD s undef = a.tmps.getD s undef) a w := by
  have keep : ∀ (a : Act) (o : Oper) (u : Value), ops[i]? = some o → (a.put o.dst u).tmps.getD s undef = a.tmps.getD s undef := by
    intro a o u ho
    have hne := hd o ho
    cases hdst : o.dst with
    | none => rfl
    | some d =>
      have : d ≠ s := fun e => hne (by rw [hdst, e])
      simp [Act.put, Array.getD_eq_getD_getElem?, Array.getElem?_setIfInBounds_ne this]
  unfold opW at *
  split
  · rename_i ho; simp only [ho] at h; exact ⟨h, rfl⟩
  · rename_i o ho
    simp only [ho] at h
    split
    · rename_i hw
      simp only [hw, if_true] at h
      unfold Oper.wpIn at *
      obtain ⟨h0, h⟩ := h
      refine ⟨h0, ?_⟩
      clear h0
      generalize (o.semAt (FW ro).round a.eval).run P w = rr at *
      cases rr with
      | ok x w' =>
        cases x <;> simp only [Oper.uponIn] at h ⊢
        case value u => exact ⟨h, keep a o u ho⟩
        case skip => exact ⟨h, keep a o undef ho⟩
        case defer d => exact ⟨h, keep { a with defers := d :: a.defers } o undef ho⟩
        case enter f args =>
          refine ⟨h.1, CallsIn.mono h.2 fun e w'' he => ?_⟩
          cases e with
          | returned u => exact ⟨he, keep a o u ho⟩
          | panicked c => exact he
          | outgrown => exact he
        case row row args => exact ⟨h.1, RowsIn.mono h.2 fun u w'' he => ⟨he, keep a o u ho⟩⟩
        case round l f tmps assign body =>
          refine ⟨h.1, RoundIn.mono h.2 fun e w'' he => ?_⟩
          cases e with
          | returned u => exact ⟨he, keep a o u ho⟩
          | panicked c => exact he
          | outgrown => exact he
      | halt x w' => cases x <;> simp only [Oper.uponIn] at h ⊢ <;> exact h
    · rename_i hw
      simp only [hw] at h
      exact ⟨h, keep a o undef ho⟩

/-! ### Operations that only lay a block -/
structure FSpec where
  i : Nat
  d : Nat
  o : Obj

/-- It lays the block o, whenever it is carried out. -/
structure FOK (P : Program) (ops : Array Oper) (nt : Nat) (f : FSpec) : Prop where
  run : ∃ op, ops[f.i]? = some op ∧ op.dst = some f.d ∧ op.guard = none ∧ f.d < nt ∧ ∀ ρ (w : World), (execOp ρ op).run P w = .ok (.value (.pointer (some ⟨w.heap.size, 0, none⟩))) { w with heap := w.heap.push f.o }

theorem fok_alloc (hT : TOK P T) {i d : Nat} {op : Oper} {t : TypeId} {e : TE} {v : Value} (ho : ops[i]? = some op := by rfl) (hop : op.op = .alloc t := by rfl) (hd : op.dst = some d := by rfl) (hg : op.guard = none := by rfl) (hlt : Nat.blt d nt = true := by rfl) (ht : T t = some e := by rfl) (hz : e.zero = some v := by rfl) :
    FOK P ops nt ⟨i, d, .cells v.cells t (0, 0)⟩ := by
  refine ⟨op, ho, hd, hg, Nat.lt_of_succ_le (Nat.le_of_ble_eq_true hlt), fun ρ w => ?_⟩
  obtain ⟨dst, op, type, pos, after, guard⟩ := op
  simp only at hop
  subst hop
  simp [execOp, Instr.alloc, run_zero hT ht hz, newVar, newRow]

abbrev FL := List (FSpec × Option Nat)
def flH : FL → HL
  | [] => []
  | (f, some b) :: r => (b, f.o) :: flH r
  | (_, none) :: r => flH r
def markF : Array Bool → FL → Array Bool
  | L, [] => L
  | L, (f, some _) :: r => markF (L.setIfInBounds f.i true) r
  | L, (_, none) :: r => markF L r
def ndF : List Nat → FL → List Nat
  | nd, [] => nd
  | nd, (_, some _) :: r => ndF nd r
  | nd, (f, none) :: r => ndF (f.i :: nd) r
def subs (p : Array Bool → List Nat → Bool) : Array Bool → List Nat → List FSpec → Bool
  | L, nd, [] => p L nd
  | L, nd, f :: r => subs p (L.setIfInBounds f.i true) nd r && subs p L (f.i :: nd) r

theorem subs_spec {p : Array Bool → List Nat → Bool} : ∀ (fs : FL) (L : Array Bool) (nd : List Nat), subs p L nd (fs.map (·.1)) = true → p (markF L fs) (ndF nd fs) = true
  | [], _, _, h => h
  | (f, some _) :: r, L, nd, h => by simp only [List.map_cons, subs, Bool.and_eq_true] at h; exact subs_spec r _ _ h.1
  | (f, none) :: r, L, nd, h => by simp only [List.map_cons, subs, Bool.and_eq_true] at h; exact subs_spec r _ _ h.2

theorem mem_ndF {j : Nat} : ∀ (fs : FL) (nd : List Nat), j ∈ ndF nd fs → j ∈ nd ∨ ∃ (k : Nat) (f : FSpec), fs[k]? = some (f, none) ∧ f.i = j
  | [], _, h => .inl h
  | (f, some _) :: r, nd, h => by
    rcases mem_ndF r nd h with h | ⟨k, g, h1, h2⟩
    · exact .inl h
    · exact .inr ⟨k + 1, g, by simpa using h1, h2⟩
  | (f, none) :: r, nd, h => by
    rcases mem_ndF r _ h with h | ⟨k, g, h1, h2⟩
    · rcases List.mem_cons.1 h with h | h
      · exact .inr ⟨0, f, rfl, h.symm⟩
      · exact .inl h
    · exact .inr ⟨k + 1, g, by simpa using h1, h2⟩
theorem ndF_mem {j : Nat} : ∀ (fs : FL) (nd : List Nat), j ∈ nd → j ∈ ndF nd fs
  | [], _, h => h
  | (_, some _) :: r, nd, h => ndF_mem r nd h
  | (_, none) :: r, nd, h => ndF_mem r _ (List.mem_cons_of_mem _ h)
theorem ndF_of {f : FSpec} : ∀ (fs : FL) (nd : List Nat) (k : Nat), fs[k]? = some (f, none) → f.i ∈ ndF nd fs
  | [], _, _, h => by simp at h
  | (g, o) :: r, nd, 0, h => by
    simp only [List.getElem?_cons_zero, Option.some.injEq, Prod.mk.injEq] at h
    obtain ⟨rfl, rfl⟩ := h
    exact ndF_mem r _ List.mem_cons_self
  | (g, some _) :: r, nd, k + 1, h => ndF_of r nd k (by simpa using h)
  | (g, none) :: r, nd, k + 1, h => ndF_of r _ k (by simpa using h)

theorem set_comm2 (L : Array Bool) (i j : Nat) : (L.setIfInBounds i true).setIfInBounds j true = (L.setIfInBounds j true).setIfInBounds i true := by
  by_cases h : i = j
  · subst h; rfl
  · exact Array.setIfInBounds_comm _ _ h
theorem markF_set : ∀ (fs : FL) (L : Array Bool) (i : Nat), markF (L.setIfInBounds i true) fs = (markF L fs).setIfInBounds i true
  | [], _, _ => rfl
  | (f, some _) :: r, L, i => by simp only [markF]; rw [set_comm2, markF_set r]
  | (_, none) :: r, L, i => markF_set r L i
theorem markF_done {f : FSpec} {b : Nat} : ∀ (fs : FL) (L : Array Bool) (k : Nat), fs[k]? = some (f, none) → markF L (fs.set k (f, some b)) = (markF L fs).setIfInBounds f.i true
  | [], _, _, h => by simp at h
  | (g, o) :: r, L, 0, h => by
    simp only [List.getElem?_cons_zero, Option.some.injEq, Prod.mk.injEq] at h
    obtain ⟨rfl, rfl⟩ := h
    simp only [List.set_cons_zero, markF, markF_set]
  | (g, some _) :: r, L, k + 1, h => by simp only [List.set_cons_succ, markF]; exact markF_done r _ k (by simpa using h)
  | (g, none) :: r, L, k + 1, h => by simp only [List.set_cons_succ, markF]; exact markF_done r _ k (by simpa using h)
theorem flH_done {f : FSpec} {b : Nat} : ∀ (fs : FL) (k : Nat), fs[k]? = some (f, none) → ((flH fs) ++ [(b, f.o)]).Perm (flH (fs.set k (f, some b)))
  | [], _, h => by simp at h
  | (g, o) :: r, 0, h => by
    simp only [List.getElem?_cons_zero, Option.some.injEq, Prod.mk.injEq] at h
    obtain ⟨rfl, rfl⟩ := h
    simp only [List.set_cons_zero, flH]
    exact List.perm_append_comm
  | (g, some c) :: r, k + 1, h => by simp only [List.set_cons_succ, flH, List.cons_append]; exact (flH_done r k (by simpa using h)).cons _
  | (g, none) :: r, k + 1, h => by simp only [List.set_cons_succ, flH]; exact flH_done r k (by simpa using h)
/-- The float's place, once it is taken out. -/
theorem markF_out {f : FSpec} {b : Nat} : ∀ (fs : FL) (L : Array Bool) (k : Nat), fs[k]? = some (f, some b) → markF L fs = markF (L.setIfInBounds f.i true) (fs.eraseIdx k)
  | [], _, _, h => by simp at h
  | (g, o) :: r, L, 0, h => by
    simp only [List.getElem?_cons_zero, Option.some.injEq, Prod.mk.injEq] at h
    obtain ⟨rfl, rfl⟩ := h
    rfl
  | (g, some _) :: r, L, k + 1, h => by simp only [List.eraseIdx_cons_succ, markF]; rw [markF_out r _ k (by simpa using h), set_comm2]
  | (g, none) :: r, L, k + 1, h => by simp only [List.eraseIdx_cons_succ, markF]; exact markF_out r _ k (by simpa using h)
theorem flH_out {f : FSpec} {b : Nat} : ∀ (fs : FL) (k : Nat), fs[k]? = some (f, some b) → (flH fs).Perm ((b, f.o) :: flH (fs.eraseIdx k))
  | [], _, h => by simp at h
  | (g, o) :: r, 0, h => by
    simp only [List.getElem?_cons_zero, Option.some.injEq, Prod.mk.injEq] at h
    obtain ⟨rfl, rfl⟩ := h
    exact .refl _
  | (g, some c) :: r, k + 1, h => by simp only [List.eraseIdx_cons_succ, flH]; exact ((flH_out r k (by simpa using h)).cons _).trans (.swap _ _ _)
  | (g, none) :: r, k + 1, h => by simp only [List.eraseIdx_cons_succ, flH]; exact flH_out r k (by simpa using h)
def cntN : FL → Nat
  | [] => 0
  | (_, some _) :: r => cntN r
  | (_, none) :: r => cntN r + 1
theorem cntN_done {f : FSpec} {b : Nat} : ∀ (fs : FL) (k : Nat), fs[k]? = some (f, none) → cntN (fs.set k (f, some b)) + 1 = cntN fs
  | [], _, h => by simp at h
  | (g, o) :: r, 0, h => by
    simp only [List.getElem?_cons_zero, Option.some.injEq, Prod.mk.injEq] at h
    obtain ⟨rfl, rfl⟩ := h
    rfl
  | (g, some c) :: r, k + 1, h => by simp only [List.set_cons_succ, cntN]; exact cntN_done r k (by simpa using h)
  | (g, none) :: r, k + 1, h => by simp only [List.set_cons_succ, cntN]; have := cntN_done (b := b) r k (by simpa using h); omega
theorem cntN_out {f : FSpec} {b : Nat} : ∀ (fs : FL) (k : Nat), fs[k]? = some (f, some b) → cntN (fs.eraseIdx k) = cntN fs
  | [], _, h => by simp at h
  | (g, o) :: r, 0, h => by
    simp only [List.getElem?_cons_zero, Option.some.injEq, Prod.mk.injEq] at h
    obtain ⟨rfl, rfl⟩ := h
    rfl
  | (g, some c) :: r, k + 1, h => by simp only [List.eraseIdx_cons_succ, cntN]; exact cntN_out r k (by simpa using h)
  | (g, none) :: r, k + 1, h => by simp only [List.eraseIdx_cons_succ, cntN]; rw [cntN_out r k (by simpa using h)]

/-! ### The order -/
inductive StF where
  | q (i : Nat)   -- it only looks
  | e (i : Nat)   -- it acts
  | f (k : Nat)   -- block number k of those that are left is needed
def StF.nf : List StF → Nat
  | [] => 0
  | .f _ :: r => nf r
  | _ :: r => nf r + 1

def clearD (ops : Array Oper) (i : Nat) (pend : List FSpec) : Bool := pend.all fun f => (ops[i]?).any fun o => match o.dst with | some d => !(Nat.beq d f.d) | none => true
def chkF (ops : Array Oper) (N : Nat) : Array Bool → List FSpec → List StF → Bool
  | L, pend, [] => pend.isEmpty && (Region.ready .any ops L).isEmpty
  | L, pend, .q i :: r => Nat.blt i N && clearD ops i pend && subs (fun L _ => (Region.ready .any ops L).contains i && Region.free .any ops L i) L [] pend && chkF ops N (L.setIfInBounds i true) pend r
  | L, pend, .e i :: r => clearD ops i pend && subs (fun L nd => (Region.ready .any ops L).contains i && (Region.ready .any ops L).all fun j => Nat.beq j i || nd.contains j) L [] pend && chkF ops N (L.setIfInBounds i true) pend r
  | L, pend, .f k :: r => match pend[k]? with
    | none => false
    | some g => subs (fun L nd => !(nd.contains g.i) || ((Region.ready .any ops L).contains g.i && (Region.ready .any ops L).all fun j => nd.contains j)) L [] pend && chkF ops N (L.setIfInBounds g.i true) (pend.eraseIdx k) r

def freshE (env : Env) (pend : List FSpec) : Bool := pend.all fun f => (look env f.d).isNone
/-- The walk in that order; blocks that are left may be laid at any time. -/
def WK (ro : Option Nat) (P : Program) (ops : Array Oper) (Q : Exit → Act → World → Prop) (S : World → Prop) (N nt : Nat) (ds : List Deferred) (z : World) : List StF → List FSpec → Env → List HL → Prop
  | [], _, env, ss => ∀ X w, Own z w (ss ++ [X]) → QE Q .normal nt ds env w
  | .q i :: r, pend, env, ss => freshE env pend = true ∧ (∀ X w, Own z w (ss ++ [X]) → S w) ∧ ∃ o d v, ops[i]? = some o ∧ o.dst = some d ∧ d < nt ∧ (∀ a, Fr nt ds env a → YieldsIf P ops S o v a) ∧ WK ro P ops Q S N nt ds z r pend ((d, v) :: env) ss
  | .e i :: r, pend, env, ss => freshE env pend = true ∧ ((∃ f ∈ pend, f.i < N) → ∀ X w, Own z w (ss ++ [X]) → S w) ∧
      ∀ X w, Own z w (ss ++ [X]) → OE ro P ops Q i nt ds env w (fun env' w' => (i < N → S w') ∧ ∃ ss', Own z w' (ss' ++ [X]) ∧ WK ro P ops Q S N nt ds z r pend env' ss')
  | .f k :: r, pend, env, ss => freshE env pend = true ∧ ((∃ f ∈ pend, f.i < N) → ∀ X w, Own z w (ss ++ [X]) → S w) ∧ ∃ f, pend[k]? = some f ∧ ∀ b, WK ro P ops Q S N nt ds z r (pend.eraseIdx k) ((f.d, .pointer (some ⟨b, 0, none⟩)) :: env) (ss ++ [[(b, f.o)]])

/-- One that is left is laid. -/
theorem fl_step {S : World → Prop} {N : Nat} {z : World} {f : FSpec} {a : Act} {K : Act → World → Prop} (hf : FOK P ops nt f)
    (h : ∀ b w', w'.heap = w.heap.push f.o → (∀ ss, Own z w ss → Own z w' (ss ++ [[(b, f.o)]])) → K (a.put (some f.d) (.pointer (some ⟨b, 0, none⟩))) w') :
    opW ro P ops Q f.i K a w := by
  obtain ⟨op, ho, hd, hg, _, hr⟩ := hf.run
  have hw : wantB ops a op = true := by unfold wantB Region.wanted; rw [hg]
  refine wpOp_val ho hw (hr a.eval w) ?_
  rw [hd]
  exact h _ _ rfl fun ss hO => hO.alloc _

/-- What is known while blocks are left. -/
structure KF (z : World) (nt : Nat) (ds : List Deferred) (env : Env) (ss : List HL) (X : HL) (fs : FL) (a : Act) (w : World) : Prop where
  own : Own z w (ss ++ [X ++ flH fs])
  fr : Fr nt ds env a
  sl : ∀ (k : Nat) (f : FSpec) (b : Nat), fs[k]? = some (f, some b) → a.tmps.getD f.d undef = .pointer (some ⟨b, 0, none⟩)

theorem Fr.skip {a : Act} {d : Nat} {v : Value} (h : Fr nt ds env a) (hd : d < nt) (hn : SL.look env d = none) : Fr nt ds env (a.put (some d) v) := by
  have h1 := h.put hd v
  refine ⟨h1.size, h1.defers, fun s u hs => ?_⟩
  rw [look_eq] at hs
  refine h1.look ?_
  simp only [SL.look]
  cases hb : Nat.beq s d with
  | true => rw [Nat.eq_of_beq_eq_true hb] at hs; rw [hn] at hs; cases hs
  | false => exact hs

theorem freshE_at {pend : List FSpec} {f : FSpec} (h : freshE env pend = true) (hf : f ∈ pend) : look env f.d = none := by
  have := List.all_eq_true.1 h f hf
  simpa using this

theorem put_slot {a : Act} {d s : Nat} {v : Value} (h : d ≠ s) : (a.put (some d) v).tmps.getD s undef = a.tmps.getD s undef := by
  simp [Act.put, Array.getD_eq_getD_getElem?, Array.getElem?_setIfInBounds_ne h]
theorem put_at {a : Act} {d : Nat} {v : Value} (h : d < a.tmps.size) : (a.put (some d) v).tmps.getD d undef = v := by
  simp [Act.put, h]

theorem map_erase {α β : Type} (g : α → β) : ∀ (l : List α) (k : Nat), (l.eraseIdx k).map g = (l.map g).eraseIdx k
  | [], _ => rfl
  | _ :: _, 0 => rfl
  | x :: l, k + 1 => by simp [map_erase g l k]
theorem clearD_at {i : Nat} {pend : List FSpec} {f : FSpec} {o : Oper} (h : clearD ops i pend = true) (hf : f ∈ pend) (ho : ops[i]? = some o) : o.dst ≠ some f.d := by
  have := List.all_eq_true.1 h f hf
  rw [ho] at this
  simp only [Option.any_some] at this
  intro hd
  rw [hd] at this
  simp at this

variable {S : World → Prop} {N : Nat}

theorem KF.lay {X : HL} {fs : FL} {a : Act} {kk b : Nat} {f : FSpec} {w' : World} (h : KF z nt ds env ss X fs a w) (hk : fs[kk]? = some (f, none)) (hnd : (fs.map (·.1.d)).Nodup) (hlt : f.d < nt) (hn : look env f.d = none)
    (hO : ∀ ss, Own z w ss → Own z w' (ss ++ [[(b, f.o)]])) : KF z nt ds env ss X (fs.set kk (f, some b)) (a.put (some f.d) (.pointer (some ⟨b, 0, none⟩))) w' := by
  refine ⟨?_, h.fr.skip hlt hn, fun j g c hj => ?_⟩
  · refine (hO _ h.own).fperm ?_
    simp only [List.flatten_append, List.flatten_cons, List.flatten_nil, List.append_nil, List.append_assoc]
    exact ((flH_done fs kk hk).append_left X).append_left _
  · rw [List.getElem?_set] at hj
    split at hj
    · rename_i hjk
      split at hj
      · simp only [Option.some.injEq, Prod.mk.injEq] at hj
        obtain ⟨rfl, rfl⟩ := hj
        exact put_at (by rw [h.fr.size]; exact hlt)
      · simp at hj
    · rename_i hjk
      have hne : f.d ≠ g.d := by
        intro e
        have h1 : (fs.map (·.1.d))[kk]? = some f.d := by simp [hk]
        have h2 : (fs.map (·.1.d))[j]? = some g.d := by simp [hj]
        have hl1 := (List.getElem?_eq_some_iff.1 h1).1
        have hl2 := (List.getElem?_eq_some_iff.1 h2).1
        exact hjk ((List.getElem_inj (h₀ := hl1) (h₁ := hl2) hnd).1 (by rw [(List.getElem?_eq_some_iff.1 h1).2, (List.getElem?_eq_some_iff.1 h2).2, e]))
      rw [put_slot hne]
      exact h.sl j g c hj

theorem wk_any (hN : tailOk ops N = true) (hs : Region.noSelect ops = true) (hdf : noDefer ops = true) (hQ : ∀ c a w (d : Option Tmp) v, Q (.panic c) (a.put d v) w → Q (.panic c) a w)
    (hSa : ∀ (w w' : World) o, w'.heap = w.heap.push o → S w → S w') :
    ∀ (m : Nat) (ord : List StF) (fs : FL) (env : Env) (ss : List HL) (X : HL) (L : Array Bool) (a : Act) (w : World) (fuel : Nat), ord.length + cntN fs ≤ m → WK ro P ops Q S N nt ds z ord (fs.map (·.1)) env ss →
      chkF ops N L (fs.map (·.1)) ord = true → (fs.map (·.1.d)).Nodup → (∀ f ∈ fs.map (·.1), FOK P ops nt f) → KF z nt ds env ss X fs a w → StF.nf ord + cntN fs ≤ fuel → wpAnyN ro P ops Q S N fuel (markF L fs) a w := by
  intro m
  induction m with
  | zero =>
    intro ord fs env ss X L a w fuel hm hk hc hnd hF hK hfu
    cases ord with
    | cons s r => simp at hm
    | nil =>
      simp only [chkF, Bool.and_eq_true, List.isEmpty_iff, List.map_eq_nil_iff] at hc
      obtain ⟨rfl, hr⟩ := hc
      have hq := hk _ _ hK.own a hK.fr
      cases fuel with
      | zero => exact ⟨hr, hq⟩
      | succ f => exact ⟨fun _ => hq, by simp only [markF]; rw [hr]; simp⟩
  | succ m ih =>
    intro ord fs env ss X L a w fuel hm hk hc hnd hF hK hfu
    -- a block that is left is laid now
    have lay : ∀ (fuel' : Nat) (kk : Nat) (f : FSpec), fs[kk]? = some (f, none) → freshE env (fs.map (·.1)) = true → ((∃ f ∈ fs.map (·.1), f.i < N) → S w) → StF.nf ord + cntN fs ≤ fuel' + 1 →
        opW ro P ops Q f.i (fun a' w' => (f.i < N → S w') ∧ wpAnyN ro P ops Q S N fuel' ((markF L fs).setIfInBounds f.i true) a' w') a w := by
      intro fuel' kk f hkk hfr hS hfu'
      have hmem : f ∈ fs.map (·.1) := List.mem_map.2 ⟨_, List.mem_of_getElem? hkk, rfl⟩
      have hfok := hF f hmem
      refine fl_step (S := S) (N := N) (z := z) hfok fun b w' hh hO => ?_
      obtain ⟨_, _, _, _, hlt, _⟩ := hfok.run
      have hmap : ((fs.set kk (f, some b)).map (·.1)) = fs.map (·.1) := by
        rw [List.map_set]
        apply List.ext_getElem?
        intro j
        rw [List.getElem?_set]
        split
        · rename_i hj
          subst hj
          split <;> simp_all
        · rfl
      have hmap2 : ((fs.set kk (f, some b)).map (·.1.d)) = fs.map (·.1.d) := by
        have := congrArg (List.map (·.d)) hmap
        rw [List.map_map, List.map_map] at this
        exact this
      have hcnt := cntN_done (b := b) fs kk hkk
      refine ⟨fun hlN => hSa w w' f.o hh (hS ⟨f, hmem, hlN⟩), ?_⟩
      rw [← markF_done (b := b) fs L kk hkk]
      exact ih ord _ env ss X L _ w' fuel' (by omega) (by rw [hmap]; exact hk) (by rw [hmap]; exact hc) (by rw [hmap2]; exact hnd) (by rw [hmap]; exact hF) (hK.lay hkk hnd hlt (freshE_at hfr hmem) hO) (by omega)
    cases ord with
    | nil =>
      simp only [chkF, Bool.and_eq_true, List.isEmpty_iff, List.map_eq_nil_iff] at hc
      obtain ⟨rfl, hr⟩ := hc
      have hq := hk _ _ hK.own a hK.fr
      cases fuel with
      | zero => exact ⟨hr, hq⟩
      | succ f => exact ⟨fun _ => hq, by simp only [markF]; rw [hr]; simp⟩
    | cons s r =>
      cases s with
      | q i =>
        simp only [chkF, Bool.and_eq_true] at hc
        obtain ⟨⟨⟨h1, h2⟩, h3⟩, h4⟩ := hc
        obtain ⟨hfr, hS, o, d, v, ho, hd, hlt, hy, hk'⟩ := hk
        have hiN : i < N := Nat.lt_of_succ_le (Nat.le_of_ble_eq_true h1)
        have h3 := subs_spec fs L [] h3
        simp only [Bool.and_eq_true] at h3
        cases fuel with
        | zero => simp [StF.nf] at hfu
        | succ fuel =>
          refine wpAnyN_first hN hiN ho (Region.noSelect_spec hs) (noDefer_spec hdf) (fun c a w => hQ c a w _ _) fuel _ a w (Region.free_spec ho h3.2) (by simpa using h3.1) (hy a hK.fr) (hS _ _ hK.own) ?_
          rw [← markF_set, hd]
          refine ih r fs _ ss X _ _ w fuel (by simp at hm; omega) hk' h4 hnd hF ⟨hK.own, hK.fr.put hlt v, fun j g b hj => ?_⟩ (by simp [StF.nf] at hfu; omega)
          rw [put_slot fun e => clearD_at h2 (List.mem_map.2 ⟨_, List.mem_of_getElem? hj, rfl⟩) ho (by rw [hd, e])]
          exact hK.sl j g b hj
      | e i =>
        simp only [chkF, Bool.and_eq_true] at hc
        obtain ⟨⟨h2, h3⟩, h4⟩ := hc
        obtain ⟨hfr, hS, hoe⟩ := hk
        have h3 := subs_spec fs L [] h3
        simp only [Bool.and_eq_true] at h3
        have hmem : i ∈ Region.ready .any ops (markF L fs) := by simpa using h3.1
        cases fuel with
        | zero => simp [StF.nf] at hfu
        | succ fuel =>
          refine ⟨fun h0 => (by rw [h0] at hmem; cases hmem), fun j hj => ?_⟩
          have hj' := List.all_eq_true.1 h3.2 j hj
          simp only [Bool.or_eq_true] at hj'
          rcases hj' with hj' | hj'
          · obtain rfl := Nat.eq_of_beq_eq_true hj'
            obtain ⟨_, oj, hoj, _⟩ := mem_ready.1 hj
            -- all slots of blocks that are laid stay
            have stay : ∀ (l : FL), (∀ p ∈ l, p ∈ fs) → ∀ K, opW ro P ops Q j K a w → opW ro P ops Q j (fun a' w' => K a' w' ∧ ∀ p ∈ l, a'.tmps.getD p.1.d undef = a.tmps.getD p.1.d undef) a w := by
              intro l
              induction l with
              | nil => exact fun _ K h => opW_mono (fun _ _ hk => ⟨hk, fun _ hp => by cases hp⟩) h
              | cons p l ihl =>
                intro hl K h
                have h1 := ihl (fun q hq => hl q (List.mem_cons_of_mem _ hq)) K h
                have h2 := opW_slot p.1.d (fun o ho => clearD_at h2 (List.mem_map.2 ⟨p, hl p List.mem_cons_self, rfl⟩) ho) h1
                refine opW_mono (fun _ _ hk => ⟨hk.1.1, fun q hq => ?_⟩) h2
                rcases List.mem_cons.1 hq with rfl | hq
                · exact hk.2
                · exact hk.1.2 q hq
            have hmain := hoe _ w hK.own (fun a' w' => (j < N → S w') ∧ ((∀ p ∈ fs, a'.tmps.getD p.1.d undef = a.tmps.getD p.1.d undef) → wpAnyN ro P ops Q S N fuel ((markF L fs).setIfInBounds j true) a' w')) a hK.fr (by
              rintro env' w' a' ⟨hS', ss', hO', hk'⟩ hf'
              refine ⟨hS', fun hst => ?_⟩
              rw [← markF_set]
              refine ih r fs env' ss' X _ a' w' fuel (by simp at hm; omega) hk' h4 hnd hF ⟨hO', hf', fun jj g b hjj => ?_⟩ (by simp [StF.nf] at hfu; omega)
              rw [hst _ (List.mem_of_getElem? hjj)]
              exact hK.sl jj g b hjj)
            exact opW_mono (fun _ _ hk => ⟨hk.1.1, hk.1.2 hk.2⟩) (stay fs (fun _ hp => hp) _ hmain)
          · rcases mem_ndF fs [] (by simpa using hj') with hj' | ⟨kk, f, hkk, rfl⟩
            · cases hj'
            · exact lay fuel kk f hkk hfr (fun hx => hS hx _ _ hK.own) (by omega)
      | f kk =>
        simp only [chkF] at hc
        obtain ⟨hfr, hS, f, hkk, hk'⟩ := hk
        rw [hkk] at hc
        simp only [Bool.and_eq_true] at hc
        obtain ⟨h3, h4⟩ := hc
        have hkk2 : ∃ st, fs[kk]? = some (f, st) := by
          rw [List.getElem?_map] at hkk
          cases hp : fs[kk]? with
          | none => simp [hp] at hkk
          | some p => simp only [hp, Option.map_some, Option.some.injEq] at hkk; exact ⟨p.2, by rw [← hkk]⟩
        obtain ⟨st, hst⟩ := hkk2
        cases st with
        | some b =>
          have hmapE : (fs.eraseIdx kk).map (·.1) = (fs.map (·.1)).eraseIdx kk := map_erase _ fs kk
          have hmapE2 : (fs.eraseIdx kk).map (·.1.d) = (fs.map (·.1.d)).eraseIdx kk := map_erase _ fs kk
          rw [markF_out fs L kk hst]
          have hlt : f.d < nt := by obtain ⟨_, _, _, _, h, _⟩ := (hF f (List.mem_map.2 ⟨_, List.mem_of_getElem? hst, rfl⟩)).run; exact h
          refine ih r (fs.eraseIdx kk) _ (ss ++ [[(b, f.o)]]) X _ a w fuel ?_ (by rw [hmapE]; exact hk' b) (by rw [hmapE]; exact h4) (by rw [hmapE2]; exact hnd.sublist (List.eraseIdx_sublist ..)) (fun g hg => hF g (by rw [hmapE] at hg; exact (List.eraseIdx_sublist ..).subset hg)) ⟨?_, ?_, ?_⟩ ?_
          · rw [cntN_out fs kk hst]; simp at hm; omega
          · refine hK.own.fperm ?_
            simp only [List.flatten_append, List.flatten_cons, List.flatten_nil, List.append_nil, List.append_assoc]
            refine List.Perm.append_left _ ?_
            exact ((flH_out fs kk hst).append_left X).trans (by simp)
          · refine ⟨hK.fr.size, hK.fr.defers, fun s u hs => ?_⟩
            rw [look_eq] at hs
            simp only [look] at hs
            cases hb : Nat.beq s f.d with
            | true => simp only [hb, Option.some.injEq] at hs; subst hs; rw [Nat.eq_of_beq_eq_true hb]; exact hK.sl kk f b hst
            | false => simp only [hb] at hs; exact hK.fr.look hs
          · intro j g c hj
            have : (g, some c) ∈ fs := (List.eraseIdx_sublist ..).subset (List.mem_of_getElem? hj)
            obtain ⟨jj, hjj, he⟩ := List.mem_iff_getElem.1 this
            exact hK.sl jj g c (by rw [List.getElem?_eq_getElem hjj, he])
          · rw [cntN_out fs kk hst]; simp [StF.nf] at hfu ⊢; omega
        | none =>
          have h3 := subs_spec fs L [] h3
          have hin : f.i ∈ ndF [] fs := ndF_of fs [] kk hst
          simp only [Bool.or_eq_true, Bool.and_eq_true] at h3
          rcases h3 with h3 | ⟨h3, h5⟩
          · simp at h3; exact absurd hin h3
          · have hmem : f.i ∈ Region.ready .any ops (markF L fs) := by simpa using h3
            have hpos : 0 < cntN fs := by have := cntN_done (b := 0) fs kk hst; omega
            cases fuel with
            | zero => omega
            | succ fuel =>
              refine ⟨fun h0 => (by rw [h0] at hmem; cases hmem), fun j hj => ?_⟩
              have hj' := List.all_eq_true.1 h5 j hj
              rcases mem_ndF fs [] (by simpa using hj') with hj' | ⟨k2, f2, hk2, rfl⟩
              · cases hj'
              · exact lay fuel k2 f2 hk2 hfr (fun hx => hS hx _ _ hK.own) (by omega)

/-! ### What the walks go by -/
theorem flH_none : ∀ (fl : List FSpec), flH (fl.map fun f => (f, none)) = []
  | [] => rfl
  | _ :: r => flH_none r
theorem markF_none : ∀ (fl : List FSpec) (L : Array Bool), markF L (fl.map fun f => (f, none)) = L
  | [], _ => rfl
  | _ :: r, L => markF_none r L
theorem cntN_none : ∀ (fl : List FSpec), cntN (fl.map fun f => (f, none)) = fl.length
  | [] => rfl
  | _ :: r => congrArg (· + 1) (cntN_none r)
def nodupD : List FSpec → Bool
  | [] => true
  | f :: r => r.all (fun g => !(Nat.beq f.d g.d)) && nodupD r
theorem nodupD_spec : ∀ (fl : List FSpec), nodupD fl = true → (fl.map (·.d)).Nodup
  | [], _ => List.nodup_nil
  | f :: r, h => by
    simp only [nodupD, Bool.and_eq_true, List.all_eq_true] at h
    rw [List.map_cons, List.nodup_cons]
    refine ⟨fun hm => ?_, nodupD_spec r h.2⟩
    obtain ⟨g, hg, he⟩ := List.mem_map.1 hm
    have := h.1 g hg
    rw [he] at this
    simp at this

theorem cDrawF {id : Nat} (S : World → Prop) (N : Nat) (ord : List StF) (fl : List FSpec) (hO : Own z w ss) (hm : P.follows .mixedOrders = true) (hQ : PD Q)
    (hSa : ∀ (w w' : World) o, w'.heap = w.heap.push o → S w → S w') (hF : ∀ f ∈ fl, FOK P ops nt f) (h : WK ro P ops Q S N nt ds z ord fl env ss)
    (hc : (tailOk ops N && Region.noSelect ops && noDefer ops && chkF ops N (Array.replicate ops.size false) fl ord && nodupD fl && Nat.ble (StF.nf ord + fl.length) ops.size) = true := by as_aux_lemma => kernel_rfl) :
    CE ro P (.region id ops true) Q nt ds env w := by
  intro a hf
  simp only [Bool.and_eq_true] at hc
  obtain ⟨⟨⟨⟨⟨h1, h2⟩, h3⟩, h4⟩, h5⟩, h6⟩ := hc
  have hmap : ((fl.map fun f => ((f, none) : FSpec × Option Nat)).map (·.1)) = fl := by rw [List.map_map]; exact List.map_id _
  have hmap2 : ((fl.map fun f => ((f, none) : FSpec × Option Nat)).map (·.1.d)) = fl.map (·.d) := by rw [List.map_map]; rfl
  refine wpIn_region_any hm (wpAny_of_N (S := S) (N := N) _ _ _ _ ?_)
  have hk := wk_any (z := z) (ro := ro) (P := P) (Q := Q) (nt := nt) (ds := ds) h1 h2 h3 hQ hSa _ ord (fl.map fun f => (f, none)) env ss [] (Array.replicate ops.size false) a w.drew ops.size (Nat.le_refl _) (by rw [hmap]; exact h) (by rw [hmap]; exact h4)
    (by rw [hmap2]; exact nodupD_spec fl h5) (by rw [hmap]; exact hF)
    ⟨by rw [flH_none]; exact hO.drew.conv (by simp), hf, fun k f b hk => by rw [List.getElem?_map] at hk; cases hp : fl[k]? <;> simp [hp] at hk⟩ (by rw [cntN_none]; exact Nat.le_of_ble_eq_true h6)
  rw [markF_none] at hk
  exact hk

theorem has_push {l : HL} (w w' : World) (o : Obj) (h : w'.heap = w.heap.push o) (hs : Has l w) : Has l w' := fun p hp => by
  have := hs p hp
  have hlt := (Array.getElem?_eq_some_iff.1 this).1
  rw [h, Array.getElem?_push_lt hlt]
  exact (Array.getElem?_eq_some_iff.1 this).2 ▸ rfl
theorem true_push (w w' : World) (o : Obj) (_ : w'.heap = w.heap.push o) (_ : True) : True := trivial

variable {r : List StF} {pend : List FSpec}
theorem kEnd (h : ∀ w, Own z w ss → QE Q .normal nt ds env w) : WK ro P ops Q S N nt ds z [] pend env ss := fun _ _ hO => h _ hO.left

def qsF : List Nat → List StF → List StF
  | [], r => r
  | i :: l, r => .q i :: qsF l r

theorem fresh_tl {d : Nat} {v : Value} (h : freshE ((d, v) :: env) pend = true) : freshE env pend = true := by
  refine List.all_eq_true.2 fun f hf => ?_
  have := List.all_eq_true.1 h f hf
  simp only [look] at this
  cases hb : Nat.beq f.d d with
  | true => simp [hb] at this
  | false => simpa [hb] using this

theorem kP (hT : TOK P T) (hS : ∀ X w, Own z w (ss ++ [X]) → S w) : ∀ (l : List Nat) {env : Env} (_ : WK ro P ops Q S N nt ds z r pend env' ss) (_ : pE T ops nt l env = some env') (_ : freshE env' pend = true), WK ro P ops Q S N nt ds z (qsF l r) pend env ss ∧ freshE env pend = true
  | [], env, h, he, hf => by simp only [pE, Option.some.injEq] at he; subst he; exact ⟨h, hf⟩
  | k :: l, env, h, h', hf => by
    unfold pE at h'
    cases ho : ops[k]? with
    | none => simp [ho] at h'
    | some o =>
      simp only [ho] at h'
      cases hd : o.dst with
      | none => simp [hd] at h'
      | some d =>
        simp only [hd] at h'
        cases hlt : Nat.blt d nt with
        | false => simp [hlt] at h'
        | true =>
          simp only [hlt] at h'
          have hdn : d < nt := Nat.lt_of_succ_le (Nat.le_of_ble_eq_true hlt)
          cases hw : wantE ops nt env o with
          | none => simp [hw] at h'
          | some b =>
            cases b with
            | true =>
              simp only [hw] at h'
              cases hi : allIn env o.op with
              | false => simp [hi] at h'
              | true =>
                simp only [hi] at h'
                cases hv : pv T (evD env) o.op with
                | none => simp [hv] at h'
                | some v =>
                  simp only [hv] at h'
                  obtain ⟨h1, h2⟩ := kP hT hS l h h' hf
                  have h3 := fresh_tl h2
                  exact ⟨⟨h3, hS, o, d, v, ho, hd, hdn, fun a hfr => .inl ⟨hfr.want hw, fun w _ => pv_run hT hfr hi hv w⟩, h1⟩, h3⟩
            | false =>
              simp only [hw] at h'
              obtain ⟨h1, h2⟩ := kP hT hS l h h' hf
              have h3 := fresh_tl h2
              exact ⟨⟨h3, hS, o, d, undef, ho, hd, hdn, fun a hfr => .inr ⟨hfr.want hw, rfl⟩, h1⟩, h3⟩
theorem kPs (hT : TOK P T) (l : List Nat) (hS : ∀ X w, Own z w (ss ++ [X]) → S w) (hk : WK ro P ops Q S N nt ds z r pend env' ss) (h : pE T ops nt l env = some env' := by as_aux_lemma => kernel_rfl) (hf : freshE env' pend = true := by as_aux_lemma => kernel_rfl) : WK ro P ops Q S N nt ds z (qsF l r) pend env ss := (kP hT hS l hk h hf).1

/-- A load that only looks. -/
theorem kL (hT : TOK P T) {l : HL} {i d : Nat} {o : Oper} {t : TypeId} {x : Operand} {b off : Nat} {cs : Array Value} {et : TypeId} {v : Value} (hS : ∀ X w, Own z w (ss ++ [X]) → Has l w) (hb : (b, .cells cs et (0, 0)) ∈ l) (h : WK ro P ops Q (Has l) N nt ds z r pend ((d, v) :: env) ss) (ho : ops[i]? = some o := by rfl) (hop : o.op = .load t x := by rfl) (hd : o.dst = some d := by rfl) (hlt : Nat.blt d nt = true := by rfl) (hw : wantE ops nt env o = some true := by as_aux_lemma => kernel_rfl) (hx : evO env x = some (.pointer (some ⟨b, off, none⟩)) := by as_aux_lemma => kernel_rfl) (hv : ldP T t cs off = some v := by as_aux_lemma => kernel_rfl) (hf : freshE env pend = true := by as_aux_lemma => kernel_rfl) : WK ro P ops Q (Has l) N nt ds z (.q i :: r) pend env ss :=
  ⟨hf, hS, o, d, v, ho, hd, Nat.lt_of_succ_le (Nat.le_of_ble_eq_true hlt), fun _ hfr => .inl ⟨hfr.want hw, fun _ hS' => run_load_op hT hop (hfr.ev hx) (hS' _ hb) hv⟩, h⟩
/-- Another one that only looks: an index. -/
theorem kI (hT : TOK P T) (j : Nat) {n c : Nat} {i d : Nat} {o : Oper} {t el : TypeId} {e g : TE} {x ix : Operand} {b off : Nat} {kk : IntKind} {iv : Int} (hS : ∀ X w, Own z w (ss ++ [X]) → S w) (hi : iv = (j : Int)) (hj : j < n) (h : WK ro P ops Q S N nt ds z r pend ((d, .pointer (some ⟨b, off + j * g.size, none⟩)) :: env) ss)
    (ho : ops[i]? = some o := by rfl) (hop : o.op = .indexAddr t x ix := by rfl) (hd : o.dst = some d := by rfl) (hlt : Nat.blt d nt = true := by rfl) (hw : wantE ops nt env o = some true := by as_aux_lemma => kernel_rfl)
    (hx : evO env x = some (.slice (some ⟨b, off, none⟩) n c) := by rfl) (hix : evO env ix = some (.int kk iv) := by rfl)
    (ht : T t = some e := by rfl) (hde : e.d = .slice el := by rfl) (hg : T el = some g := by rfl) (hf : freshE env pend = true := by as_aux_lemma => kernel_rfl) : WK ro P ops Q S N nt ds z (.q i :: r) pend env ss :=
  ⟨hf, hS, o, d, _, ho, hd, Nat.lt_of_succ_le (Nat.le_of_ble_eq_true hlt), fun _ hfr => .inl ⟨hfr.want hw, fun w _ => idx_run hT j hi hj hfr hop hx hix ht hde hg w⟩, h⟩
theorem kB {i d : Nat} {bo : BinOp} {ik jk : IntKind} {x y : Int} {v : Value} {o : Oper} {t u : TypeId} {ox oy : Operand} (hS : ∀ X w, Own z w (ss ++ [X]) → S w) (hr : ∀ w, (binOp bo t (.int ik x) (.int jk y)).run P w = .ok v w) (h : WK ro P ops Q S N nt ds z r pend ((d, v) :: env) ss)
    (ho : ops[i]? = some o := by rfl) (hop : o.op = .binOp bo t ox oy u := by rfl) (hd : o.dst = some d := by rfl) (hlt : Nat.blt d nt = true := by rfl) (hw : wantE ops nt env o = some true := by as_aux_lemma => kernel_rfl)
    (hx : evO env ox = some (.int ik x) := by as_aux_lemma => kernel_rfl) (hy : evO env oy = some (.int jk y) := by as_aux_lemma => kernel_rfl) (hf : freshE env pend = true := by as_aux_lemma => kernel_rfl) : WK ro P ops Q S N nt ds z (.q i :: r) pend env ss :=
  ⟨hf, hS, o, d, _, ho, hd, Nat.lt_of_succ_le (Nat.le_of_ble_eq_true hlt), fun _ hfr => .inl ⟨hfr.want hw, fun w _ => bin_run hr hfr hop hx hy w⟩, h⟩
/-- One that acts. -/
theorem kO {i : Nat} (hS : (∃ f ∈ pend, f.i < N) → ∀ X w, Own z w (ss ++ [X]) → S w) (h : ∀ X w, Own z w (ss ++ [X]) → OE ro P ops Q i nt ds env w (fun env' w' => (i < N → S w') ∧ ∃ ss', Own z w' (ss' ++ [X]) ∧ WK ro P ops Q S N nt ds z r pend env' ss'))
    (hf : freshE env pend = true := by as_aux_lemma => kernel_rfl) : WK ro P ops Q S N nt ds z (.e i :: r) pend env ss := ⟨hf, hS, h⟩
/-- A block that is needed now. -/
theorem kF {k : Nat} (f : FSpec) (hS : (∃ f ∈ pend, f.i < N) → ∀ X w, Own z w (ss ++ [X]) → S w) (h : ∀ b, WK ro P ops Q S N nt ds z r (pend.eraseIdx k) ((f.d, .pointer (some ⟨b, 0, none⟩)) :: env) (ss ++ [[(b, f.o)]])) (hp : pend[k]? = some f := by rfl)
    (hf : freshE env pend = true := by as_aux_lemma => kernel_rfl) : WK ro P ops Q S N nt ds z (.f k :: r) pend env ss := ⟨hf, hS, f, hp, h⟩

theorem fokNil : ∀ f ∈ ([] : List FSpec), FOK P ops nt f := fun _ h => by cases h
theorem fokCons {f : FSpec} {l : List FSpec} (h : FOK P ops nt f) (hl : ∀ f ∈ l, FOK P ops nt f) : ∀ g ∈ f :: l, FOK P ops nt g := fun g hg => by
  rcases List.mem_cons.1 hg with rfl | hg
  · exact h
  · exact hl g hg

/-- A slot, spelled otherwise, ahead of an operation. -/
theorem setO (j : Nat) {v : Value} (v' : Value) (h : v = v') (hk : OE ro P ops Q k nt ds ((j, v') :: env) w Kp) (hj : look env j = some v := by as_aux_lemma => kernel_rfl) : OE ro P ops Q k nt ds env w Kp := fun K a hf hK =>
  hk K a ⟨hf.size, hf.defers, fun s u hs => by
    rw [look_eq] at hs
    simp only [look] at hs
    cases hb : Nat.beq s j with
    | true => simp only [hb, Option.some.injEq] at hs; subst hs; rw [Nat.eq_of_beq_eq_true hb, hf.look hj, h]
    | false => simp only [hb] at hs; exact hf.look hs⟩ hK

/-! ### Elements of arrays behind pointers, where only is looked -/
theorem idxA_run (hT : TOK P T) (j : Nat) {n : Nat} {o : Oper} {t el : TypeId} {e g : TE} {x ix : Operand} {b off : Nat} {kk : IntKind} {i : Int} {a : Act} (hi : i = (j : Int)) (hj : j < n) (hf : Fr nt ds env a)
    (hop : o.op = .indexAddr t x ix) (hx : evO env x = some (.pointer (some ⟨b, off, none⟩))) (hix : evO env ix = some (.int kk i)) (ht : T t = some e) (hde : e.d = .array n el) (hg : T el = some g) (w : World) :
    (execOp a.eval o).run P w = .ok (.value (.pointer (some ⟨b, off + j * g.size, none⟩))) w := by
  obtain ⟨dst, op, type, pos, after, guard⟩ := o
  simp only at hop
  subst hop
  have hu := run_und hT ht w
  rw [hde] at hu
  subst hi
  simp [execOp, Instr.indexAt, hf.ev hx, hf.ev hix, asIntOf, hu, run_size hT hg, hj, Addr.add_mid, Instr.sureAddr]
theorem M_idxA (hT : TOK P T) {S : World → Prop} (hS : S w) {N i' d : Nat} {r : List Stp} (j : Nat) {n : Nat} {o : Oper} {t el : TypeId} {e g : TE} {x ix : Operand} {b off : Nat} {kk : IntKind} {i : Int} (hi : i = (j : Int)) (hj : j < n)
    (h : ME ro P ops Q S N r nt ds ((d, .pointer (some ⟨b, off + j * g.size, none⟩)) :: env) w)
    (ho : ops[i']? = some o := by rfl) (hop : o.op = .indexAddr t x ix := by rfl) (hd : o.dst = some d := by rfl) (hlt : Nat.blt d nt = true := by rfl) (hw : wantE ops nt env o = some true := by as_aux_lemma => kernel_rfl)
    (hx : evO env x = some (.pointer (some ⟨b, off, none⟩)) := by rfl) (hix : evO env ix = some (.int kk i) := by rfl)
    (ht : T t = some e := by rfl) (hde : e.d = .array n el := by rfl) (hg : T el = some g := by rfl) : ME ro P ops Q S N (.q i' :: r) nt ds env w := fun _ hf =>
  ⟨hS, o, _, ho, .inl ⟨hf.want hw, fun w _ => idxA_run hT j hi hj hf hop hx hix ht hde hg w⟩, by rw [hd]; exact h _ (hf.put (Nat.lt_of_succ_le (Nat.le_of_ble_eq_true hlt)) _)⟩
theorem kIA (hT : TOK P T) (j : Nat) {n : Nat} {i d : Nat} {o : Oper} {t el : TypeId} {e g : TE} {x ix : Operand} {b off : Nat} {kk : IntKind} {iv : Int} (hS : ∀ X w, Own z w (ss ++ [X]) → S w) (hi : iv = (j : Int)) (hj : j < n) (h : WK ro P ops Q S N nt ds z r pend ((d, .pointer (some ⟨b, off + j * g.size, none⟩)) :: env) ss)
    (ho : ops[i]? = some o := by rfl) (hop : o.op = .indexAddr t x ix := by rfl) (hd : o.dst = some d := by rfl) (hlt : Nat.blt d nt = true := by rfl) (hw : wantE ops nt env o = some true := by as_aux_lemma => kernel_rfl)
    (hx : evO env x = some (.pointer (some ⟨b, off, none⟩)) := by rfl) (hix : evO env ix = some (.int kk iv) := by rfl)
    (ht : T t = some e := by rfl) (hde : e.d = .array n el := by rfl) (hg : T el = some g := by rfl) (hf : freshE env pend = true := by as_aux_lemma => kernel_rfl) : WK ro P ops Q S N nt ds z (.q i :: r) pend env ss :=
  ⟨hf, hS, o, d, _, ho, hd, Nat.lt_of_succ_le (Nat.le_of_ble_eq_true hlt), fun _ hfr => .inl ⟨hfr.want hw, fun w _ => idxA_run hT j hi hj hfr hop hx hix ht hde hg w⟩, h⟩
/-- A map that does not have the key. -/
theorem lk_none {es : List MapEntry} {n : Int} {zv : Value} (h : lkE es n = none) (ok : Bool) : (if ok then Value.tuple #[(lkE es n).getD zv, .bool (lkE es n).isSome] else (lkE es n).getD zv) = (if ok then Value.tuple #[zv, .bool false] else zv) := by
  rw [h]; rfl

/-! ### x == nil, of an interface -/
def nilI : Value → Option Bool
  | .nilIface => some true
  | .iface _ _ => some false
  | _ => none
theorem O_eqNil {o : Oper} {d : Nat} {t u : TypeId} {ms : Array (String × TypeId)} {x : Operand} {xv : Value} {b : Bool} (hu : P.underlying t = some (.interface ms)) (h : Kp ((d, .bool b) :: env) w)
    (ho : ops[k]? = some o := by rfl) (hop : o.op = .binOp .eql t x (.const .nilIface) u := by rfl) (hd : o.dst = some d := by rfl) (hlt : Nat.blt d nt = true := by rfl) (hw : wantE ops nt env o = some true := by as_aux_lemma => kernel_rfl)
    (hx : evO env x = some xv := by as_aux_lemma => kernel_rfl) (hb : nilI xv = some b := by rfl) : OE ro P ops Q k nt ds env w Kp := by
  refine O_val ho hd hlt hw (fun a hf => ?_) h
  obtain ⟨dst, op, type, pos, after, guard⟩ := o
  simp only at hop
  subst hop
  have hun : (underlying t).run P w = .ok (.interface ms) w := by
    unfold underlying
    simp [hu, Sem.run_bind, Result.andThen]
    try rfl
  have he : (Op.equal t xv .nilIface).run P w = .ok b w := by
    unfold Op.equal
    rw [show Op.maxDepth = 9999 + 1 from rfl]
    unfold Op.equalIn
    rw [Sem.run_bind, hun]
    cases xv <;> simp only [nilI, reduceCtorEq, Option.some.injEq] at hb
    case nilIface => subst hb; rfl
    case iface t' v => subst hb; rfl
  have hx' := hf.ev hx
  have hc : a.eval (.const .nilIface) = .nilIface := rfl
  have hg : (eqGuard .eql t x (.const .nilIface) xv .nilIface).run P w = .ok () w := by
    cases xv <;> simp only [nilI, reduceCtorEq, Option.some.injEq] at hb
    case nilIface => unfold eqGuard; simp
    case iface t' v => unfold eqGuard; simp
  cases xv <;> simp only [nilI, reduceCtorEq, Option.some.injEq] at hb
  case nilIface => simp only [execOp, hx', hc, Sem.run_bind, hg, Result.andThen, binOp, he, Sem.run_pure]
  case iface t' v => simp only [execOp, hx', hc, Sem.run_bind, hg, Result.andThen, binOp, he, Sem.run_pure]
/-- Some segments, and the others in one. -/
theorem Own.cut (h : Own z w ss) (idx : List Nat) (n : Nat) (hi : idx.isPerm (List.range ss.length) = true) : Own z w ((SL.pick ss idx).take n ++ [((SL.pick ss idx).drop n).flatten]) := by
  have := h.pick idx hi
  rw [← List.take_append_drop n (SL.pick ss idx)] at this
  exact this.shut
end Go.SL
