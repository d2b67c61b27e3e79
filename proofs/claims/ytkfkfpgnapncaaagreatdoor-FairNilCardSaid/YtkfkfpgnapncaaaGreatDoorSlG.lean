import Derived.Test.YtkfkfpgnapncaaaGreatDoorSlF
import Derived.KernelRfl
/-! Walks over frames of which only what matters is known. -/
namespace Go.SL
open Go Go.RowKit
variable {ro : Option Nat} {P : Program} {T : TT} {ops : Array Oper} {Q : Exit → Act → World → Prop} {w z : World} {ss : List HL}

abbrev Env := List (Nat × Value)

/-- What is known of a frame: its size, what is deferred, some slots. -/
structure Fr (nt : Nat) (ds : List Deferred) (env : Env) (a : Act) : Prop where
  size : a.tmps.size = nt
  defers : a.defers = ds
  slot : ∀ s v, env.lookup s = some v → a.tmps.getD s undef = v

/-- Like List.lookup, for the kernel. -/
def look : Env → Nat → Option Value
  | [], _ => none
  | (k, v) :: r, s => match Nat.beq s k with | true => some v | false => look r s
theorem look_eq (env : Env) (s : Nat) : env.lookup s = look env s := by
  induction env with
  | nil => rfl
  | cons p r ih =>
    obtain ⟨k, v⟩ := p
    simp only [look]
    cases h : Nat.beq s k with
    | true => have := Nat.eq_of_beq_eq_true h; subst this; simp
    | false => have hne : (s == k) = false := beq_eq_false_iff_ne.2 (fun e => by subst e; simp at h); rw [List.lookup_cons, hne]; exact ih

theorem Fr.look {nt : Nat} {ds : List Deferred} {env : Env} {a : Act} (h : Fr nt ds env a) {s : Nat} {v : Value} (hs : SL.look env s = some v) : a.tmps.getD s undef = v :=
  h.slot s v (by rw [look_eq]; exact hs)

theorem Fr.put {nt : Nat} {ds : List Deferred} {env : Env} {a : Act} (h : Fr nt ds env a) {d : Nat} (hd : d < nt) (v : Value) : Fr nt ds ((d, v) :: env) (a.put (some d) v) := by
  refine ⟨by simp [Act.put, h.size], by simp [Act.put, h.defers], fun s u hs => ?_⟩
  rw [look_eq] at hs
  simp only [SL.look] at hs
  cases hb : Nat.beq s d with
  | true =>
    have := Nat.eq_of_beq_eq_true hb
    subst this
    simp only [hb, Option.some.injEq] at hs
    subst hs
    simp [Act.put, h.size, hd]
  | false =>
    simp only [hb] at hs
    have hne : d ≠ s := fun e => by subst e; simp at hb
    have := h.look hs
    simp only [Act.put]
    rw [← this]
    simp [Array.getD_eq_getD_getElem?, Array.getElem?_setIfInBounds_ne hne]

/-- Some of the slots. -/
def restr (env : Env) : List Nat → Option Env
  | [] => some []
  | s :: l => match look env s with
    | some v => match restr env l with | some r => some ((s, v) :: r) | none => none
    | none => none

theorem restr_look {env : Env} : ∀ (l : List Nat) (env' : Env), restr env l = some env' → ∀ s v, look env' s = some v → look env s = some v
  | [], env', h, s, v, hs => by simp only [restr, Option.some.injEq] at h; subst h; simp [look] at hs
  | t :: l, env', h, s, v, hs => by
    simp only [restr] at h
    cases ht : look env t with
    | none => simp [ht] at h
    | some u =>
      simp only [ht] at h
      cases hr : restr env l with
      | none => simp [hr] at h
      | some r =>
        simp only [hr, Option.some.injEq] at h
        subst h
        simp only [look] at hs
        cases hb : Nat.beq s t with
        | true => simp only [hb, Option.some.injEq] at hs; subst hs; rw [Nat.eq_of_beq_eq_true hb]; exact ht
        | false => simp only [hb] at hs; exact restr_look l r hr s v hs

theorem Fr.restr {nt : Nat} {ds : List Deferred} {env env' : Env} {a : Act} (h : Fr nt ds env a) (l : List Nat) (hr : SL.restr env l = some env') : Fr nt ds env' a :=
  ⟨h.size, h.defers, fun s v hs => by rw [look_eq] at hs; exact h.look (restr_look l env' hr s v hs)⟩

/-! ### Operands -/
def evO (env : Env) : Operand → Option Value
  | .tmp t => look env t
  | .const v => some v
  | .global g => some (.pointer (some ⟨g, 0, none⟩))
  | .func f => some (.func (.func f) #[] #[])
def evD (env : Env) (x : Operand) : Value := (evO env x).getD undef

theorem Fr.ev {nt : Nat} {ds : List Deferred} {env : Env} {a : Act} (h : Fr nt ds env a) {x : Operand} {v : Value} (hx : evO env x = some v) : a.eval x = v := by
  cases x with
  | tmp t => exact h.look hx
  | const u => simpa [evO, Act.eval] using hx
  | global g => simpa [evO, Act.eval] using hx
  | func f => simpa [evO, Act.eval] using hx

def allIn (env : Env) (op : Op) : Bool := op.operands.toList.all fun x => (evO env x).isSome

theorem Fr.congr {nt : Nat} {ds : List Deferred} {env : Env} {a : Act} (h : Fr nt ds env a) {op : Op} (hi : allIn env op = true) : ∀ x ∈ op.operands, a.eval x = evD env x := fun x hx => by
  have := List.all_eq_true.1 hi x (by simpa using hx)
  obtain ⟨v, hv⟩ := Option.isSome_iff_exists.1 this
  unfold evD
  rw [hv]
  exact h.ev hv

/-- Is the operation carried out? none: not known. -/
def wantE (ops : Array Oper) (nt : Nat) (env : Env) (o : Oper) : Option Bool :=
  match o.guard with
  | none => some true
  | some (j, b) => match (ops[j]?).bind (·.dst) with
    | none => some false
    | some d => match look env d with
      | some (.bool t) => match Nat.blt d nt with | true => some (t == b) | false => none
      | some (.tuple _) => some false
      | _ => none

theorem Fr.want {nt : Nat} {ds : List Deferred} {env : Env} {a : Act} (h : Fr nt ds env a) {o : Oper} {b : Bool} (hw : wantE ops nt env o = some b) : wantB ops a o = b := by
  unfold wantE at hw
  unfold wantB Region.wanted yielded
  split at hw
  · rename_i hg; rw [hg]; simpa using hw
  · rename_i j b' hg
    rw [hg]
    simp only
    cases hd : (ops[j]?).bind (·.dst) with
    | none => simp only [hd, Option.some.injEq] at hw; subst hw; rfl
    | some d =>
      simp only [hd] at hw
      split at hw
      · rename_i t ht
        split at hw
        · rename_i hlt
          have hdn : d < nt := Nat.lt_of_succ_le (Nat.le_of_ble_eq_true hlt)
          have := h.look ht
          have hds : d < a.tmps.size := by rw [h.size]; exact hdn
          have h3 : a.tmps[d]? = some (.bool t) := by
            rw [Array.getD_eq_getD_getElem?] at this
            rw [Array.getElem?_eq_getElem hds] at this ⊢
            simpa using this
          simp only [Option.bind_some, h3, Option.some.injEq] at hw ⊢
          exact hw
        · simp at hw
      · rename_i vs ht
        simp only [Option.some.injEq] at hw
        subst hw
        have := h.look ht
        simp only [Option.bind_some]
        cases h4 : a.tmps[d]? with
        | none => rfl
        | some u =>
          rw [Array.getD_eq_getD_getElem?, h4] at this
          simp only [Option.getD_some] at this
          subst this
          rfl
      · simp at hw

/-! ### What only computes -/
def noSel (op : Op) : Bool := match op with | .select .. => false | _ => true

def pE (T : TT) (ops : Array Oper) (nt : Nat) : (l : List Nat) → Env → Option Env
  | [], env => some env
  | k :: l, env => match ops[k]? with
    | none => none
    | some o => match o.dst with
      | none => none
      | some d => match Nat.blt d nt with
        | false => none
        | true => match wantE ops nt env o with
          | some true => match allIn env o.op with
            | true => match pv T (evD env) o.op with | some v => pE T ops nt l ((d, v) :: env) | none => none
            | false => none
          | some false => pE T ops nt l ((d, undef) :: env)
          | none => none

theorem noSel_of_pv {ρ : Operand → Value} {op : Op} {v : Value} (h : pv T ρ op = some v) : ∀ cs b, op ≠ .select cs b := by
  rintro cs b rfl
  simp [pv] at h

/-- One that only computes. -/
theorem pv_run (hT : TOK P T) {nt : Nat} {ds : List Deferred} {env : Env} {a : Act} (h : Fr nt ds env a) {o : Oper} {v : Value} (hi : allIn env o.op = true) (hv : pv T (evD env) o.op = some v) (w : World) :
    (execOp a.eval o).run P w = .ok (.value v) w := by
  rw [execOp_congr o (noSel_of_pv hv) (h.congr hi)]
  exact pv_sound hT hv w

/-! ### The goals: over every frame of which that is known -/
variable {nt : Nat} {ds : List Deferred} {env env' : Env}

/-- A region's operations from number k on, n of them. -/
def SE (ro : Option Nat) (P : Program) (ops : Array Oper) (Q : Exit → Act → World → Prop) (k n : Nat) (nt : Nat) (ds : List Deferred) (env : Env) (w : World) : Prop := ∀ a, Fr nt ds env a → seqN ro P ops Q k n a w
/-- A piece of code. -/
def CE (ro : Option Nat) (P : Program) (c : Code) (Q : Exit → Act → World → Prop) (nt : Nat) (ds : List Deferred) (env : Env) (w : World) : Prop := ∀ a, Fr nt ds env a → c.wpIn (FW ro) 0 P Q a w
/-- A region in an order. -/
def ME (ro : Option Nat) (P : Program) (ops : Array Oper) (Q : Exit → Act → World → Prop) (S : World → Prop) (N : Nat) (r : List Stp) (nt : Nat) (ds : List Deferred) (env : Env) (w : World) : Prop := ∀ a, Fr nt ds env a → sem ro P ops Q S N r a w
/-- What holds where it ends. -/
def QE (Q : Exit → Act → World → Prop) (e : Exit) (nt : Nat) (ds : List Deferred) (env : Env) (w : World) : Prop := ∀ a, Fr nt ds env a → Q e a w

theorem pE_seq (hT : TOK P T) (n : Nat) : ∀ (m k : Nat) (env : Env), pE T ops nt (List.range' k m) env = some env' → SE ro P ops Q (k + m) n nt ds env' w → SE ro P ops Q k (n + m) nt ds env w
  | 0, k, env, h, h' => by simp only [List.range'_zero, pE, Option.some.injEq] at h; subst h; exact h'
  | m + 1, k, env, h, h' => by
    intro a hf
    show opW ro P ops Q k (seqN ro P ops Q (k + 1) (n + m)) a w
    rw [show k + (m + 1) = k + 1 + m by omega] at h'
    rw [List.range'_succ] at h
    unfold pE at h
    cases ho : ops[k]? with
    | none => simp [ho] at h
    | some o =>
      simp only [ho] at h
      cases hd : o.dst with
      | none => simp [hd] at h
      | some d =>
        simp only [hd] at h
        cases hlt : Nat.blt d nt with
        | false => simp [hlt] at h
        | true =>
          simp only [hlt] at h
          have hdn : d < nt := Nat.lt_of_succ_le (Nat.le_of_ble_eq_true hlt)
          cases hw : wantE ops nt env o with
          | none => simp [hw] at h
          | some b =>
            cases b with
            | true =>
              simp only [hw] at h
              cases hi : allIn env o.op with
              | false => simp [hi] at h
              | true =>
                simp only [hi] at h
                cases hv : pv T (evD env) o.op with
                | none => simp [hv] at h
                | some v =>
                  simp only [hv] at h
                  refine wpOp_val ho (hf.want hw) (pv_run hT hf hi hv w) ?_
                  rw [hd]
                  exact pE_seq hT n m (k + 1) _ h h' _ (hf.put hdn v)
            | false =>
              simp only [hw] at h
              refine wpOp_pass ho (hf.want hw) ?_
              rw [hd]
              exact pE_seq hT n m (k + 1) _ h h' _ (hf.put hdn undef)

def upto (k : Nat) : Nat → List Nat
  | 0 => []
  | m + 1 => k :: upto (k + 1) m
theorem upto_eq : ∀ (m k : Nat), upto k m = List.range' k m
  | 0, _ => rfl
  | m + 1, k => by rw [List.range'_succ]; exact congrArg (k :: ·) (upto_eq m (k + 1))

/-- Several that only compute; then only the slots 'live' are kept. -/
theorem SP (hT : TOK P T) (n m k : Nat) (live : List Nat) (hk : SE ro P ops Q (k + m) n nt ds env' w) (h : ((pE T ops nt (upto k m) env).bind fun e => restr e live) = some env' := by as_aux_lemma => kernel_rfl) : SE ro P ops Q k (n + m) nt ds env w := by
  cases he : pE T ops nt (upto k m) env with
  | none => simp [he] at h
  | some e =>
    simp only [he, Option.bind_some] at h
    rw [upto_eq] at he
    exact pE_seq hT n m k env he fun a hf => hk a (hf.restr live h)

theorem SS {k n : Nat} (h : ∀ a, Fr nt ds env a → opW ro P ops Q k (seqN ro P ops Q (k + 1) n) a w) : SE ro P ops Q k (n + 1) nt ds env w := h

/-- Only some slots are kept. -/
theorem keepS {k n : Nat} (live : List Nat) (hk : SE ro P ops Q k n nt ds env' w) (h : restr env live = some env' := by as_aux_lemma => kernel_rfl) : SE ro P ops Q k n nt ds env w := fun a hf => hk a (hf.restr live h)
theorem keepC {c : Code} (live : List Nat) (hk : CE ro P c Q nt ds env' w) (h : restr env live = some env' := by as_aux_lemma => kernel_rfl) : CE ro P c Q nt ds env w := fun a hf => hk a (hf.restr live h)
end Go.SL
