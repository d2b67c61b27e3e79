import Derived.Test.YtkfkfpgnapncaaaGreatDoorSlH
/-! Code, over frames of which only what matters is known. -/
namespace Go.SL
open Go Go.RowKit
variable {ro : Option Nat} {P : Program} {T : TT} {ops : Array Oper} {Q : Exit → Act → World → Prop} {w z : World} {ss : List HL} {nt : Nat} {ds : List Deferred} {env env' : Env} {Kp : Env → World → Prop} {k : Nat}

def env0 : Nat → List Value → Env
  | _, [] => []
  | i, v :: r => (i, v) :: env0 (i + 1) r

theorem fr0 {nt : Nat} {args : List Value} (hl : Nat.ble args.length nt = true) : Fr nt [] (env0 0 args) ⟨args.toArray ++ Array.replicate (nt - args.toArray.size) undef, []⟩ := by
  have hle := Nat.le_of_ble_eq_true hl
  refine ⟨by simp; omega, rfl, ?_⟩
  have key : ∀ (l : List Value) (i s : Nat) (v : Value), look (env0 i l) s = some v → i ≤ s ∧ l[s - i]? = some v := by
    intro l
    induction l with
    | nil => intro i s v h; simp [env0, look] at h
    | cons u r ih =>
      intro i s v h
      simp only [env0, look] at h
      cases hb : Nat.beq s i with
      | true =>
        simp only [hb, Option.some.injEq] at h
        have := Nat.eq_of_beq_eq_true hb
        subst this; subst h
        simp
      | false =>
        simp only [hb] at h
        obtain ⟨h1, h2⟩ := ih (i + 1) s v h
        refine ⟨by omega, ?_⟩
        have e : s - i = (s - (i + 1)) + 1 := by omega
        rw [e, List.getElem?_cons_succ]; exact h2
  intro s v h
  rw [look_eq] at h
  obtain ⟨_, h2⟩ := key args 0 s v h
  simp only [Nat.sub_zero] at h2
  have hs : s < args.length := (List.getElem?_eq_some_iff.1 h2).1
  rw [Array.getD_eq_getD_getElem?, Array.getElem?_append_left (by simpa using hs)]
  simp [h2]

theorem enterE {f : FuncId} {fn : Func} {c : Code} {args : List Value} {R : Value → World → Prop} (hn : fn.ntmps = nt) (hf : P.funcs[f]? = some fn) (h : CE none P c (bodyPost P fn (fun e w' => ∃ v, e = .returned v ∧ R v w')) nt [] (env0 0 args) w) (hb : fn.body = some c := by rfl) (hl : Nat.ble args.length nt = true := by rfl) : Ret P f args.toArray w R := by
  refine calls_of_wp hf hb ?_
  rw [hn]
  exact wpIn_wide.1 (h _ (fr0 hl))
theorem enterEC {f : FuncId} {fn : Func} {c : Code} {args : List Value} {R : Ending → World → Prop} (hn : fn.ntmps = nt) (hf : P.funcs[f]? = some fn) (h : CE none P c (bodyPost P fn R) nt [] (env0 0 args) w) (hb : fn.body = some c := by rfl) (hl : Nat.ble args.length nt = true := by rfl) : Calls P f args.toArray w R := by
  refine calls_of_wp hf hb ?_
  rw [hn]
  exact wpIn_wide.1 (h _ (fr0 hl))

theorem cReg {id : Nat} (n : Nat) (h : SE ro P ops Q 0 n nt ds env w) (hn : ops.size = n := by rfl) : CE ro P (.region id ops false) Q nt ds env w := fun a hf => region n hn (h a hf)
theorem cSeq {x y : Code} (h : CE ro P x (Exit.then (y.wpIn (FW ro) 0 P Q) Q) nt ds env w) : CE ro P (.seq x y) Q nt ds env w := fun a hf => wpIn_seq (h a hf)
theorem cSkip (h : QE Q .normal nt ds env w) : CE ro P .skip Q nt ds env w := fun a hf => wpIn_skip (h a hf)
theorem cRet (h : QE Q .ret nt ds env w) : CE ro P .ret Q nt ds env w := fun a hf => wpIn_ret (h a hf)
theorem cExit {id : Nat} (h : QE Q (.exit id) nt ds env w) : CE ro P (.exit id) Q nt ds env w := fun a hf => wpIn_exit (h a hf)
theorem cBlk {id : Nat} {c : Code} (h : CE ro P c (Exit.inBlock id Q) nt ds env w) : CE ro P (.block id c) Q nt ds env w := fun a hf => wpIn_block (h a hf)
theorem cT {c : Operand} {x y : Code} (h : CE ro P x Q nt ds env w) (hc : evO env c = some (.bool true) := by as_aux_lemma => kernel_rfl) : CE ro P (.cond c x y) Q nt ds env w := fun a hf => wpIn_cond_true (hf.ev hc) (h a hf)
theorem cF {c : Operand} {x y : Code} (h : CE ro P y Q nt ds env w) (hc : evO env c = some (.bool false) := by as_aux_lemma => kernel_rfl) : CE ro P (.cond c x y) Q nt ds env w := fun a hf => wpIn_cond_false (hf.ev hc) (h a hf)
theorem sEnd (h : QE Q .normal nt ds env w) : SE ro P ops Q k 0 nt ds env w := h
theorem mEnd {S : World → Prop} {N : Nat} (h : QE Q .normal nt ds env w) : ME ro P ops Q S N [] nt ds env w := h

theorem qThen {y : Code} (h : CE ro P y Q nt ds env w) : QE (Exit.then (y.wpIn (FW ro) 0 P Q) Q) .normal nt ds env w := h
theorem qThenR {Y : Act → World → Prop} (h : QE Q .ret nt ds env w) : QE (Exit.then Y Q) .ret nt ds env w := h
theorem qThenX {Y : Act → World → Prop} {id : Nat} (h : QE Q (.exit id) nt ds env w) : QE (Exit.then Y Q) (.exit id) nt ds env w := h
theorem qThenP {Y : Act → World → Prop} {ch : List PanicEntry} (h : QE Q (.panic ch) nt ds env w) : QE (Exit.then Y Q) (.panic ch) nt ds env w := h
theorem qBlk {id : Nat} (h : QE Q .normal nt ds env w) : QE (Exit.inBlock id Q) .normal nt ds env w := h
theorem qBlkR {id : Nat} (h : QE Q .ret nt ds env w) : QE (Exit.inBlock id Q) .ret nt ds env w := h
theorem qBlkP {id : Nat} {ch : List PanicEntry} (h : QE Q (.panic ch) nt ds env w) : QE (Exit.inBlock id Q) (.panic ch) nt ds env w := h
theorem qBlkX {id : Nat} (h : QE Q .normal nt ds env w) : QE (Exit.inBlock id Q) (.exit id) nt ds env w := fun a hf => be (h a hf)
theorem qBlkY {id id' : Nat} (h : QE Q (.exit id') nt ds env w) (hne : (id' == id) = false := by rfl) : QE (Exit.inBlock id Q) (.exit id') nt ds env w := fun a hf => bne hne (h a hf)

/-- A slot, spelled otherwise. -/
theorem setS {n : Nat} (j : Nat) {v : Value} (v' : Value) (h : v = v') (hk : SE ro P ops Q k n nt ds ((j, v') :: env) w) (hj : look env j = some v := by as_aux_lemma => kernel_rfl) : SE ro P ops Q k n nt ds env w := fun a hf =>
  hk a ⟨hf.size, hf.defers, fun s u hs => by
    rw [look_eq] at hs
    simp only [look] at hs
    cases hb : Nat.beq s j with
    | true => simp only [hb, Option.some.injEq] at hs; subst hs; rw [Nat.eq_of_beq_eq_true hb, hf.look hj, h]
    | false => simp only [hb] at hs; exact hf.look hs⟩
theorem setC {c : Code} (j : Nat) {v : Value} (v' : Value) (h : v = v') (hk : CE ro P c Q nt ds ((j, v') :: env) w) (hj : look env j = some v := by as_aux_lemma => kernel_rfl) : CE ro P c Q nt ds env w := fun a hf =>
  hk a ⟨hf.size, hf.defers, fun s u hs => by
    rw [look_eq] at hs
    simp only [look] at hs
    cases hb : Nat.beq s j with
    | true => simp only [hb, Option.some.injEq] at hs; subst hs; rw [Nat.eq_of_beq_eq_true hb, hf.look hj, h]
    | false => simp only [hb] at hs; exact hf.look hs⟩
theorem setM {S : World → Prop} {N : Nat} {r : List Stp} (j : Nat) {v : Value} (v' : Value) (h : v = v') (hk : ME ro P ops Q S N r nt ds ((j, v') :: env) w) (hj : look env j = some v := by as_aux_lemma => kernel_rfl) : ME ro P ops Q S N r nt ds env w := fun a hf =>
  hk a ⟨hf.size, hf.defers, fun s u hs => by
    rw [look_eq] at hs
    simp only [look] at hs
    cases hb : Nat.beq s j with
    | true => simp only [hb, Option.some.injEq] at hs; subst hs; rw [Nat.eq_of_beq_eq_true hb, hf.look hj, h]
    | false => simp only [hb] at hs; exact hf.look hs⟩

/-! ### Regions that draw -/
theorem pE_sem (hT : TOK P T) {S : World → Prop} {N : Nat} {r : List Stp} (hS : S w) : ∀ (l : List Nat) (env : Env), pE T ops nt l env = some env' → ME ro P ops Q S N r nt ds env' w → ME ro P ops Q S N (qs l r) nt ds env w
  | [], env, h, h' => by simp only [pE, Option.some.injEq] at h; subst h; exact h'
  | k :: l, env, h, h' => by
    intro a hf
    unfold pE at h
    cases ho : ops[k]? with
    | none => simp [ho] at h
    | some o =>
      simp only [ho] at h
      cases hd : o.dst with
      | none => simp [hd] at h
      | some d =>
        simp only [hd] at h
        cases hlt : Nat.blt d nt with
        | false => simp [hlt] at h
        | true =>
          simp only [hlt] at h
          have hdn : d < nt := Nat.lt_of_succ_le (Nat.le_of_ble_eq_true hlt)
          cases hw : wantE ops nt env o with
          | none => simp [hw] at h
          | some b =>
            cases b with
            | true =>
              simp only [hw] at h
              cases hi : allIn env o.op with
              | false => simp [hi] at h
              | true =>
                simp only [hi] at h
                cases hv : pv T (evD env) o.op with
                | none => simp [hv] at h
                | some v =>
                  simp only [hv] at h
                  refine ⟨hS, o, v, ho, .inl ⟨hf.want hw, fun w _ => pv_run hT hf hi hv w⟩, ?_⟩
                  rw [hd]
                  exact pE_sem hT hS l _ h h' _ (hf.put hdn v)
            | false =>
              simp only [hw] at h
              refine ⟨hS, o, undef, ho, .inr ⟨hf.want hw, rfl⟩, ?_⟩
              rw [hd]
              exact pE_sem hT hS l _ h h' _ (hf.put hdn undef)

theorem MP (hT : TOK P T) {S : World → Prop} {N : Nat} {r : List Stp} (hS : S w) (l live : List Nat) (hk : ME ro P ops Q S N r nt ds env' w) (h : ((pE T ops nt l env).bind fun e => restr e live) = some env' := by as_aux_lemma => kernel_rfl) : ME ro P ops Q S N (qs l r) nt ds env w := by
  cases he : pE T ops nt l env with
  | none => simp [he] at h
  | some e =>
    simp only [he, Option.bind_some] at h
    exact pE_sem hT hS l env he fun a hf => hk a (hf.restr live h)

theorem ML (hT : TOK P T) {l : HL} (hS : Has l w) {N : Nat} {r : List Stp} {i d : Nat} {o : Oper} {t : TypeId} {x : Operand} {b off : Nat} {cs : Array Value} {et : TypeId} {v : Value} (hb : (b, .cells cs et (0, 0)) ∈ l) (h : ME ro P ops Q (Has l) N r nt ds ((d, v) :: env) w) (ho : ops[i]? = some o := by rfl) (hop : o.op = .load t x := by rfl) (hd : o.dst = some d := by rfl) (hlt : Nat.blt d nt = true := by rfl) (hw : wantE ops nt env o = some true := by as_aux_lemma => kernel_rfl) (hx : evO env x = some (.pointer (some ⟨b, off, none⟩)) := by as_aux_lemma => kernel_rfl) (hv : ldP T t cs off = some v := by as_aux_lemma => kernel_rfl) : ME ro P ops Q (Has l) N (.q i :: r) nt ds env w := fun a hf =>
  ⟨hS, o, v, ho, .inl ⟨hf.want hw, fun _ hS' => run_load_op hT hop (hf.ev hx) (hS' _ hb) hv⟩, by rw [hd]; exact h _ (hf.put (Nat.lt_of_succ_le (Nat.le_of_ble_eq_true hlt)) v)⟩

theorem cDraw {id : Nat} (S : World → Prop) (N : Nat) (ord : List Stp) (hO : Own z w ss) (hm : P.follows .mixedOrders = true) (hQ : ∀ c a w (d : Option Tmp) v, Q (.panic c) (a.put d v) w → Q (.panic c) a w) (h : ∀ w, Own z w ss → ME ro P ops Q S N ord nt ds env w) (hc : (tailOk ops N && Region.noSelect ops && noDefer ops && chk ops N (Array.replicate ops.size false) ord && Nat.ble ord.length ops.size) = true := by as_aux_lemma => kernel_rfl) : CE ro P (.region id ops true) Q nt ds env w := fun a hf =>
  draw S N ord hO hm hc hQ fun w hO' => h w hO' a hf

/-! ### Loops -/
/-- A loop: what holds at each round's head, with a number that every round lowers. -/
theorem cLoop {c : Code} (I : Nat → Env → World → Prop) (n₀ : Nat) (h₀ : I n₀ env w)
    (round : ∀ n env w, I n env w → CE ro P c (Exit.then (fun a' w' => ∃ m env', m < n ∧ Fr nt ds env' a' ∧ I m env' w') Q) nt ds env w) : CE ro P (.loop c) Q nt ds env w := by
  intro a hf
  refine wpIn_loop_ghost (fun n a w => ∃ env, Fr nt ds env a ∧ I n env w) n₀ ⟨env, hf, h₀⟩ ?_
  rintro n a w ⟨env, hf, hI⟩
  refine wpIn_mono (round n env w hI a hf) ?_
  intro e a' w' hq
  cases e with
  | normal => obtain ⟨m, env', hlt, hf', hI'⟩ := hq; exact ⟨m, hlt, env', hf', hI'⟩
  | exit id => exact hq
  | goto l => exact hq
  | ret => exact hq
  | panic ch => exact hq
  | outgrown => exact hq
/-- The end of a loop's round. -/
theorem qLoop {I : Nat → Env → World → Prop} {n : Nat} (m : Nat) (hlt : m < n) (live : List Nat) (h : I m env' w) (hr : restr env live = some env' := by as_aux_lemma => kernel_rfl) :
    QE (Exit.then (fun a' w' => ∃ m env', m < n ∧ Fr nt ds env' a' ∧ I m env' w') Q) .normal nt ds env w := fun _ hf => ⟨m, env', hlt, hf.restr live hr, h⟩

/-! ### Results -/
def RVE (P : Program) (env : Env) (w : World) (r : ResultVar) (v : Value) : Prop :=
  match r with
  | .tmp t => look env t = some v
  | .cell p ty => ∃ ad, look env p = some (.pointer (some ad)) ∧ (loadVar ty ad).run P w = .ok v w
def RVEs (P : Program) (env : Env) (w : World) : List ResultVar → List Value → Prop
  | [], [] => True
  | r :: rs, v :: vs => RVE P env w r v ∧ RVEs P env w rs vs
  | _, _ => False
theorem RVEs.rvs {a : Act} (hf : Fr nt ds env a) : ∀ (rs : List ResultVar) (vs : List Value), RVEs P env w rs vs → RVs P a w rs vs
  | [], [], _ => trivial
  | r :: rs, v :: vs, h => ⟨by
      cases r with
      | tmp t => exact hf.look h.1
      | cell p ty => obtain ⟨ad, h1, h2⟩ := h.1; exact ⟨ad, hf.look h1, h2⟩, RVEs.rvs hf rs vs h.2⟩
  | [], _ :: _, h => h.elim
  | _ :: _, [], h => h.elim
theorem rT {t : Tmp} {v : Value} (h : look env t = some v := by as_aux_lemma => kernel_rfl) : RVE P env w (.tmp t) v := h
theorem rC (hT : TOK P T) {p ty : Nat} {b off : Nat} {cs : Array Value} {et : TypeId} {v : Value} (hO : Own z w ss) (i : Nat) (hp : look env p = some (.pointer (some ⟨b, off, none⟩)) := by as_aux_lemma => kernel_rfl) (hb : ss[i]? = some [(b, .cells cs et (0, 0))] := by rfl) (hv : ldP T ty cs off = some v := by as_aux_lemma => kernel_rfl) : RVE P env w (.cell p ty) v := ⟨_, hp, run_load_blk hT (hO.blk i hb) hv⟩

theorem qRet {fn : Func} {R : Value → World → Prop} {rs : List ResultVar} (vs : List Value) (u : Value) (hv : RVEs P env w rs vs) (h : R u w) (hr : fn.results = rs.toArray := by rfl) (hu : mkRes vs = u := by rfl) :
    QE (bodyPost P fn (fun e w' => ∃ v, e = .returned v ∧ R v w')) .ret nt [] env w := fun a hf => by subst hu; exact retN hr hf.defers (hv.rvs hf) h
theorem qEnd {fn : Func} {R : Value → World → Prop} {rs : List ResultVar} (vs : List Value) (u : Value) (hv : RVEs P env w rs vs) (h : R u w) (hr : fn.results = rs.toArray := by rfl) (hu : mkRes vs = u := by rfl) :
    QE (bodyPost P fn (fun e w' => ∃ v, e = .returned v ∧ R v w')) .normal nt [] env w := fun a hf => by subst hu; exact endN hr hf.defers (hv.rvs hf) h
theorem qRetC {fn : Func} {R : Ending → World → Prop} {rs : List ResultVar} (vs : List Value) (u : Value) (hv : RVEs P env w rs vs) (h : R (.returned u) w) (hr : fn.results = rs.toArray := by rfl) (hu : mkRes vs = u := by rfl) :
    QE (bodyPost P fn R) .ret nt [] env w := fun a hf => by subst hu; exact retNC hr hf.defers (hv.rvs hf) h
theorem qEndC {fn : Func} {R : Ending → World → Prop} {rs : List ResultVar} (vs : List Value) (u : Value) (hv : RVEs P env w rs vs) (h : R (.returned u) w) (hr : fn.results = rs.toArray := by rfl) (hu : mkRes vs = u := by rfl) :
    QE (bodyPost P fn R) .normal nt [] env w := fun a hf => by subst hu; exact endNC hr hf.defers (hv.rvs hf) h
theorem qPanic {fn : Func} {R : Ending → World → Prop} {ch : List PanicEntry} (h : R (.panicked ch) w) : QE (bodyPost P fn R) (.panic ch) nt [] env w := fun _ hf => ⟨hf.defers, h⟩
end Go.SL
