import Derived.Test.YtkfkfpgnapncaaaGreatDoorMB
import Derived.RangeFuncLeaves
import Derived.RecoverIn
import Derived.Scope
import Derived.LoopNIn
set_option linter.unusedSimpArgs false
set_option linter.unusedVariables false
/-! Ranges over functions; deferred calls; panics. -/
namespace Go.SL
open Go Go.RowKit
variable {ro : Option Nat} {P : Program} {T : TT} {ops : Array Oper} {Q : Exit → Act → World → Prop} {w z : World} {ss : List HL} {nt : Nat} {ds : List Deferred} {env env' : Env} {Kp : Env → World → Prop} {k : Nat}

/-! ### Loops' records -/
def recL (f : FuncId) (tm : Array Value) (ps : Array Tmp) (as b : Code) (D : Nat) (st : LoopState) (pd : Option Code) : Obj :=
  .loop { state := st, pending := pd, fn := f, tmps := tm, params := ps, assign := as, body := b, defers := D }

theorem run_getLoop {l : Nat} {r : Loop} (h : w.heap[l]? = some (.loop r)) : (Instr.getLoop l).run P w = .ok r w := by
  simp [Instr.getLoop, getObj, Sem.run_bind, h, Result.andThen, Sem.run]
theorem run_setObjL {l : Nat} {o : Loop} {o' : Obj} (h : w.heap[l]? = some (.loop o)) : (setObj l o').run P w = .ok () { w with heap := w.heap.setIfInBounds l o' } := by
  simp [setObj, Sem.run, h]

variable {f : FuncId} {tm : Array Value} {ps : Array Tmp} {as b : Code} {D l : Nat}

theorem run_beginRound (h : w.heap[l]? = some (recL f tm ps as b D .ready none)) :
    (Instr.beginRound l).run P w = .ok () { w with heap := w.heap.setIfInBounds l (recL f tm ps as b D .busy none) } := by
  simp only [Instr.beginRound, Sem.run_bind, run_getLoop h, Result.andThen, run_setObjL h]
  rfl
theorem run_endRound {st : LoopState} {pd : Option Code} (jump : Option Code) (h : w.heap[l]? = some (recL f tm ps as b D st pd)) :
    (Instr.endRound l jump).run P w = .ok (.bool jump.isNone) { w with heap := w.heap.setIfInBounds l (recL f tm ps as b D (if jump.isNone then .ready else .done) jump) } := by
  simp only [Instr.endRound, Sem.run_bind, run_getLoop h, Result.andThen, run_setObjL h]
  rfl
theorem run_endLoop {st : LoopState} {pd : Option Code} (hst : (st == LoopState.busy) = false) (h : w.heap[l]? = some (recL f tm ps as b D st pd)) :
    (Instr.endLoop l).run P w = .ok pd { w with heap := w.heap.setIfInBounds l (recL f tm ps as b D .exhausted pd) } := by
  simp only [Instr.endLoop, Sem.run_bind, run_getLoop h, Result.andThen, hst, Bool.false_eq_true, if_false, run_setObjL h, Sem.run_pure]
  rfl

/-! ### Calls of yield -/
/-- The call of yield returns. -/
def Yld (P : Program) (l : Nat) (args : Array Value) (w : World) (R : Value → World → Prop) : Prop :=
  ∃ f tmps assign body, (Instr.yield l args).run P w = .ok (.round l f tmps assign body) w ∧ RoundIn (FW none) 0 P l f tmps assign body w (fun e w' => ∃ v, e = .returned v ∧ R v w')
theorem Yld.mono {args : Array Value} {R R' : Value → World → Prop} (h : Yld P l args w R) (hr : ∀ v w', R v w' → R' v w') : Yld P l args w R' := by
  obtain ⟨f, tmps, assign, body, h1, h2⟩ := h
  exact ⟨f, tmps, assign, body, h1, RoundIn.mono h2 fun e w' ⟨v, he, hv⟩ => ⟨v, he, hr v _ hv⟩⟩

theorem not_defer_round {o : Oper} {ρ : Operand → Value} {l : Nat} {f : FuncId} {tmps : Array Value} {assign body : Code} {w' : World} (h : (execOp ρ o).run P w = .ok (.round l f tmps assign body) w') : ∀ c, o.op ≠ .defer c := by
  intro c hc
  obtain ⟨dst, op, type, pos, after, guard⟩ := o
  simp only at hc
  subst hc
  simp only [execOp, Sem.run_bind] at h
  cases hr : (resolve ρ c type).run P w with
  | ok d w1 => rw [hr] at h; simp [Result.andThen] at h
  | halt x w1 => rw [hr] at h; simp [Result.andThen] at h

/-- The yield that an operation calls, with which arguments. -/
def calleeY (env : Env) (c : Call) : Option (Nat × List Value) :=
  match c.callee with
  | .value f => match evO env f with
    | some (.func (.yield l) fs cs) => match evL env c.args.toList with
      | some a => some (l, fs.toList ++ a)
      | none => none
    | _ => none
  | _ => none

theorem O_yield {args : List Value} {R : Value → World → Prop} (hY : Yld P l args.toArray w R) {o : Oper} {d : Nat} {c : Call} (h : ∀ v w', R v w' → Kp ((d, v) :: env) w') (ho : ops[k]? = some o := by rfl) (hop : o.op = .call c := by rfl) (hd : o.dst = some d := by rfl) (hlt : Nat.blt d nt = true := by rfl) (hw : wantE ops nt env o = some true := by as_aux_lemma => kernel_rfl) (hcl : calleeY env c = some (l, args) := by as_aux_lemma => kernel_rfl) : OE ro P ops Q k nt ds env w Kp := by
  intro K a hf hK
  obtain ⟨f, tmps, assign, body, h1, h2⟩ := hY
  have hr : (execOp a.eval o).run P w = .ok (.round l f tmps assign body) w := by
    obtain ⟨dst, op, type, pos, after, guard⟩ := o
    simp only at hop
    subst hop
    unfold calleeY at hcl
    split at hcl
    · rename_i x hx
      split at hcl
      · rename_i l' fs cs hv
        split at hcl
        · rename_i l2 hl
          simp only [Option.some.injEq, Prod.mk.injEq] at hcl
          obtain ⟨rfl, rfl⟩ := hcl
          have e1 : a.eval x = .func (.yield l') fs cs := hf.ev hv
          have e2 : c.args.map a.eval = l2.toArray := by
            have := hf.evL c.args.toList l2 hl
            apply Array.ext'
            simpa using this
          have h1' : (Instr.yield l' (fs ++ l2.toArray)).run P w = .ok (.round l' f tmps assign body) w := by
            rw [← h1]
            congr 2
            apply Array.ext'
            simp
          simp only [execOp, resolve, hx, e1, e2, Deferred.ofValue, Sem.run_bind, Sem.run_pure, Result.andThen, invoke]
          exact h1'
        · simp at hcl
      · simp at hcl
    · simp at hcl
  have hwb := hf.want hw
  unfold opW
  simp only [ho]
  unfold wantB at hwb
  rw [if_pos hwb]
  refine ⟨fun _ _ => trivial, ?_⟩
  rw [semAt_run (not_defer_round hr), hr]
  refine ⟨(fun h => by cases h), ?_⟩
  have h2' : RoundIn (FW ro) 0 P l f tmps assign body w (fun e w' => ∃ v, e = .returned v ∧ R v w') := h2
  refine RoundIn.mono h2' fun e w' ⟨v, he, hv⟩ => ?_
  subst he
  rw [hd]
  exact hK _ _ _ (h v w' hv) (hf.put (Nat.lt_of_succ_le (Nat.le_of_ble_eq_true hlt)) v)

/-! ### Rounds -/
def zipE : List Nat → List Value → Env → Option Env
  | [], [], e => some e
  | p :: ps, v :: vs, e => zipE ps vs ((p, v) :: e)
  | _, _, _ => none

theorem zipE_len : ∀ (pl : List Nat) (vs : List Value) (e e' : Env), zipE pl vs e = some e' → pl.length = vs.length
  | [], [], _, _, _ => rfl
  | _ :: ps, _ :: vs, e, e', h => by simp [zipE_len ps vs _ e' h]
  | [], _ :: _, _, _, h => by simp [zipE] at h
  | _ :: _, [], _, _, h => by simp [zipE] at h

theorem zipE_fr : ∀ (pl : List Nat) (vs : List Value) (env env' : Env) (tm : Array Value), zipE pl vs env = some env' → pl.all (fun p => Nat.blt p nt) = true → Fr nt ds env ⟨tm, ds⟩ →
    Fr nt ds env' ⟨(pl.zip vs).foldl (fun tmps (t, a) => tmps.setIfInBounds t a) tm, ds⟩
  | [], [], env, env', tm, h, _, hf => by simp only [zipE, Option.some.injEq] at h; subst h; exact hf
  | p :: ps, v :: vs, env, env', tm, h, hl, hf => by
    simp only [List.all_cons, Bool.and_eq_true] at hl
    exact zipE_fr ps vs _ env' _ h hl.2 (hf.put (Nat.lt_of_succ_le (Nat.le_of_ble_eq_true hl.1)) v)
  | [], _ :: _, _, _, _, h, _, _ => by simp [zipE] at h
  | _ :: _, [], _, _, _, h, _, _ => by simp [zipE] at h

/-- What is asked behind the assignments ahead of a round's body. -/
def asQ (P : Program) (l : Nat) (body : Code) (R : Ending → World → Prop) : Exit → Act → World → Prop :=
  Exit.then (fun a₁ w₁ => ∃ w₂, (Instr.beginRound l).run P w₁ = .ok () w₂ ∧ body.wpIn (FW (some l)) 0 P (roundPost P l R) a₁ w₂) (fun _ _ _ => False)

theorem yldI {pl : List Nat} {args : List Value} {R : Value → World → Prop} {rc : LoopState → Option Code → Obj} (hrc : rc = recL f tm ps as b D) (hO : Own z w ss) (i : Nat) (hi : ss[i]? = some [(l, rc .ready none)]) (hfr : Fr nt [] env ⟨tm, []⟩)
    (h : CE (some l) P as (asQ P l b (fun e w' => ∃ v, e = .returned v ∧ R v w')) nt [] env' w)
    (hps : ps = pl.toArray := by rfl) (hz : zipE pl args env = some env' := by rfl) (hlt : pl.all (fun p => Nat.blt p nt) = true := by rfl) : Yld P l args.toArray w R := by
  subst hrc
  have hb := hO.blk i hi
  subst hps
  refine ⟨f, ((pl.zip args).foldl (fun tmps (t, a) => tmps.setIfInBounds t a) tm), as, b, ?_, ?_⟩
  · have hlen := zipE_len _ _ _ _ hz
    simp only [Instr.yield, Sem.run_bind, run_getLoop hb, Result.andThen, List.size_toArray, hlen, ne_eq, not_true, if_false]
    have hz1 : (pl.toArray.zip args.toArray).foldl (fun tmps (x : Nat × Value) => tmps.setIfInBounds x.1 x.2) tm = (pl.zip args).foldl (fun tmps (x : Nat × Value) => tmps.setIfInBounds x.1 x.2) tm := by
      simp
    simp only [Sem.run_pure, hz1]
  · refine roundIn_of_wpIn (F := FW none) (n := 0) trivial ?_
    exact h _ (zipE_fr pl args env env' tm hz hlt hfr)

theorem qAssign {R : Ending → World → Prop} {rc : LoopState → Option Code → Obj} (hrc : rc = recL f tm ps as b D) (hO : Own z w ss) (i : Nat) (h : ∀ w', Own z w' (ss.set i [(l, rc .busy none)]) → CE (some l) P b (roundPost P l R) nt ds env w') (hi : ss[i]? = some [(l, rc .ready none)] := by rfl) : QE (asQ P l b R) .normal nt ds env w := fun a hf => by
  subst hrc
  exact ⟨_, run_beginRound (hO.blk i hi), h _ (hO.put i hi _) a hf⟩
theorem qRnd {R : Value → World → Prop} {st : LoopState} {pd : Option Code} {rc : LoopState → Option Code → Obj} (hrc : rc = recL f tm ps as b D) (hO : Own z w ss) (i : Nat) (h : ∀ w', Own z w' (ss.set i [(l, rc .ready none)]) → R (.bool true) w') (hi : ss[i]? = some [(l, rc st pd)] := by rfl) :
    QE (roundPost P l (fun e w' => ∃ v, e = .returned v ∧ R v w')) .normal nt ds env w := fun _ _ => by
  subst hrc
  exact ⟨_, _, run_endRound none (hO.blk i hi), _, rfl, h _ (hO.put i hi _)⟩
theorem qRndR {R : Value → World → Prop} {st : LoopState} {pd : Option Code} {rc : LoopState → Option Code → Obj} (hrc : rc = recL f tm ps as b D) (hO : Own z w ss) (i : Nat) (h : ∀ w', Own z w' (ss.set i [(l, rc .done (some .ret))]) → R (.bool false) w') (hi : ss[i]? = some [(l, rc st pd)] := by rfl) :
    QE (roundPost P l (fun e w' => ∃ v, e = .returned v ∧ R v w')) .ret nt ds env w := fun _ _ => by
  subst hrc
  exact ⟨_, _, run_endRound (some .ret) (hO.blk i hi), _, rfl, h _ (hO.put i hi _)⟩
theorem qRndX {id : Nat} {R : Value → World → Prop} {st : LoopState} {pd : Option Code} {rc : LoopState → Option Code → Obj} (hrc : rc = recL f tm ps as b D) (hO : Own z w ss) (i : Nat) (h : ∀ w', Own z w' (ss.set i [(l, rc .done (some (.exit id)))]) → R (.bool false) w') (hi : ss[i]? = some [(l, rc st pd)] := by rfl) :
    QE (roundPost P l (fun e w' => ∃ v, e = .returned v ∧ R v w')) (.exit id) nt ds env w := fun _ _ => by
  subst hrc
  exact ⟨_, _, run_endRound (some (.exit id)) (hO.blk i hi), _, rfl, h _ (hO.put i hi _)⟩
theorem pdRnd {R : Ending → World → Prop} : PD (roundPost P l R) := fun _ _ _ _ _ h => h
theorem pdAs {R : Ending → World → Prop} : PD (asQ P l b R) := fun _ _ _ _ _ h => h

/-! ### The statement -/
/-- The mark that such a loop leaves among the deferred calls. -/
def coll (D : Nat) : Deferred := { target := .collected D, args := #[] }

theorem cRange {g : Operand} {fs cs : Array Value} (hO : Own z w ss) (hcall : ∀ (args : Array Value) (w : World), (callFunc f args).run P w = .ok (.enter f args) w)
    (h : ∀ (fn : FuncId) (tm : Array Value) (D l : Nat) (rc : LoopState → Option Code → Obj) (w' : World), rc = recL fn tm ps as b D → Fr nt ds env ⟨tm, ds⟩ → Own z w' (ss ++ [[(D, .deferred (some []))], [(l, rc .ready none)]]) →
      Ret P f (fs ++ #[.func (.yield l) #[] #[]] ++ cs) w' (fun _ w₁ => ∃ i ss' st pd, ss'[i]? = some [(l, rc st pd)] ∧ (st == LoopState.busy) = false ∧ Own z w₁ ss' ∧
        ∀ w₂, Own z w₂ (ss'.set i [(l, rc .exhausted pd)]) → match pd with
          | none => QE Q .normal nt (coll D :: ds) env w₂
          | some c => CE none P c Q nt (coll D :: ds) env w₂))
    (hg : evO env g = some (.func (.func f) fs cs) := by as_aux_lemma => kernel_rfl) : CE none P (.rangeFunc g ps as b) Q nt ds env w := by
  intro a hf
  have ea : (⟨a.tmps, ds⟩ : Act) = a := by rw [← hf.defers]
  refine wpIn_rangeFunc fun fn _ => ?_
  have hO1 := hO.alloc (.deferred (some []))
  have hO2 := hO1.alloc (recL fn a.tmps ps as b w.heap.size .ready none)
  rw [List.append_assoc] at hO2
  have hc := h fn a.tmps w.heap.size _ _ _ rfl (by rw [ea]; exact hf) hO2
  generalize hW : ({ ({ w with heap := w.heap.push (.deferred (some [])) } : World) with heap := ({ w with heap := w.heap.push (.deferred (some [])) } : World).heap.push (recL fn a.tmps ps as b w.heap.size .ready none) } : World) = W at *
  generalize hl : ({ w with heap := w.heap.push (.deferred (some [])) } : World).heap.size = l at *
  refine ⟨l, [coll w.heap.size], W, { target := .fn (.func f) cs, args := (fs ++ #[.func (.yield l) #[] #[]]) }, W, f, (fs ++ #[.func (.yield l) #[] #[]] ++ cs), W, ?_, ?_, fun _ _ => trivial, ?_, (fun h => by cases h), ?_⟩
  rotate_left 3
  · refine callsIn_wide.2 (Calls.mono hc fun e w₁ hr => ?_)
    obtain ⟨v, rfl, i, ss', st, pd, hi, hst, hO', hk⟩ := hr
    refine ⟨pd, _, run_endLoop hst (hO'.blk i hi), ?_⟩
    have hk' := hk _ (hO'.put i hi _)
    have hf' : Fr nt (coll w.heap.size :: ds) env { a with defers := coll w.heap.size :: a.defers } := ⟨hf.size, by simp [hf.defers], hf.slot⟩
    cases pd with
    | none => exact hk' _ hf'
    | some c => exact hk' _ hf'
  · subst hW; subst hl
    simp only [Instr.enterLoop, FW, Fence.wide, Sem.run_bind, Sem.run_pure, Result.andThen, newObj]
    rfl
  · have e1 : a.eval g = .func (.func f) fs cs := hf.ev hg
    have e2 : Array.map a.eval #[Operand.const (.func (.yield l) #[] #[])] = #[.func (.yield l) #[] #[]] := by simp [Act.eval]
    simp only [resolve, rangeCall, e1, Deferred.ofValue, Sem.run_bind, Sem.run_pure, Result.andThen, e2]
  · simp only [invoke]
    exact hcall _ _

/-! ### Functions with marks, or with deferred calls -/
theorem enterM {f : FuncId} {fn : Func} {c : Code} {args : List Value} {R : Value → World → Prop} (hn : fn.ntmps = nt) (hf : P.funcs[f]? = some fn)
    (h : CE none P c (bodyPostM (FW none) 0 P fn (fun e w' => ∃ v, e = .returned v ∧ R v w')) nt [] (env0 0 args) w) (hb : fn.body = some c := by rfl) (hl : Nat.ble args.length nt = true := by rfl) : Ret P f args.toArray w R := by
  refine (callsIn_wide (n := 0)).1 (callsIn_of_wp_marks (F := FW none) hf hb trivial ?_)
  rw [hn]
  exact h _ (fr0 hl)
/-- Where nothing panics. -/
def noPan (Q : Exit → Act → World → Prop) : Exit → Act → World → Prop
  | .panic _, _, _ => False
  | e, a, w => Q e a w
theorem noPan_of {c : Code} (h : CE ro P c (noPan Q) nt ds env w) : CE ro P c Q nt ds env w := fun a hf => wpIn_mono (h a hf) fun e _ _ hq => by
  cases e with
  | panic c => exact hq.elim
  | normal => exact hq
  | exit id => exact hq
  | goto l => exact hq
  | ret => exact hq
  | outgrown => exact hq
theorem pdNo : PD (noPan Q) := fun _ _ _ _ _ h => h
theorem qNo (h : QE Q .normal nt ds env w) : QE (noPan Q) .normal nt ds env w := h

theorem run_take (hO : Own z w ss) (i : Nat) (hi : ss[i]? = some [(D, .deferred (some []))]) :
    (Instr.takeDeferred D).run P w = .ok [] { w with heap := w.heap.setIfInBounds D (.deferred none) } := by
  have h := hO.blk i hi
  simp [Instr.takeDeferred, getObj, setObj, Sem.run_bind, Sem.run, h, Result.andThen]

theorem qRetM {fn : Func} {R : Value → World → Prop} {rs : List ResultVar} (vs : List Value) (u : Value) (hO : Own z w ss) (i : Nat) (h : ∀ w', Own z w' (ss.set i [(D, .deferred none)]) → RVEs P env w' rs vs ∧ R u w')
    (hi : ss[i]? = some [(D, .deferred (some []))] := by rfl) (hr : fn.results = rs.toArray := by rfl) (hu : mkRes vs = u := by rfl) :
    QE (bodyPostM (FW none) 0 P fn (fun e w' => ∃ v, e = .returned v ∧ R v w')) .ret nt [coll D] env w := fun a hf => by
  subst hu
  obtain ⟨hv, h⟩ := h _ (hO.put i hi _)
  show LeavesInM _ _ _ _ _ _ a.defers _ _
  rw [hf.defers]
  exact ⟨by simp, .inl ⟨D, _, rfl, run_take hO i hi, _, results_run hr (hv.rvs hf), _, rfl, h⟩⟩
theorem qEndM {fn : Func} {R : Value → World → Prop} {rs : List ResultVar} (vs : List Value) (u : Value) (hO : Own z w ss) (i : Nat) (h : ∀ w', Own z w' (ss.set i [(D, .deferred none)]) → RVEs P env w' rs vs ∧ R u w')
    (hi : ss[i]? = some [(D, .deferred (some []))] := by rfl) (hr : fn.results = rs.toArray := by rfl) (hu : mkRes vs = u := by rfl) :
    QE (bodyPostM (FW none) 0 P fn (fun e w' => ∃ v, e = .returned v ∧ R v w')) .normal nt [coll D] env w := fun a hf => by
  subst hu
  obtain ⟨hv, h⟩ := h _ (hO.put i hi _)
  show LeavesInM _ _ _ _ _ _ a.defers _ _
  rw [hf.defers]
  exact ⟨by simp, .inl ⟨D, _, rfl, run_take hO i hi, _, results_run hr (hv.rvs hf), _, rfl, h⟩⟩
/-- No loop was entered. -/
theorem qRet0 {fn : Func} {R : Value → World → Prop} {rs : List ResultVar} (vs : List Value) (u : Value) (hv : RVEs P env w rs vs) (h : R u w) (hr : fn.results = rs.toArray := by rfl) (hu : mkRes vs = u := by rfl) :
    QE (bodyPostM (FW none) 0 P fn (fun e w' => ∃ v, e = .returned v ∧ R v w')) .ret nt [] env w := fun a hf => by
  subst hu
  show LeavesInM _ _ _ _ _ _ a.defers _ _
  rw [hf.defers]
  exact ⟨_, results_run hr (hv.rvs hf), _, rfl, h⟩
theorem qEnd0 {fn : Func} {R : Value → World → Prop} {rs : List ResultVar} (vs : List Value) (u : Value) (hv : RVEs P env w rs vs) (h : R u w) (hr : fn.results = rs.toArray := by rfl) (hu : mkRes vs = u := by rfl) :
    QE (bodyPostM (FW none) 0 P fn (fun e w' => ∃ v, e = .returned v ∧ R v w')) .normal nt [] env w := fun a hf => by
  subst hu
  show LeavesInM _ _ _ _ _ _ a.defers _ _
  rw [hf.defers]
  exact ⟨_, results_run hr (hv.rvs hf), _, rfl, h⟩

/-! ### Panics that pass -/
/-- The call panics. -/
def Pan (P : Program) (f : FuncId) (args : Array Value) (w : World) (x : Value) (R : World → Prop) : Prop :=
  Calls P f args w fun e w' => e = .panicked [{ v := x, recovered := false }] ∧ R w'
theorem O_pan {f : FuncId} {args : Array Value} {x : Value} {R : World → Prop} (hcall : ∀ (args : Array Value) (w : World), (callFunc f args).run P w = .ok (.enter f args) w) (hc : Pan P f args w x R) {o : Oper} {d : Nat} {c : Call}
    (h : ∀ w', R w' → QE Q (.panic [{ v := x, recovered := false }]) nt ds env w') (ho : ops[k]? = some o := by rfl) (hop : o.op = .call c := by rfl) (hd : o.dst = some d := by rfl) (hlt : Nat.blt d nt = true := by rfl) (hw : wantE ops nt env o = some true := by as_aux_lemma => kernel_rfl) (hcl : callee env c = some (f, args) := by as_aux_lemma => kernel_rfl) : OE ro P ops Q k nt ds env w Kp :=
  O_callP hcall hc (fun ch w' ⟨he, hR⟩ => by cases he; exact h w' hR) (fun w' ⟨he, _⟩ => by cases he) (fun v w' ⟨he, _⟩ => by cases he) ho hop hd hlt hw hcl
theorem qPan {fn : Func} {x : Value} {R : World → Prop} (h : R w) : QE (bodyPost P fn (fun e w' => e = .panicked [{ v := x, recovered := false }] ∧ R w')) (.panic [{ v := x, recovered := false }]) nt [] env w := fun _ hf => ⟨hf.defers, rfl, h⟩
/-- What a call ends with: it hands back, or it panics. -/
def toEnd : Except Value Value → Ending
  | .ok v => .returned v
  | .error x => .panicked [{ v := x, recovered := false }]
/-- A call that hands back or panics, as is told. -/
def RetP (P : Program) (f : FuncId) (args : Array Value) (w : World) (r : Except Value Value) (R : World → Prop) : Prop :=
  Calls P f args w fun e w' => e = toEnd r ∧ R w'
theorem RetP.ret {f : FuncId} {args : Array Value} {r : Except Value Value} {R : World → Prop} {v : Value} (h : RetP P f args w r R) (hr : r = .ok v) : Ret P f args w (fun v' w' => v' = v ∧ R w') := by
  subst hr; exact Calls.mono h fun e w' ⟨he, hR⟩ => ⟨v, he, rfl, hR⟩
theorem RetP.pan {f : FuncId} {args : Array Value} {r : Except Value Value} {R : World → Prop} {x : Value} (h : RetP P f args w r R) (hr : r = .error x) : Pan P f args w x R := by
  subst hr; exact h

/-! ### Deferred calls -/
/-- A deferred call, of a frame that leaves in such a way; it returns, and the frame leaves so then. -/
def RetD (P : Program) (f : FuncId) (args : Array Value) (u u' : FrameMode) (w : World) (R : World → Prop) : Prop :=
  CallsDIn (FW none) 0 P f args u w (fun e u'' w' => u'' = u' ∧ (∃ v, e = .returned v) ∧ R w')

def dfn (f : FuncId) (cap args : Array Value) : Deferred := { target := .fn (.func f) cap, args }

/-- defer f(..): operation number k. -/
theorem O_defer {f : FuncId} {fs cs : Array Value} {l : List Value} {g : Operand} {o : Oper} {c : Call} {n : Nat}
    (h : SE none P ops Q (k + 1) n nt (dfn f cs (fs ++ l.toArray) :: ds) env w) (ho : ops[k]? = some o := by rfl) (hop : o.op = .defer c := by rfl) (hd : o.dst = none := by rfl) (hw : wantE ops nt env o = some true := by as_aux_lemma => kernel_rfl)
    (hcl : c.callee = .value g := by rfl) (hg : evO env g = some (.func (.func f) fs cs) := by as_aux_lemma => kernel_rfl) (hl : evL env c.args.toList = some l := by as_aux_lemma => kernel_rfl) : SE none P ops Q k (n + 1) nt ds env w := by
  intro a hf
  have e1 : a.eval g = .func (.func f) fs cs := hf.ev hg
  have e2 : c.args.map a.eval = l.toArray := by
    have := hf.evL c.args.toList l hl
    apply Array.ext'
    simpa using this
  have hr : (execOp a.eval o).run P w = .ok (.defer (dfn f cs (fs ++ l.toArray))) w := by
    obtain ⟨dst, op, type, pos, after, guard⟩ := o
    simp only at hop
    subst hop
    simp only [execOp, resolve, hcl, e1, e2, Deferred.ofValue, Sem.run_bind, Sem.run_pure, Result.andThen]
    rfl
  have hwb := hf.want hw
  show opW none P ops Q k (seqN none P ops Q (k + 1) n) a w
  unfold opW
  simp only [ho]
  unfold wantB at hwb
  rw [if_pos hwb]
  refine ⟨fun _ _ => trivial, ?_⟩
  have hs : o.semAt (FW none).round a.eval = execOp a.eval o := by
    unfold Oper.semAt
    rfl
  rw [hs, hr]
  show seqN none P ops Q (k + 1) n _ w
  rw [hd]
  exact h _ ⟨hf.size, by simp [Act.put, hf.defers], hf.slot⟩

theorem qRetD {fn : Func} {R : Value → World → Prop} {R1 : World → Prop} {rs : List ResultVar} {f : FuncId} {cap args : Array Value} (vs : List Value) (u : Value)
    (hcall : ∀ (args : Array Value) (w : World), (callFunc f args).run P w = .ok (.enter f args) w)
    (hc : RetD P f (args ++ cap) .returning .returning w R1) (h : ∀ w', R1 w' → RVEs P env w' rs vs ∧ R u w')
    (hr : fn.results = rs.toArray := by rfl) (hu : mkRes vs = u := by rfl) :
    QE (bodyPostM (FW none) 0 P fn (fun e w' => ∃ v, e = .returned v ∧ R v w')) .ret nt [dfn f cap args] env w := fun a hf => by
  subst hu
  show LeavesInM _ _ _ _ _ _ a.defers _ _
  rw [hf.defers]
  refine ⟨by simp, .inr ⟨(fun h => by cases h), .func f, cap, f, args ++ cap, rfl, hcall _ _, fun _ _ => trivial, ?_⟩⟩
  refine CallsDIn.mono hc fun e u' w' ⟨hu', ⟨v, he⟩, hR⟩ => ?_
  subst hu'; subst he
  obtain ⟨hv, h⟩ := h _ hR
  exact ⟨_, results_run hr (hv.rvs hf), _, rfl, h⟩

theorem qPanD {fn : Func} {R : Value → World → Prop} {R1 : World → Prop} {rs : List ResultVar} {f : FuncId} {cap args : Array Value} {x : Value} (vs : List Value) (u : Value)
    (hcall : ∀ (args : Array Value) (w : World), (callFunc f args).run P w = .ok (.enter f args) w)
    (hc : RetD P f (args ++ cap) (.panicking [{ v := x, recovered := false }]) (.panicking [{ v := x, recovered := true }]) w R1) (h : ∀ w', R1 w' → RVEs P env w' rs vs ∧ R u w')
    (hr : fn.results = rs.toArray := by rfl) (hu : mkRes vs = u := by rfl) :
    QE (bodyPostM (FW none) 0 P fn (fun e w' => ∃ v, e = .returned v ∧ R v w')) (.panic [{ v := x, recovered := false }]) nt [dfn f cap args] env w := fun a hf => by
  subst hu
  show LeavesInM _ _ _ _ _ _ a.defers _ _
  rw [hf.defers]
  refine ⟨by simp, .inr ⟨(fun h => by cases h), .func f, cap, f, args ++ cap, rfl, hcall _ _, fun _ _ => trivial, ?_⟩⟩
  refine CallsDIn.mono hc fun e u' w' ⟨hu', ⟨v, he⟩, hR⟩ => ?_
  subst hu'; subst he
  obtain ⟨hv, h⟩ := h _ hR
  exact ⟨_, results_run hr (hv.rvs hf), _, rfl, h⟩

/-- What recover() tells, and how the frame below leaves then. -/
def recMode : FrameMode → Value × FrameMode
  | .panicking ({ v, recovered := false, goexit := false } :: older) => (v, .panicking ({ v, recovered := true } :: older))
  | u => (.nilIface, u)

theorem recover_eq (c : Frame) (cs : List Frame) {α : Type} (g : Value → List Frame → α) : (match recoverD (c :: cs) with | some (v, cs') => g v cs' | none => g Value.nilIface (c :: cs)) = g (recMode c.mode).1 ({ c with mode := (recMode c.mode).2 } :: cs) := by
  obtain ⟨fn, tmps, todo, defers, mode, kind, ro⟩ := c
  cases mode with
  | run => rfl
  | returning => rfl
  | panicking ch =>
    cases ch with
    | nil => rfl
    | cons p older =>
      obtain ⟨v, r, g⟩ := p
      cases r <;> cases g <;> rfl

/-- A deferred function whose first operation is recover(). -/
theorem retD {f : FuncId} {fn : Func} {c₀ : Code} {id d : Nat} {o : Oper} {args : List Value} {u : FrameMode} {R : World → Prop} (hn : fn.ntmps = nt) (hf : P.funcs[f]? = some fn)
    (h : CE none P c₀ (bodyPost P fn (fun e w' => ∃ v, e = .returned v ∧ R w')) nt [] ((d, (recMode u).1) :: env0 0 args) w)
    (hb : fn.body = some (.seq (.region id #[o] false) c₀) := by rfl) (hr : ∀ ρ (w : World), (execOp ρ o).run P w = .ok .recover w := by intro _ _; rfl) (hg : o.guard = none := by rfl) (hd : o.dst = some d := by rfl)
    (hlt : Nat.blt d nt = true := by rfl) (hl : Nat.ble args.length nt = true := by rfl) : RetD P f args.toArray u (recMode u).2 w R := by
  refine callsDIn_of_wpSIn (F := FW none) (n := 0) hf hb trivial ?_
  intro c cs hm
  refine wpSIn_seq (wpSIn_region ?_)
  show (∀ f', o.about P w _ = some f' → (FW none).fn f') ∧ _
  refine ⟨fun _ _ => trivial, ?_⟩
  have hw : Region.wanted o (yielded #[o] (args.toArray ++ Array.replicate (fn.ntmps - args.toArray.size) undef)) = true := by
    unfold Region.wanted
    rw [hg]
  show (if Region.wanted o (yielded #[o] (args.toArray ++ Array.replicate (fn.ntmps - args.toArray.size) undef)) = true then _ else _)
  rw [if_pos hw]
  show (match (execOp _ o).run P w with | .ok .recover w' => _ | .ok (.value v) w' => _ | .ok .skip w' => _ | .halt (.panic v) w' => _ | _ => False)
  rw [hr]
  show (match recoverD (c :: cs) with | some (v, cs') => wpOpsSIn (FW none) 0 P #[o] _ [] (Act.put _ o.dst v) cs' w | none => wpOpsSIn (FW none) 0 P #[o] _ [] (Act.put _ o.dst .nilIface) (c :: cs) w)
  rw [recover_eq c cs (fun v cs' => wpOpsSIn (FW none) 0 P #[o] (Exit.thenS (c₀.wpSIn (FW none) 0 P (bodyPostS P fn c cs fun e u'' w' => u'' = (recMode u).2 ∧ (∃ v, e = .returned v) ∧ R w')) (bodyPostS P fn c cs fun e u'' w' => u'' = (recMode u).2 ∧ (∃ v, e = .returned v) ∧ R w')) [] (Act.put _ o.dst v) cs' w)]
  rw [hm, hd, hn]
  refine wpSIn_of_wpIn rfl (wpIn_mono (h _ ((fr0 hl).put (Nat.lt_of_succ_le (Nat.le_of_ble_eq_true hlt)) _)) ?_)
  rintro e a' w' hq
  cases e with
  | normal => obtain ⟨hdf, v, hrr, v', he, hR⟩ := hq; exact ⟨hdf, _, rfl, v, hrr, rfl, ⟨v, rfl⟩, hR⟩
  | ret => obtain ⟨hdf, v, hrr, v', he, hR⟩ := hq; exact ⟨hdf, _, rfl, v, hrr, rfl, ⟨v, rfl⟩, hR⟩
  | panic ch => obtain ⟨hdf, v, he, hR⟩ := hq; cases he
  | exit id => exact hq.elim
  | goto l => exact hq.elim
  | outgrown => obtain ⟨v, he, hR⟩ := hq; cases he
end Go.SL

/-! More operations: panics, type assertions, slices of slices and of strings, copies, new slices, maps with strings' keys. -/
namespace Go.SL
open Go Go.RowKit
variable {ro : Option Nat} {P : Program} {T : TT} {ops : Array Oper} {Q : Exit → Act → World → Prop} {w z : World} {ss : List HL} {nt : Nat} {ds : List Deferred} {env env' : Env} {Kp : Env → World → Prop} {k : Nat}

/-! ### Panics -/
theorem O_panic {t : TypeId} {v : Value} {o : Oper} {x : Operand} (h : QE Q (.panic [{ v := .iface t v, recovered := false }]) nt ds env w) (ho : ops[k]? = some o := by rfl) (hop : o.op = .panic x := by rfl)
    (hw : wantE ops nt env o = some true := by as_aux_lemma => kernel_rfl) (hx : evO env x = some (.iface t v) := by as_aux_lemma => kernel_rfl) : OE ro P ops Q k nt ds env w Kp := by
  intro K a hf hK
  have hr : (execOp a.eval o).run P w = .halt (.panic (.iface t v)) w := by
    obtain ⟨dst, op, type, pos, after, guard⟩ := o
    simp only at hop
    subst hop
    simp only [execOp, hf.ev hx, Instr.panic, Sem.run_bind]
    rfl
  have hwb := hf.want hw
  unfold opW
  simp only [ho]
  unfold wantB at hwb
  rw [if_pos hwb]
  refine ⟨fun _ _ => trivial, ?_⟩
  rw [semAt_run (fun c hc => by rw [hop] at hc; cases hc), hr]
  exact h a hf

/-! ### x.(T), of a type that is no interface, with the second result -/
def notIface : TypeDesc → Bool
  | .interface _ => false
  | _ => true
def assertV (at_ : TypeId) (zv : Value) : Value → Option Value
  | .nilIface => some (.tuple #[zv, .bool false])
  | .iface t v => some (bif Nat.beq t at_ then .tuple #[v, .bool true] else .tuple #[zv, .bool false])
  | _ => none
theorem O_assert (hT : TOK P T) (u : Value) {o : Oper} {d : Nat} {x : Operand} {xt at_ : TypeId} {e : TE} {zv xv : Value} (h : Kp ((d, u) :: env) w) (ho : ops[k]? = some o := by rfl) (hop : o.op = .typeAssert x xt at_ true := by rfl) (hd : o.dst = some d := by rfl) (hlt : Nat.blt d nt = true := by rfl)
    (hw : wantE ops nt env o = some true := by as_aux_lemma => kernel_rfl) (hx : evO env x = some xv := by as_aux_lemma => kernel_rfl) (ht : T at_ = some e := by rfl) (hz : e.zero = some zv := by rfl) (hi : notIface e.d = true := by rfl) (hu : assertV at_ zv xv = some u := by as_aux_lemma => kernel_rfl) : OE ro P ops Q k nt ds env w Kp := by
  refine O_val ho hd hlt hw (fun a hf => ?_) h
  obtain ⟨dst, op, type, pos, after, guard⟩ := o
  simp only at hop
  subst hop
  have hun := run_und hT ht w
  have hzr := run_zero hT ht hz w
  simp only [execOp, hf.ev hx, Instr.typeAssert, Sem.run_bind, hun, Result.andThen]
  cases xv <;> simp only [assertV, reduceCtorEq, Option.some.injEq] at hu
  case nilIface =>
    subst hu
    cases hd' : e.d <;> simp_all [notIface]
  case iface t v =>
    cases hb : Nat.beq t at_ with
    | true =>
      have := Nat.eq_of_beq_eq_true hb
      subst this
      rw [hb] at hu
      simp only [cond_true] at hu
      subst hu
      cases hd' : e.d <;> simp_all [notIface]
    | false =>
      have hne : t ≠ at_ := fun e => by subst e; simp at hb
      rw [hb] at hu
      simp only [cond_false] at hu
      subst hu
      cases hd' : e.d <;> simp_all [notIface]

/-! ### x[l:h:m] -/
def bndV (env : Env) (o : Option Operand) (d : Int) : Option Int :=
  match o with
  | none => some d
  | some x => match evO env x with
    | some (.int _ i) => some i
    | _ => none

theorem run_bound {a : Act} (hf : Fr nt ds env a) {x : Operand} {d i : Int} (n y : Nat) (code : BoundsCode) (hb : bndV env (some x) d = some i) (hi : i = (n : Int)) (hn : n ≤ y) (w : World) : (Instr.sliceBound (a.eval x) y code).run P w = .ok n w := by
  simp only [bndV] at hb
  split at hb
  · rename_i kk j hx
    simp only [Option.some.injEq] at hb
    subst hb
    subst hi
    have h1 : (0 : Int) ≤ (n : Int) ∧ (n : Int) ≤ (y : Int) := ⟨Int.natCast_nonneg n, Int.ofNat_le.2 hn⟩
    simp only [Instr.sliceBound, hf.ev hx, asIntOf, Sem.run_bind, Sem.run_pure, Result.andThen, h1, and_self, if_true, Int.toNat_natCast]
  · simp at hb

theorem run_bounds {a : Act} (hf : Fr nt ds env a) {lo hi mx : Option Operand} {li hI mi : Int} {isS : Bool} {n c : Nat} (l h m : Nat)
    (hl : bndV env lo 0 = some li) (hh : bndV env hi n = some hI) (hm : bndV env mx c = some mi) (el : li = (l : Int)) (eh : hI = (h : Int)) (em : mi = (m : Int))
    (h1 : l ≤ h) (h2 : h ≤ m) (h3 : m ≤ c) (hmh : (mx.isSome && hi.isNone) = false) (w : World) :
    (Instr.sliceBounds isS n c (lo.map a.eval) (hi.map a.eval) (mx.map a.eval)).run P w = .ok (l, h, m) w := by
  have em' : mx = none → m = c := fun h0 => by
    subst h0
    simp only [bndV, Option.some.injEq] at hm
    omega
  have el' : lo = none → l = 0 := fun h0 => by
    subst h0
    simp only [bndV, Option.some.injEq] at hl
    omega
  have eh' : hi = none → h = n := fun h0 => by
    subst h0
    simp only [bndV, Option.some.injEq] at hh
    omega
  have bm : ∀ x, mx = some x → ∀ code, (Instr.sliceBound (a.eval x) c code).run P w = .ok m w := fun x h0 code => by subst h0; exact run_bound hf m c code hm em h3 w
  have bh : ∀ x, hi = some x → ∀ code, (Instr.sliceBound (a.eval x) m code).run P w = .ok h w := fun x h0 code => by subst h0; exact run_bound hf h m code hh eh h2 w
  have bl : ∀ x, lo = some x → ∀ code, (Instr.sliceBound (a.eval x) h code).run P w = .ok l w := fun x h0 code => by subst h0; exact run_bound hf l h code hl el h1 w
  clear hl hh hm
  cases mx with
  | none =>
    obtain rfl := em' rfl
    cases hi with
    | none =>
      obtain rfl := eh' rfl
      cases lo with
      | none =>
        obtain rfl := el' rfl
        simp only [Instr.sliceBounds, Option.map_none, Sem.run_bind, Sem.run_pure, Result.andThen]
      | some x => simp only [Instr.sliceBounds, Option.map_none, Option.map_some, Sem.run_bind, Sem.run_pure, Result.andThen, bl x rfl]
    | some y =>
      cases lo with
      | none =>
        obtain rfl := el' rfl
        simp only [Instr.sliceBounds, Option.map_none, Option.map_some, Sem.run_bind, Sem.run_pure, Result.andThen, bh y rfl]
      | some x => simp only [Instr.sliceBounds, Option.map_none, Option.map_some, Sem.run_bind, Sem.run_pure, Result.andThen, bl x rfl, bh y rfl]
  | some u =>
    cases hi with
    | none => simp at hmh
    | some y =>
      cases lo with
      | none =>
        obtain rfl := el' rfl
        simp only [Instr.sliceBounds, Option.map_none, Option.map_some, Sem.run_bind, Sem.run_pure, Result.andThen, bh y rfl, bm u rfl]
      | some x => simp only [Instr.sliceBounds, Option.map_none, Option.map_some, Sem.run_bind, Sem.run_pure, Result.andThen, bl x rfl, bh y rfl, bm u rfl]

/-- Of a slice. -/
theorem O_slice (hT : TOK P T) (l h m : Nat) {n c : Nat} {p : Option Addr} {o : Oper} {d : Nat} {t el : TypeId} {e g : TE} {x : Operand} {lo hi mx : Option Operand} {li hI mi : Int} (el_ : li = (l : Int)) (eh : hI = (h : Int)) (em : mi = (m : Int)) (h1 : l ≤ h) (h2 : h ≤ m) (h3 : m ≤ c)
    (hk : Kp ((d, .slice (if m = l then p else p.map (·.add (l * g.size))) (h - l) (m - l)) :: env) w)
    (ho : ops[k]? = some o := by rfl) (hop : o.op = .slice t x lo hi mx := by rfl) (hd : o.dst = some d := by rfl) (hlt : Nat.blt d nt = true := by rfl) (hw : wantE ops nt env o = some true := by as_aux_lemma => kernel_rfl)
    (hx : evO env x = some (.slice p n c) := by as_aux_lemma => kernel_rfl) (hl : bndV env lo 0 = some li := by rfl) (hh : bndV env hi n = some hI := by rfl) (hm : bndV env mx c = some mi := by rfl) (hmh : (mx.isSome && hi.isNone) = false := by rfl)
    (ht : T t = some e := by rfl) (hde : e.d = .slice el := by rfl) (hg : T el = some g := by rfl) : OE ro P ops Q k nt ds env w Kp := by
  refine O_val ho hd hlt hw (fun a hf => ?_) hk
  obtain ⟨dst, op, type, pos, after, guard⟩ := o
  simp only at hop
  subst hop
  have hu := run_und hT ht w
  rw [hde] at hu
  simp only [execOp, hf.ev hx, Instr.sliceAt, Instr.slice, Sem.run_bind, hu, Result.andThen, run_bounds hf l h m hl hh hm el_ eh em h1 h2 h3 hmh, run_size hT hg, Sem.run_pure]
/-- Of an array behind a pointer. -/
theorem O_sliceA (hT : TOK P T) (l h m : Nat) {n : Nat} {ad : Addr} {o : Oper} {d : Nat} {t at_ el : TypeId} {e ea g : TE} {x : Operand} {lo hi mx : Option Operand} {li hI mi : Int} (el_ : li = (l : Int)) (eh : hI = (h : Int)) (em : mi = (m : Int)) (h1 : l ≤ h) (h2 : h ≤ m) (h3 : m ≤ n)
    (hk : Kp ((d, .slice (some (if m = l then ad else ad.add (l * g.size))) (h - l) (m - l)) :: env) w)
    (ho : ops[k]? = some o := by rfl) (hop : o.op = .slice t x lo hi mx := by rfl) (hd : o.dst = some d := by rfl) (hlt : Nat.blt d nt = true := by rfl) (hw : wantE ops nt env o = some true := by as_aux_lemma => kernel_rfl)
    (hx : evO env x = some (.pointer (some ad)) := by as_aux_lemma => kernel_rfl) (hl : bndV env lo 0 = some li := by rfl) (hh : bndV env hi n = some hI := by rfl) (hm : bndV env mx n = some mi := by rfl) (hmh : (mx.isSome && hi.isNone) = false := by rfl)
    (ht : T t = some e := by rfl) (hde : e.d = .pointer at_ := by rfl) (hta : T at_ = some ea := by rfl) (hdea : ea.d = .array n el := by rfl) (hg : T el = some g := by rfl) : OE ro P ops Q k nt ds env w Kp := by
  refine O_val ho hd hlt hw (fun a hf => ?_) hk
  obtain ⟨dst, op, type, pos, after, guard⟩ := o
  simp only at hop
  subst hop
  have hu := run_und hT ht w
  rw [hde] at hu
  have hua := run_und hT hta w
  rw [hdea] at hua
  simp only [execOp, hf.ev hx, Instr.sliceAt, Instr.slice, Sem.run_bind, hu, hua, Result.andThen, asAddr, run_bounds hf l h m hl hh hm el_ eh em h1 h2 h3 hmh, run_size hT hg, Sem.run_pure]
/-- Of an array, the pointer being sure. -/
theorem O_sliceB (hT : TOK P T) (l h m : Nat) {n : Nat} {ad : Addr} {o : Oper} {d : Nat} {t el : TypeId} {e g : TE} {x : Operand} {lo hi mx : Option Operand} {li hI mi : Int} (el_ : li = (l : Int)) (eh : hI = (h : Int)) (em : mi = (m : Int)) (h1 : l ≤ h) (h2 : h ≤ m) (h3 : m ≤ n)
    (hk : Kp ((d, .slice (some (if m = l then ad else ad.add (l * g.size))) (h - l) (m - l)) :: env) w)
    (ho : ops[k]? = some o := by rfl) (hop : o.op = .slice t x lo hi mx := by rfl) (hd : o.dst = some d := by rfl) (hlt : Nat.blt d nt = true := by rfl) (hw : wantE ops nt env o = some true := by as_aux_lemma => kernel_rfl)
    (hx : evO env x = some (.pointer (some ad)) := by as_aux_lemma => kernel_rfl) (hl : bndV env lo 0 = some li := by rfl) (hh : bndV env hi n = some hI := by rfl) (hm : bndV env mx n = some mi := by rfl) (hmh : (mx.isSome && hi.isNone) = false := by rfl)
    (ht : T t = some e := by rfl) (hde : e.d = .array n el := by rfl) (hg : T el = some g := by rfl) : OE ro P ops Q k nt ds env w Kp := by
  refine O_val ho hd hlt hw (fun a hf => ?_) hk
  obtain ⟨dst, op, type, pos, after, guard⟩ := o
  simp only at hop
  subst hop
  have hu := run_und hT ht w
  rw [hde] at hu
  simp only [execOp, hf.ev hx, Instr.sliceAt, Instr.slice, Sem.run_bind, hu, Result.andThen, Instr.sureAddr, run_bounds hf l h m hl hh hm el_ eh em h1 h2 h3 hmh, run_size hT hg, Sem.run_pure]
/-- Of a string. -/
theorem O_sliceS (hT : TOK P T) (l h : Nat) {s : ByteArray} {o : Oper} {d : Nat} {t : TypeId} {e : TE} {x : Operand} {lo hi : Option Operand} {li hI : Int} (el_ : li = (l : Int)) (eh : hI = (h : Int)) (h1 : l ≤ h) (h2 : h ≤ s.size)
    (hk : Kp ((d, .string (s.extract l h)) :: env) w)
    (ho : ops[k]? = some o := by rfl) (hop : o.op = .slice t x lo hi none := by rfl) (hd : o.dst = some d := by rfl) (hlt : Nat.blt d nt = true := by rfl) (hw : wantE ops nt env o = some true := by as_aux_lemma => kernel_rfl)
    (hx : evO env x = some (.string s) := by as_aux_lemma => kernel_rfl) (hl : bndV env lo 0 = some li := by rfl) (hh : bndV env hi s.size = some hI := by rfl)
    (ht : T t = some e := by rfl) (hde : e.d = .string := by rfl) : OE ro P ops Q k nt ds env w Kp := by
  refine O_val ho hd hlt hw (fun a hf => ?_) hk
  obtain ⟨dst, op, type, pos, after, guard⟩ := o
  simp only at hop
  subst hop
  have hu := run_und hT ht w
  rw [hde] at hu
  have hb := run_bounds (P := P) (isS := false) hf (mx := none) l h s.size hl hh (mi := (s.size : Int)) (c := s.size) rfl el_ eh rfl h1 h2 (Nat.le_refl _) rfl w
  simp only [Option.map_none] at hb
  simp only [execOp, hf.ev hx, Instr.sliceAt, Instr.slice, Sem.run_bind, hu, Result.andThen, Option.map_none, Option.isSome_none, Bool.false_eq_true, if_false, hb, Sem.run_pure]
end Go.SL

/-! Bytes of strings; maps with any plain keys; new slices; copies. -/
namespace Go.SL
open Go Go.RowKit
variable {ro : Option Nat} {P : Program} {T : TT} {ops : Array Oper} {Q : Exit → Act → World → Prop} {w z : World} {ss : List HL} {nt : Nat} {ds : List Deferred} {env env' : Env} {Kp : Env → World → Prop} {k : Nat}

/-- A byte of a string. -/
theorem O_strIdx (hT : TOK P T) (j : Nat) {s : ByteArray} {c : UInt8} {o : Oper} {d : Nat} {t : TypeId} {e : TE} {x ix : Operand} {kk : IntKind} {i : Int} (hi : i = (j : Int)) (hj : s[j]? = some c)
    (h : Kp ((d, .int .u8 c.toNat) :: env) w)
    (ho : ops[k]? = some o := by rfl) (hop : o.op = .index t x ix := by rfl) (hd : o.dst = some d := by rfl) (hlt : Nat.blt d nt = true := by rfl) (hw : wantE ops nt env o = some true := by as_aux_lemma => kernel_rfl)
    (hx : evO env x = some (.string s) := by as_aux_lemma => kernel_rfl) (hix : evO env ix = some (.int kk i) := by rfl)
    (ht : T t = some e := by rfl) (hde : e.d = .string := by rfl) : OE ro P ops Q k nt ds env w Kp := by
  refine O_val ho hd hlt hw (fun a hf => ?_) h
  obtain ⟨dst, op, type, pos, after, guard⟩ := o
  simp only at hop
  subst hop
  have hu := run_und hT ht w
  rw [hde] at hu
  subst hi
  simp [execOp, Instr.index, hf.ev hx, hf.ev hix, asIntOf, hu, hj]

/-- The keys that a map may be asked for at once. -/
def plainKey (d : TypeDesc) (kv : Value) : Bool :=
  match d, kv with
  | .int _, .int _ _ => true
  | .string, .string _ => true
  | _, _ => false
theorem run_checkKeyP {t : TypeId} {d : TypeDesc} {kv : Value} {b : Bool} (hu : ∀ w, (underlying t).run P w = .ok d w) (hp : plainKey d kv = true) (w : World) : (Instr.checkKey b 10000 t kv).run P w = .ok () w := by
  rw [show (10000 : Nat) = 9999 + 1 from rfl]
  unfold Instr.checkKey
  rw [Sem.run_bind, hu w]
  unfold plainKey at hp
  split at hp
  · rfl
  · rfl
  · simp at hp

/-- A store of a key that is not there yet. -/
theorem O_insertK (hT : TOK P T) (hO : Own z w ss) (i : Nat) {o : Oper} {t kt vt : TypeId} {e g : TE} {m kx x : Operand} {b : Nat} {es : Array MapEntry} {c : Nat} {kv v : Value}
    (h : ∀ w', Own z w' (ss.set i [(b, .map (es.push ⟨kv, v, c⟩) (c + 1))]) → Kp env w')
    (ho : ops[k]? = some o := by rfl) (hop : o.op = .insert t m kx x := by rfl) (hd : o.dst = none := by rfl) (hw : wantE ops nt env o = some true := by as_aux_lemma => kernel_rfl)
    (hm : evO env m = some (.map (some b)) := by rfl) (hk : evO env kx = some kv := by rfl) (hx : evO env x = some v := by rfl) (hb : ss[i]? = some [(b, .map es c)] := by rfl)
    (ht : T t = some e := by rfl) (hde : e.d = .map kt vt := by rfl) (hg : T kt = some g := by rfl) (hp : plainKey g.d kv = true := by rfl) (hf : Instr.findNow g.d kv es.toList 0 = some none := by as_aux_lemma => kernel_rfl) : OE ro P ops Q k nt ds env w Kp := fun K a hf' hK => by
  have hblk := hO.blk i hb
  have hu := run_und hT ht w
  rw [hde] at hu
  have hku : ∀ w, (underlying kt).run P w = .ok g.d w := fun w => run_und hT hg w
  have hr : (execOp a.eval o).run P w = .ok .skip { w with heap := w.heap.setIfInBounds b (.map (es.push ⟨kv, v, c⟩) (c + 1)) } := by
    obtain ⟨dst, op, type, pos, after, guard⟩ := o
    simp only at hop
    subst hop
    simp only [execOp, hf'.ev hm, hf'.ev hk, hf'.ev hx, Instr.mapUpdate, Sem.run_bind, hu, Result.andThen, run_getObj_map hblk, run_checkKeyP hku hp, Instr.findKey, hku, hf, Sem.run_pure, run_setObj_map _ hblk]
  refine wpOp_skip ho (hf'.want hw) hr ?_
  rw [hd]
  exact hK _ _ _ (h _ (hO.put i hb _)) hf'

/-- A key that is asked for, where it is known whether it is there. -/
theorem O_lookupK (hT : TOK P T) (hO : Own z w ss) (i : Nat) {o : Oper} {d : Nat} {t kt vt : TypeId} {e g gv : TE} {m kx : Operand} {b : Nat} {es : Array MapEntry} {c : Nat} {kv zv : Value} {ok : Bool} (r : Option (Nat × Value)) (u : Value)
    (h : Kp ((d, u) :: env) w) 
    (ho : ops[k]? = some o := by rfl) (hop : o.op = .lookup t m kx ok := by rfl) (hd : o.dst = some d := by rfl) (hlt : Nat.blt d nt = true := by rfl) (hw : wantE ops nt env o = some true := by as_aux_lemma => kernel_rfl)
    (hm : evO env m = some (.map (some b)) := by rfl) (hk : evO env kx = some kv := by rfl) (hb : ss[i]? = some [(b, .map es c)] := by rfl)
    (ht : T t = some e := by rfl) (hde : e.d = .map kt vt := by rfl) (hg : T kt = some g := by rfl) (hp : plainKey g.d kv = true := by rfl) (hgv : T vt = some gv := by rfl) (hz : gv.zero = some zv := by rfl)
    (hf : Instr.findNow g.d kv es.toList 0 = some r := by as_aux_lemma => kernel_rfl)
    (hu : (if ok then Value.tuple #[(r.map (·.2)).getD zv, .bool r.isSome] else (r.map (·.2)).getD zv) = u := by rfl) : OE ro P ops Q k nt ds env w Kp := by
  refine O_val ho hd hlt hw (fun a hf' => ?_) h
  have hblk := hO.blk i hb
  have hun := run_und hT ht w
  rw [hde] at hun
  have hku : ∀ w, (underlying kt).run P w = .ok g.d w := fun w => run_und hT hg w
  obtain ⟨dst, op, type, pos, after, guard⟩ := o
  simp only at hop
  subst hop
  subst hu
  simp only [execOp, hf'.ev hm, hf'.ev hk, Instr.lookup, Sem.run_bind, hun, Result.andThen, run_getObj_map hblk, Sem.run_pure, run_checkKeyP hku hp, Instr.findKey, hku, hf]
  cases r with
  | none => simp only [Sem.run_bind, run_zero hT hgv hz, Result.andThen, Sem.run_pure, Option.map_none, Option.getD_none, Option.isSome_none]
  | some p =>
    obtain ⟨i, v⟩ := p
    rfl

/-! ### New slices -/
variable {α : Type} {enc : α → List Value} {size : Nat}

theorem fill_rows {x0 : α} {zv : Value} (h0 : zv.cells.toList = enc x0) (hz : ∀ x, (enc x).length = size) (hs : 0 < size) (n : Nat) :
    (Array.range (n * size)).map (zv.cells[· % zv.cells.size]!) = rows enc (List.replicate n x0) [] := by
  have hc : zv.cells = (enc x0).toArray := by rw [← h0]
  have hsz : zv.cells.size = size := by rw [hc]; simpa using hz x0
  apply Array.ext'
  simp only [rows, List.append_nil, Array.toList_map, Array.toList_range, hsz]
  induction n with
  | zero => simp
  | succ n ih =>
    rw [Nat.add_mul, Nat.one_mul, List.range_add, List.map_append, ih]
    rw [show List.replicate (n + 1) x0 = List.replicate n x0 ++ [x0] from List.replicate_succ', List.flatMap_append]
    congr 1
    simp only [List.flatMap_cons, List.flatMap_nil, List.append_nil, List.map_map]
    apply List.ext_getElem?
    intro i
    simp only [List.getElem?_map]
    rcases Nat.lt_or_ge i size with hi | hi
    · have h2 : (List.range size)[i]? = some i := by simp [hi]
      rw [h2]
      have hi' : i < (enc x0).length := by rw [hz]; exact hi
      simp [hc, hi', Nat.mul_add_mod, Nat.mul_add_mod', Nat.mod_eq_of_lt hi]
    · have h2 : (List.range size)[i]? = none := by simp [hi]
      have h3 : (enc x0)[i]? = none := by simp [hz, hi]
      rw [h2, h3]; rfl

theorem O_makeSlice (hT : TOK P T) (hO : Own z w ss) (x0 : α) (n : Nat) (hz : ∀ x, (enc x).length = size) {o : Oper} {d : Nat} {t el : TypeId} {e g : TE} {zv : Value} {x y : Operand} {kk kk' : IntKind} {i i' : Int} (hi : i = (n : Int)) (hi' : i' = (n : Int)) (hb : n * g.bytes ≤ 2 ^ 47)
    (h0 : zv.cells.toList = enc x0)
    (h : ∀ b w', Own z w' (ss ++ [[(b, .cells (rows enc (List.replicate n x0) []) el (0, 0))]]) → Kp ((d, .slice (some ⟨b, 0, none⟩) n n) :: env) w')
    (ho : ops[k]? = some o := by rfl) (hop : o.op = .makeSlice t x y := by rfl) (hd : o.dst = some d := by rfl) (hlt : Nat.blt d nt = true := by rfl) (hw : wantE ops nt env o = some true := by as_aux_lemma => kernel_rfl)
    (hx : evO env x = some (.int kk i) := by as_aux_lemma => kernel_rfl) (hy : evO env y = some (.int kk' i') := by as_aux_lemma => kernel_rfl)
    (ht : T t = some e := by rfl) (hde : e.d = .slice el := by rfl) (hg : T el = some g := by rfl) (hgz : g.zero = some zv := by rfl) (hgs : g.size = size := by rfl) (hgb : Nat.blt 0 g.bytes = true := by rfl) (hs0 : Nat.blt 0 size = true := by rfl) : OE ro P ops Q k nt ds env w Kp := by
  subst hi; subst hi'; subst hgs
  refine O_val ho hd hlt hw (fun a hf => ?_) (h w.heap.size _ (hO.alloc _))
  obtain ⟨dst, op, type, pos, after, guard⟩ := o
  simp only at hop
  subst hop
  have hu := run_und hT ht w
  rw [hde] at hu
  obtain ⟨_, ti, hti, hti2, hti3, hti4⟩ := hT.ok el g hg
  have hb0 : 0 < g.bytes := Nat.lt_of_succ_le (Nat.le_of_ble_eq_true hgb)
  have hs : 0 < g.size := Nat.lt_of_succ_le (Nat.le_of_ble_eq_true hs0)
  have hn : n ≤ 2 ^ 47 := Nat.le_trans (Nat.le_mul_of_pos_right n hb0) hb
  have hw1 : IntKind.i64.wrap (n : Int) = n := wrap_i64_of (by omega) (by omega)
  have hbi : ((g.bytes : Int) * (n : Int)) ≤ 2 ^ 47 := by
    have : ((n * g.bytes : Nat) : Int) ≤ ((2 ^ 47 : Nat) : Int) := Int.ofNat_le.2 hb
    rw [Nat.mul_comm] at this
    simpa using this
  have hf1 := fill_rows (enc := enc) h0 hz hs n
  have hroom : ¬ (n * g.bytes > roomBytes) := by
    show ¬ (n * g.bytes > 2 ^ 47)
    omega
  have hbn : ¬ ((g.bytes : Int) * (n : Int) > 2 ^ 48) := by omega
  have hai : ∀ kk, (asIntOf (.int kk (n : Int))).run P w = .ok (kk, (n : Int)) w := fun _ => rfl
  have hpr : program.run P w = .ok P w := rfl
  have hn0 : ¬ ((n : Int) < 0) := by omega
  have hnn : ¬ ((n : Int) > (n : Int)) := by omega
  have hask : (askRoom (n * g.bytes)).run P w = .ok () w := by
    simp only [askRoom, hroom, if_false, Sem.run_pure]
  have hsz := run_size hT hg w
  have hzr := run_zero hT hg hgz w
  simp only [execOp, hf.ev hx, hf.ev hy, Instr.makeSlice, Sem.run_bind, hu, Result.andThen, asInt, Sem.run_pure, typeInfo, hti, hai, hpr, hw1, hti3, hbn, hn0, hnn, decide_false, Bool.or_false, Bool.false_eq_true, if_false, Int.toNat_natCast, hask, hsz]
  by_cases h00 : n * g.size = 0
  · have hn' : n = 0 := by
      rcases Nat.mul_eq_zero.1 h00 with h | h
      · exact h
      · omega
    subst hn'
    simp [newRow, rows, show Array.range 0 = #[] from rfl]
  · simp only [h00, if_false, Sem.run_bind, hzr, Result.andThen, Sem.run_pure, newRow, hf1]
    rfl

/-! ### Scopes without a goto -/
theorem wpIn_scope {F : Fence} {n : Nat} {a : Act} {c : Code} (h : c.wpIn F n P (Exit.noGoto Q) a w) : (Code.scope c).wpIn F n P Q a w := by
  intro b k cs hro hb hr
  have h0 : (lone (b.atR a (.code (.scope c) :: k)) cs w).fenced P F := fenced_calm hb hr rfl
  have s0 : step P (lone (b.atR a (.code (.scope c) :: k)) cs w) = .next (lone (b.atR a (.code c :: .inScope c :: k)) cs w) := step_lone_go (by simp [stepG, stepG.exec, Frame.atR])
  obtain ⟨e, a₁, w₁, hq, harr⟩ := h b (.inScope c :: k) cs hro hb hr
  have s1 : step P (lone (b.atR a₁ (.inScope c :: k)) cs w₁) = .next (lone (b.atR a₁ k) cs w₁) := step_lone_go (by simp [stepG, stepG.exec, Frame.atR])
  cases e with
  | normal => exact ⟨.normal, a₁, w₁, hq, .head h0 s0 (StepsIn.trans harr (.one (fenced_calm hb hr rfl) s1))⟩
  | exit id =>
    have hx : exitTo id (.inScope c :: k) = exitTo id k := by simp [exitTo]
    exact ⟨.exit id, a₁, w₁, hq, fun k' hk => .head h0 s0 (harr.1 k' (by rw [hx]; exact hk)),
      fun hr' hk => let ⟨k₁, h1, h2⟩ := harr.2 hr' (by rw [hx]; exact hk); ⟨k₁, h1, .head h0 s0 h2⟩⟩
  | goto l => exact hq.elim
  | ret => exact ⟨_, a₁, w₁, hq, .of_steps (.one h0 s0) harr⟩
  | panic ch => exact ⟨_, a₁, w₁, hq, .of_steps (.one h0 s0) harr⟩
  | outgrown => exact ⟨_, a₁, w₁, hq, .of_steps (.one h0 s0) harr⟩
theorem cScope {c : Code} (h : CE ro P c (Exit.noGoto Q) nt ds env w) : CE ro P (.scope c) Q nt ds env w := fun a hf => wpIn_scope (h a hf)
theorem cLabel {l : Nat} (h : QE Q .normal nt ds env w) : CE ro P (.label l) Q nt ds env w := fun a hf => wpIn_label (h a hf)
theorem qScN (h : QE Q .normal nt ds env w) : QE (Exit.noGoto Q) .normal nt ds env w := h
theorem qScR (h : QE Q .ret nt ds env w) : QE (Exit.noGoto Q) .ret nt ds env w := h
theorem qScX {id : Nat} (h : QE Q (.exit id) nt ds env w) : QE (Exit.noGoto Q) (.exit id) nt ds env w := h
theorem qScP {ch : List PanicEntry} (h : QE Q (.panic ch) nt ds env w) : QE (Exit.noGoto Q) (.panic ch) nt ds env w := h
theorem pdSc (h : PD Q) : PD (Exit.noGoto Q) := fun c a w d v hq => h c a w d v hq

/-! ### Loops, round by round -/
def RE (ro : Option Nat) (P : Program) (c : Code) (Q : Exit → Act → World → Prop) (m nt : Nat) (ds : List Deferred) (env : Env) (w : World) : Prop := ∀ a, Fr nt ds env a → Code.roundsIn (FW ro) 0 P c Q m a w
theorem cRounds {c : Code} (m : Nat) (h : RE ro P c Q m nt ds env w) : CE ro P (.loop c) Q nt ds env w := fun a hf => wpIn_loop_rounds m (h a hf)
theorem rNext {c : Code} {m : Nat} (h : CE ro P c (Exit.then (Code.roundsIn (FW ro) 0 P c Q m) Q) nt ds env w) : RE ro P c Q (m + 1) nt ds env w := h
theorem qNext {c : Code} {m : Nat} (h : RE ro P c Q m nt ds env w) : QE (Exit.then (Code.roundsIn (FW ro) 0 P c Q m) Q) .normal nt ds env w := h

/-! ### Elements of a row that begins its block -/
theorem O_idx0 (hT : TOK P T) (j : Nat) {n c : Nat} {o : Oper} {d : Nat} {t el : TypeId} {e g : TE} {x ix : Operand} {b : Nat} {kk : IntKind} {i : Int} (hi : i = (j : Int)) (hj : j < n)
    (h : Kp ((d, .pointer (some ⟨b, j * g.size, none⟩)) :: env) w)
    (ho : ops[k]? = some o := by rfl) (hop : o.op = .indexAddr t x ix := by rfl) (hd : o.dst = some d := by rfl) (hlt : Nat.blt d nt = true := by rfl) (hw : wantE ops nt env o = some true := by as_aux_lemma => kernel_rfl)
    (hx : evO env x = some (.slice (some ⟨b, 0, none⟩) n c) := by rfl) (hix : evO env ix = some (.int kk i) := by rfl)
    (ht : T t = some e := by rfl) (hde : e.d = .slice el := by rfl) (hg : T el = some g := by rfl) : OE ro P ops Q k nt ds env w Kp :=
  O_idx hT j hi hj (by rw [Nat.zero_add]; exact h) ho hop hd hlt hw hx hix ht hde hg
theorem O_idxA0 (hT : TOK P T) (j : Nat) {n : Nat} {o : Oper} {d : Nat} {t el : TypeId} {e g : TE} {x ix : Operand} {b : Nat} {kk : IntKind} {i : Int} (hi : i = (j : Int)) (hj : j < n)
    (h : Kp ((d, .pointer (some ⟨b, j * g.size, none⟩)) :: env) w)
    (ho : ops[k]? = some o := by rfl) (hop : o.op = .indexAddr t x ix := by rfl) (hd : o.dst = some d := by rfl) (hlt : Nat.blt d nt = true := by rfl) (hw : wantE ops nt env o = some true := by as_aux_lemma => kernel_rfl)
    (hx : evO env x = some (.pointer (some ⟨b, 0, none⟩)) := by rfl) (hix : evO env ix = some (.int kk i) := by rfl)
    (ht : T t = some e := by rfl) (hde : e.d = .array n el := by rfl) (hg : T el = some g := by rfl) : OE ro P ops Q k nt ds env w Kp :=
  O_idxA hT j hi hj (by rw [Nat.zero_add]; exact h) ho hop hd hlt hw hx hix ht hde hg
end Go.SL

/-! Regions that draw, where new blocks are laid at any time beside what goes on in an order. -/
namespace Go.SL
open Go Go.RowKit
variable {ro : Option Nat} {P : Program} {T : TT} {ops : Array Oper} {Q : Exit → Act → World → Prop} {w z : World} {ss : List HL} {nt : Nat} {ds : List Deferred} {env env' : Env} {Kp : Env → World → Prop} {k : Nat}

theorem Own.fperm {tt : List HL} (h : Own z w ss) (hs : ss.flatten.Perm tt.flatten) : Own z w tt :=
  ⟨h.os, h.tape, h.output, h.size, (hs.map (·.1)).nodup_iff.1 h.nd, fun p hp => h.at_ p (hs.mem_iff.2 hp)⟩

/-- An operation leaves the slots of others alone. -/
theorem opW_slot {i : Nat} {K : Act → World → Prop} {a : Act} (s : Nat) (hd : ∀ o, ops[i]? = some o → o.dst ≠ some s) (h : opW ro P ops Q i K a w) :
    opW ro P ops Q i (fun a' w' => K a' w' ∧ a'.tmps.getD s undef = a.tmps.getD s undef) a w := by
  have keep : ∀ (a : Act) (o : Oper) (u : Value), ops[i]? = some o → (a.put o.dst u).tmps.getD s undef = a.tmps.getD s undef := by
    intro a o u ho
    have hne := hd o ho
    cases hdst : o.dst with
    | none => rfl
    | some d =>
      have : d ≠ s := fun e => hne (by rw [hdst, e])
      simp [Act.put, Array.getD_eq_getD_getElem?, Array.getElem?_setIfInBounds_ne this]
  unfold opW at *
  split
  · rename_i ho; simp only [ho] at h; exact ⟨h, rfl⟩
  · rename_i o ho
    simp only [ho] at h
    split
    · rename_i hw
      simp only [hw, if_true] at h
      unfold Oper.wpIn at *
      obtain ⟨h0, h⟩ := h
      refine ⟨h0, ?_⟩
      clear h0
      generalize (o.semAt (FW ro).round a.eval).run P w = rr at *
      cases rr with
      | ok x w' =>
        cases x <;> simp only [Oper.uponIn] at h ⊢
        case value u => exact ⟨h, keep a o u ho⟩
        case skip => exact ⟨h, keep a o undef ho⟩
        case defer d => exact ⟨h, keep { a with defers := d :: a.defers } o undef ho⟩
        case enter f args =>
          refine ⟨h.1, CallsIn.mono h.2 fun e w'' he => ?_⟩
          cases e with
          | returned u => exact ⟨he, keep a o u ho⟩
          | panicked c => exact he
          | outgrown => exact he
        case row row args => exact ⟨h.1, RowsIn.mono h.2 fun u w'' he => ⟨he, keep a o u ho⟩⟩
        case round l f tmps assign body =>
          refine ⟨h.1, RoundIn.mono h.2 fun e w'' he => ?_⟩
          cases e with
          | returned u => exact ⟨he, keep a o u ho⟩
          | panicked c => exact he
          | outgrown => exact he
      | halt x w' => cases x <;> simp only [Oper.uponIn] at h ⊢ <;> exact h
    · rename_i hw
      simp only [hw] at h
      exact ⟨h, keep a o undef ho⟩

/-! ### Operations that only lay a block -/
structure FSpec where
  i : Nat
  d : Nat
  o : Obj

/-- It lays the block o, whenever it is carried out. -/
structure FOK (P : Program) (ops : Array Oper) (nt : Nat) (f : FSpec) : Prop where
  run : ∃ op, ops[f.i]? = some op ∧ op.dst = some f.d ∧ op.guard = none ∧ f.d < nt ∧ ∀ ρ (w : World), (execOp ρ op).run P w = .ok (.value (.pointer (some ⟨w.heap.size, 0, none⟩))) { w with heap := w.heap.push f.o }

theorem fok_alloc (hT : TOK P T) {i d : Nat} {op : Oper} {t : TypeId} {e : TE} {v : Value} (ho : ops[i]? = some op := by rfl) (hop : op.op = .alloc t := by rfl) (hd : op.dst = some d := by rfl) (hg : op.guard = none := by rfl) (hlt : Nat.blt d nt = true := by rfl) (ht : T t = some e := by rfl) (hz : e.zero = some v := by rfl) :
    FOK P ops nt ⟨i, d, .cells v.cells t (0, 0)⟩ := by
  refine ⟨op, ho, hd, hg, Nat.lt_of_succ_le (Nat.le_of_ble_eq_true hlt), fun ρ w => ?_⟩
  obtain ⟨dst, op, type, pos, after, guard⟩ := op
  simp only at hop
  subst hop
  simp [execOp, Instr.alloc, run_zero hT ht hz, newVar, newRow]

abbrev FL := List (FSpec × Option Nat)
def flH : FL → HL
  | [] => []
  | (f, some b) :: r => (b, f.o) :: flH r
  | (_, none) :: r => flH r
def markF : Array Bool → FL → Array Bool
  | L, [] => L
  | L, (f, some _) :: r => markF (L.setIfInBounds f.i true) r
  | L, (_, none) :: r => markF L r
def ndF : List Nat → FL → List Nat
  | nd, [] => nd
  | nd, (_, some _) :: r => ndF nd r
  | nd, (f, none) :: r => ndF (f.i :: nd) r
def subs (p : Array Bool → List Nat → Bool) : Array Bool → List Nat → List FSpec → Bool
  | L, nd, [] => p L nd
  | L, nd, f :: r => subs p (L.setIfInBounds f.i true) nd r && subs p L (f.i :: nd) r

theorem subs_spec {p : Array Bool → List Nat → Bool} : ∀ (fs : FL) (L : Array Bool) (nd : List Nat), subs p L nd (fs.map (·.1)) = true → p (markF L fs) (ndF nd fs) = true
  | [], _, _, h => h
  | (f, some _) :: r, L, nd, h => by simp only [List.map_cons, subs, Bool.and_eq_true] at h; exact subs_spec r _ _ h.1
  | (f, none) :: r, L, nd, h => by simp only [List.map_cons, subs, Bool.and_eq_true] at h; exact subs_spec r _ _ h.2

theorem mem_ndF {j : Nat} : ∀ (fs : FL) (nd : List Nat), j ∈ ndF nd fs → j ∈ nd ∨ ∃ (k : Nat) (f : FSpec), fs[k]? = some (f, none) ∧ f.i = j
  | [], _, h => .inl h
  | (f, some _) :: r, nd, h => by
    rcases mem_ndF r nd h with h | ⟨k, g, h1, h2⟩
    · exact .inl h
    · exact .inr ⟨k + 1, g, by simpa using h1, h2⟩
  | (f, none) :: r, nd, h => by
    rcases mem_ndF r _ h with h | ⟨k, g, h1, h2⟩
    · rcases List.mem_cons.1 h with h | h
      · exact .inr ⟨0, f, rfl, h.symm⟩
      · exact .inl h
    · exact .inr ⟨k + 1, g, by simpa using h1, h2⟩
theorem ndF_mem {j : Nat} : ∀ (fs : FL) (nd : List Nat), j ∈ nd → j ∈ ndF nd fs
  | [], _, h => h
  | (_, some _) :: r, nd, h => ndF_mem r nd h
  | (_, none) :: r, nd, h => ndF_mem r _ (List.mem_cons_of_mem _ h)
theorem ndF_of {f : FSpec} : ∀ (fs : FL) (nd : List Nat) (k : Nat), fs[k]? = some (f, none) → f.i ∈ ndF nd fs
  | [], _, _, h => by simp at h
  | (g, o) :: r, nd, 0, h => by
    simp only [List.getElem?_cons_zero, Option.some.injEq, Prod.mk.injEq] at h
    obtain ⟨rfl, rfl⟩ := h
    exact ndF_mem r _ List.mem_cons_self
  | (g, some _) :: r, nd, k + 1, h => ndF_of r nd k (by simpa using h)
  | (g, none) :: r, nd, k + 1, h => ndF_of r _ k (by simpa using h)

theorem set_comm2 (L : Array Bool) (i j : Nat) : (L.setIfInBounds i true).setIfInBounds j true = (L.setIfInBounds j true).setIfInBounds i true := by
  by_cases h : i = j
  · subst h; rfl
  · exact Array.setIfInBounds_comm _ _ h
theorem markF_set : ∀ (fs : FL) (L : Array Bool) (i : Nat), markF (L.setIfInBounds i true) fs = (markF L fs).setIfInBounds i true
  | [], _, _ => rfl
  | (f, some _) :: r, L, i => by simp only [markF]; rw [set_comm2, markF_set r]
  | (_, none) :: r, L, i => markF_set r L i
theorem markF_done {f : FSpec} {b : Nat} : ∀ (fs : FL) (L : Array Bool) (k : Nat), fs[k]? = some (f, none) → markF L (fs.set k (f, some b)) = (markF L fs).setIfInBounds f.i true
  | [], _, _, h => by simp at h
  | (g, o) :: r, L, 0, h => by
    simp only [List.getElem?_cons_zero, Option.some.injEq, Prod.mk.injEq] at h
    obtain ⟨rfl, rfl⟩ := h
    simp only [List.set_cons_zero, markF, markF_set]
  | (g, some _) :: r, L, k + 1, h => by simp only [List.set_cons_succ, markF]; exact markF_done r _ k (by simpa using h)
  | (g, none) :: r, L, k + 1, h => by simp only [List.set_cons_succ, markF]; exact markF_done r _ k (by simpa using h)
theorem flH_done {f : FSpec} {b : Nat} : ∀ (fs : FL) (k : Nat), fs[k]? = some (f, none) → ((flH fs) ++ [(b, f.o)]).Perm (flH (fs.set k (f, some b)))
  | [], _, h => by simp at h
  | (g, o) :: r, 0, h => by
    simp only [List.getElem?_cons_zero, Option.some.injEq, Prod.mk.injEq] at h
    obtain ⟨rfl, rfl⟩ := h
    simp only [List.set_cons_zero, flH]
    exact List.perm_append_comm
  | (g, some c) :: r, k + 1, h => by simp only [List.set_cons_succ, flH, List.cons_append]; exact (flH_done r k (by simpa using h)).cons _
  | (g, none) :: r, k + 1, h => by simp only [List.set_cons_succ, flH]; exact flH_done r k (by simpa using h)
/-- The float's place, once it is taken out. -/
theorem markF_out {f : FSpec} {b : Nat} : ∀ (fs : FL) (L : Array Bool) (k : Nat), fs[k]? = some (f, some b) → markF L fs = markF (L.setIfInBounds f.i true) (fs.eraseIdx k)
  | [], _, _, h => by simp at h
  | (g, o) :: r, L, 0, h => by
    simp only [List.getElem?_cons_zero, Option.some.injEq, Prod.mk.injEq] at h
    obtain ⟨rfl, rfl⟩ := h
    rfl
  | (g, some _) :: r, L, k + 1, h => by simp only [List.eraseIdx_cons_succ, markF]; rw [markF_out r _ k (by simpa using h), set_comm2]
  | (g, none) :: r, L, k + 1, h => by simp only [List.eraseIdx_cons_succ, markF]; exact markF_out r _ k (by simpa using h)
theorem flH_out {f : FSpec} {b : Nat} : ∀ (fs : FL) (k : Nat), fs[k]? = some (f, some b) → (flH fs).Perm ((b, f.o) :: flH (fs.eraseIdx k))
  | [], _, h => by simp at h
  | (g, o) :: r, 0, h => by
    simp only [List.getElem?_cons_zero, Option.some.injEq, Prod.mk.injEq] at h
    obtain ⟨rfl, rfl⟩ := h
    exact .refl _
  | (g, some c) :: r, k + 1, h => by simp only [List.eraseIdx_cons_succ, flH]; exact ((flH_out r k (by simpa using h)).cons _).trans (.swap _ _ _)
  | (g, none) :: r, k + 1, h => by simp only [List.eraseIdx_cons_succ, flH]; exact flH_out r k (by simpa using h)
def cntN : FL → Nat
  | [] => 0
  | (_, some _) :: r => cntN r
  | (_, none) :: r => cntN r + 1
theorem cntN_done {f : FSpec} {b : Nat} : ∀ (fs : FL) (k : Nat), fs[k]? = some (f, none) → cntN (fs.set k (f, some b)) + 1 = cntN fs
  | [], _, h => by simp at h
  | (g, o) :: r, 0, h => by
    simp only [List.getElem?_cons_zero, Option.some.injEq, Prod.mk.injEq] at h
    obtain ⟨rfl, rfl⟩ := h
    rfl
  | (g, some c) :: r, k + 1, h => by simp only [List.set_cons_succ, cntN]; exact cntN_done r k (by simpa using h)
  | (g, none) :: r, k + 1, h => by simp only [List.set_cons_succ, cntN]; have := cntN_done (b := b) r k (by simpa using h); omega
theorem cntN_out {f : FSpec} {b : Nat} : ∀ (fs : FL) (k : Nat), fs[k]? = some (f, some b) → cntN (fs.eraseIdx k) = cntN fs
  | [], _, h => by simp at h
  | (g, o) :: r, 0, h => by
    simp only [List.getElem?_cons_zero, Option.some.injEq, Prod.mk.injEq] at h
    obtain ⟨rfl, rfl⟩ := h
    rfl
  | (g, some c) :: r, k + 1, h => by simp only [List.eraseIdx_cons_succ, cntN]; exact cntN_out r k (by simpa using h)
  | (g, none) :: r, k + 1, h => by simp only [List.eraseIdx_cons_succ, cntN]; rw [cntN_out r k (by simpa using h)]

/-! ### The order -/
inductive StF where
  | q (i : Nat)   -- it only looks
  | e (i : Nat)   -- it acts
  | f (k : Nat)   -- block number k of those that are left is needed
def StF.nf : List StF → Nat
  | [] => 0
  | .f _ :: r => nf r
  | _ :: r => nf r + 1

def clearD (ops : Array Oper) (i : Nat) (pend : List FSpec) : Bool := pend.all fun f => (ops[i]?).any fun o => match o.dst with | some d => !(Nat.beq d f.d) | none => true
def chkF (ops : Array Oper) (N : Nat) : Array Bool → List FSpec → List StF → Bool
  | L, pend, [] => pend.isEmpty && (Region.ready .any ops L).isEmpty
  | L, pend, .q i :: r => Nat.blt i N && clearD ops i pend && subs (fun L _ => (Region.ready .any ops L).contains i && Region.free .any ops L i) L [] pend && chkF ops N (L.setIfInBounds i true) pend r
  | L, pend, .e i :: r => clearD ops i pend && subs (fun L nd => (Region.ready .any ops L).contains i && (Region.ready .any ops L).all fun j => Nat.beq j i || nd.contains j) L [] pend && chkF ops N (L.setIfInBounds i true) pend r
  | L, pend, .f k :: r => match pend[k]? with
    | none => false
    | some g => subs (fun L nd => !(nd.contains g.i) || ((Region.ready .any ops L).contains g.i && (Region.ready .any ops L).all fun j => nd.contains j)) L [] pend && chkF ops N (L.setIfInBounds g.i true) (pend.eraseIdx k) r

def freshE (env : Env) (pend : List FSpec) : Bool := pend.all fun f => (look env f.d).isNone
/-- The walk in that order; blocks that are left may be laid at any time. -/
def WK (ro : Option Nat) (P : Program) (ops : Array Oper) (Q : Exit → Act → World → Prop) (S : World → Prop) (N nt : Nat) (ds : List Deferred) (z : World) : List StF → List FSpec → Env → List HL → Prop
  | [], _, env, ss => ∀ X w, Own z w (ss ++ [X]) → QE Q .normal nt ds env w
  | .q i :: r, pend, env, ss => freshE env pend = true ∧ (∀ X w, Own z w (ss ++ [X]) → S w) ∧ ∃ o d v, ops[i]? = some o ∧ o.dst = some d ∧ d < nt ∧ (∀ a, Fr nt ds env a → YieldsIf P ops S o v a) ∧ WK ro P ops Q S N nt ds z r pend ((d, v) :: env) ss
  | .e i :: r, pend, env, ss => freshE env pend = true ∧ ((∃ f ∈ pend, f.i < N) → ∀ X w, Own z w (ss ++ [X]) → S w) ∧
      ∀ X w, Own z w (ss ++ [X]) → OE ro P ops Q i nt ds env w (fun env' w' => (i < N → S w') ∧ ∃ ss', Own z w' (ss' ++ [X]) ∧ WK ro P ops Q S N nt ds z r pend env' ss')
  | .f k :: r, pend, env, ss => freshE env pend = true ∧ ((∃ f ∈ pend, f.i < N) → ∀ X w, Own z w (ss ++ [X]) → S w) ∧ ∃ f, pend[k]? = some f ∧ ∀ b, WK ro P ops Q S N nt ds z r (pend.eraseIdx k) ((f.d, .pointer (some ⟨b, 0, none⟩)) :: env) (ss ++ [[(b, f.o)]])

/-- One that is left is laid. -/
theorem fl_step {S : World → Prop} {N : Nat} {z : World} {f : FSpec} {a : Act} {K : Act → World → Prop} (hf : FOK P ops nt f)
    (h : ∀ b w', w'.heap = w.heap.push f.o → (∀ ss, Own z w ss → Own z w' (ss ++ [[(b, f.o)]])) → K (a.put (some f.d) (.pointer (some ⟨b, 0, none⟩))) w') :
    opW ro P ops Q f.i K a w := by
  obtain ⟨op, ho, hd, hg, _, hr⟩ := hf.run
  have hw : wantB ops a op = true := by unfold wantB Region.wanted; rw [hg]
  refine wpOp_val ho hw (hr a.eval w) ?_
  rw [hd]
  exact h _ _ rfl fun ss hO => hO.alloc _

/-- What is known while blocks are left. -/
structure KF (z : World) (nt : Nat) (ds : List Deferred) (env : Env) (ss : List HL) (X : HL) (fs : FL) (a : Act) (w : World) : Prop where
  own : Own z w (ss ++ [X ++ flH fs])
  fr : Fr nt ds env a
  sl : ∀ (k : Nat) (f : FSpec) (b : Nat), fs[k]? = some (f, some b) → a.tmps.getD f.d undef = .pointer (some ⟨b, 0, none⟩)

theorem Fr.skip {a : Act} {d : Nat} {v : Value} (h : Fr nt ds env a) (hd : d < nt) (hn : SL.look env d = none) : Fr nt ds env (a.put (some d) v) := by
  have h1 := h.put hd v
  refine ⟨h1.size, h1.defers, fun s u hs => ?_⟩
  rw [look_eq] at hs
  refine h1.look ?_
  simp only [SL.look]
  cases hb : Nat.beq s d with
  | true => rw [Nat.eq_of_beq_eq_true hb] at hs; rw [hn] at hs; cases hs
  | false => exact hs

theorem freshE_at {pend : List FSpec} {f : FSpec} (h : freshE env pend = true) (hf : f ∈ pend) : look env f.d = none := by
  have := List.all_eq_true.1 h f hf
  simpa using this

theorem put_slot {a : Act} {d s : Nat} {v : Value} (h : d ≠ s) : (a.put (some d) v).tmps.getD s undef = a.tmps.getD s undef := by
  simp [Act.put, Array.getD_eq_getD_getElem?, Array.getElem?_setIfInBounds_ne h]
theorem put_at {a : Act} {d : Nat} {v : Value} (h : d < a.tmps.size) : (a.put (some d) v).tmps.getD d undef = v := by
  simp [Act.put, h]

theorem map_erase {α β : Type} (g : α → β) : ∀ (l : List α) (k : Nat), (l.eraseIdx k).map g = (l.map g).eraseIdx k
  | [], _ => rfl
  | _ :: _, 0 => rfl
  | x :: l, k + 1 => by simp [map_erase g l k]
theorem clearD_at {i : Nat} {pend : List FSpec} {f : FSpec} {o : Oper} (h : clearD ops i pend = true) (hf : f ∈ pend) (ho : ops[i]? = some o) : o.dst ≠ some f.d := by
  have := List.all_eq_true.1 h f hf
  rw [ho] at this
  simp only [Option.any_some] at this
  intro hd
  rw [hd] at this
  simp at this

variable {S : World → Prop} {N : Nat}

theorem KF.lay {X : HL} {fs : FL} {a : Act} {kk b : Nat} {f : FSpec} {w' : World} (h : KF z nt ds env ss X fs a w) (hk : fs[kk]? = some (f, none)) (hnd : (fs.map (·.1.d)).Nodup) (hlt : f.d < nt) (hn : look env f.d = none)
    (hO : ∀ ss, Own z w ss → Own z w' (ss ++ [[(b, f.o)]])) : KF z nt ds env ss X (fs.set kk (f, some b)) (a.put (some f.d) (.pointer (some ⟨b, 0, none⟩))) w' := by
  refine ⟨?_, h.fr.skip hlt hn, fun j g c hj => ?_⟩
  · refine (hO _ h.own).fperm ?_
    simp only [List.flatten_append, List.flatten_cons, List.flatten_nil, List.append_nil, List.append_assoc]
    exact ((flH_done fs kk hk).append_left X).append_left _
  · rw [List.getElem?_set] at hj
    split at hj
    · rename_i hjk
      split at hj
      · simp only [Option.some.injEq, Prod.mk.injEq] at hj
        obtain ⟨rfl, rfl⟩ := hj
        exact put_at (by rw [h.fr.size]; exact hlt)
      · simp at hj
    · rename_i hjk
      have hne : f.d ≠ g.d := by
        intro e
        have h1 : (fs.map (·.1.d))[kk]? = some f.d := by simp [hk]
        have h2 : (fs.map (·.1.d))[j]? = some g.d := by simp [hj]
        have hl1 := (List.getElem?_eq_some_iff.1 h1).1
        have hl2 := (List.getElem?_eq_some_iff.1 h2).1
        exact hjk ((List.getElem_inj (h₀ := hl1) (h₁ := hl2) hnd).1 (by rw [(List.getElem?_eq_some_iff.1 h1).2, (List.getElem?_eq_some_iff.1 h2).2, e]))
      rw [put_slot hne]
      exact h.sl j g c hj

theorem wk_any (hN : tailOk ops N = true) (hs : Region.noSelect ops = true) (hdf : noDefer ops = true) (hQ : ∀ c a w (d : Option Tmp) v, Q (.panic c) (a.put d v) w → Q (.panic c) a w)
    (hSa : ∀ (w w' : World) o, w'.heap = w.heap.push o → S w → S w') :
    ∀ (m : Nat) (ord : List StF) (fs : FL) (env : Env) (ss : List HL) (X : HL) (L : Array Bool) (a : Act) (w : World) (fuel : Nat), ord.length + cntN fs ≤ m → WK ro P ops Q S N nt ds z ord (fs.map (·.1)) env ss →
      chkF ops N L (fs.map (·.1)) ord = true → (fs.map (·.1.d)).Nodup → (∀ f ∈ fs.map (·.1), FOK P ops nt f) → KF z nt ds env ss X fs a w → StF.nf ord + cntN fs ≤ fuel → wpAnyN ro P ops Q S N fuel (markF L fs) a w := by
  intro m
  induction m with
  | zero =>
    intro ord fs env ss X L a w fuel hm hk hc hnd hF hK hfu
    cases ord with
    | cons s r => simp at hm
    | nil =>
      simp only [chkF, Bool.and_eq_true, List.isEmpty_iff, List.map_eq_nil_iff] at hc
      obtain ⟨rfl, hr⟩ := hc
      have hq := hk _ _ hK.own a hK.fr
      cases fuel with
      | zero => exact ⟨hr, hq⟩
      | succ f => exact ⟨fun _ => hq, by simp only [markF]; rw [hr]; simp⟩
  | succ m ih =>
    intro ord fs env ss X L a w fuel hm hk hc hnd hF hK hfu
    -- a block that is left is laid now
    have lay : ∀ (fuel' : Nat) (kk : Nat) (f : FSpec), fs[kk]? = some (f, none) → freshE env (fs.map (·.1)) = true → ((∃ f ∈ fs.map (·.1), f.i < N) → S w) → StF.nf ord + cntN fs ≤ fuel' + 1 →
        opW ro P ops Q f.i (fun a' w' => (f.i < N → S w') ∧ wpAnyN ro P ops Q S N fuel' ((markF L fs).setIfInBounds f.i true) a' w') a w := by
      intro fuel' kk f hkk hfr hS hfu'
      have hmem : f ∈ fs.map (·.1) := List.mem_map.2 ⟨_, List.mem_of_getElem? hkk, rfl⟩
      have hfok := hF f hmem
      refine fl_step (S := S) (N := N) (z := z) hfok fun b w' hh hO => ?_
      obtain ⟨_, _, _, _, hlt, _⟩ := hfok.run
      have hmap : ((fs.set kk (f, some b)).map (·.1)) = fs.map (·.1) := by
        rw [List.map_set]
        apply List.ext_getElem?
        intro j
        rw [List.getElem?_set]
        split
        · rename_i hj
          subst hj
          split <;> simp_all
        · rfl
      have hmap2 : ((fs.set kk (f, some b)).map (·.1.d)) = fs.map (·.1.d) := by
        have := congrArg (List.map (·.d)) hmap
        rw [List.map_map, List.map_map] at this
        exact this
      have hcnt := cntN_done (b := b) fs kk hkk
      refine ⟨fun hlN => hSa w w' f.o hh (hS ⟨f, hmem, hlN⟩), ?_⟩
      rw [← markF_done (b := b) fs L kk hkk]
      exact ih ord _ env ss X L _ w' fuel' (by omega) (by rw [hmap]; exact hk) (by rw [hmap]; exact hc) (by rw [hmap2]; exact hnd) (by rw [hmap]; exact hF) (hK.lay hkk hnd hlt (freshE_at hfr hmem) hO) (by omega)
    cases ord with
    | nil =>
      simp only [chkF, Bool.and_eq_true, List.isEmpty_iff, List.map_eq_nil_iff] at hc
      obtain ⟨rfl, hr⟩ := hc
      have hq := hk _ _ hK.own a hK.fr
      cases fuel with
      | zero => exact ⟨hr, hq⟩
      | succ f => exact ⟨fun _ => hq, by simp only [markF]; rw [hr]; simp⟩
    | cons s r =>
      cases s with
      | q i =>
        simp only [chkF, Bool.and_eq_true] at hc
        obtain ⟨⟨⟨h1, h2⟩, h3⟩, h4⟩ := hc
        obtain ⟨hfr, hS, o, d, v, ho, hd, hlt, hy, hk'⟩ := hk
        have hiN : i < N := Nat.lt_of_succ_le (Nat.le_of_ble_eq_true h1)
        have h3 := subs_spec fs L [] h3
        simp only [Bool.and_eq_true] at h3
        cases fuel with
        | zero => simp [StF.nf] at hfu
        | succ fuel =>
          refine wpAnyN_first hN hiN ho (Region.noSelect_spec hs) (noDefer_spec hdf) (fun c a w => hQ c a w _ _) fuel _ a w (Region.free_spec ho h3.2) (by simpa using h3.1) (hy a hK.fr) (hS _ _ hK.own) ?_
          rw [← markF_set, hd]
          refine ih r fs _ ss X _ _ w fuel (by simp at hm; omega) hk' h4 hnd hF ⟨hK.own, hK.fr.put hlt v, fun j g b hj => ?_⟩ (by simp [StF.nf] at hfu; omega)
          rw [put_slot fun e => clearD_at h2 (List.mem_map.2 ⟨_, List.mem_of_getElem? hj, rfl⟩) ho (by rw [hd, e])]
          exact hK.sl j g b hj
      | e i =>
        simp only [chkF, Bool.and_eq_true] at hc
        obtain ⟨⟨h2, h3⟩, h4⟩ := hc
        obtain ⟨hfr, hS, hoe⟩ := hk
        have h3 := subs_spec fs L [] h3
        simp only [Bool.and_eq_true] at h3
        have hmem : i ∈ Region.ready .any ops (markF L fs) := by simpa using h3.1
        cases fuel with
        | zero => simp [StF.nf] at hfu
        | succ fuel =>
          refine ⟨fun h0 => (by rw [h0] at hmem; cases hmem), fun j hj => ?_⟩
          have hj' := List.all_eq_true.1 h3.2 j hj
          simp only [Bool.or_eq_true] at hj'
          rcases hj' with hj' | hj'
          · obtain rfl := Nat.eq_of_beq_eq_true hj'
            obtain ⟨_, oj, hoj, _⟩ := mem_ready.1 hj
            -- all slots of blocks that are laid stay
            have stay : ∀ (l : FL), (∀ p ∈ l, p ∈ fs) → ∀ K, opW ro P ops Q j K a w → opW ro P ops Q j (fun a' w' => K a' w' ∧ ∀ p ∈ l, a'.tmps.getD p.1.d undef = a.tmps.getD p.1.d undef) a w := by
              intro l
              induction l with
              | nil => exact fun _ K h => opW_mono (fun _ _ hk => ⟨hk, fun _ hp => by cases hp⟩) h
              | cons p l ihl =>
                intro hl K h
                have h1 := ihl (fun q hq => hl q (List.mem_cons_of_mem _ hq)) K h
                have h2 := opW_slot p.1.d (fun o ho => clearD_at h2 (List.mem_map.2 ⟨p, hl p List.mem_cons_self, rfl⟩) ho) h1
                refine opW_mono (fun _ _ hk => ⟨hk.1.1, fun q hq => ?_⟩) h2
                rcases List.mem_cons.1 hq with rfl | hq
                · exact hk.2
                · exact hk.1.2 q hq
            have hmain := hoe _ w hK.own (fun a' w' => (j < N → S w') ∧ ((∀ p ∈ fs, a'.tmps.getD p.1.d undef = a.tmps.getD p.1.d undef) → wpAnyN ro P ops Q S N fuel ((markF L fs).setIfInBounds j true) a' w')) a hK.fr (by
              rintro env' w' a' ⟨hS', ss', hO', hk'⟩ hf'
              refine ⟨hS', fun hst => ?_⟩
              rw [← markF_set]
              refine ih r fs env' ss' X _ a' w' fuel (by simp at hm; omega) hk' h4 hnd hF ⟨hO', hf', fun jj g b hjj => ?_⟩ (by simp [StF.nf] at hfu; omega)
              rw [hst _ (List.mem_of_getElem? hjj)]
              exact hK.sl jj g b hjj)
            exact opW_mono (fun _ _ hk => ⟨hk.1.1, hk.1.2 hk.2⟩) (stay fs (fun _ hp => hp) _ hmain)
          · rcases mem_ndF fs [] (by simpa using hj') with hj' | ⟨kk, f, hkk, rfl⟩
            · cases hj'
            · exact lay fuel kk f hkk hfr (fun hx => hS hx _ _ hK.own) (by omega)
      | f kk =>
        simp only [chkF] at hc
        obtain ⟨hfr, hS, f, hkk, hk'⟩ := hk
        rw [hkk] at hc
        simp only [Bool.and_eq_true] at hc
        obtain ⟨h3, h4⟩ := hc
        have hkk2 : ∃ st, fs[kk]? = some (f, st) := by
          rw [List.getElem?_map] at hkk
          cases hp : fs[kk]? with
          | none => simp [hp] at hkk
          | some p => simp only [hp, Option.map_some, Option.some.injEq] at hkk; exact ⟨p.2, by rw [← hkk]⟩
        obtain ⟨st, hst⟩ := hkk2
        cases st with
        | some b =>
          have hmapE : (fs.eraseIdx kk).map (·.1) = (fs.map (·.1)).eraseIdx kk := map_erase _ fs kk
          have hmapE2 : (fs.eraseIdx kk).map (·.1.d) = (fs.map (·.1.d)).eraseIdx kk := map_erase _ fs kk
          rw [markF_out fs L kk hst]
          have hlt : f.d < nt := by obtain ⟨_, _, _, _, h, _⟩ := (hF f (List.mem_map.2 ⟨_, List.mem_of_getElem? hst, rfl⟩)).run; exact h
          refine ih r (fs.eraseIdx kk) _ (ss ++ [[(b, f.o)]]) X _ a w fuel ?_ (by rw [hmapE]; exact hk' b) (by rw [hmapE]; exact h4) (by rw [hmapE2]; exact hnd.sublist (List.eraseIdx_sublist ..)) (fun g hg => hF g (by rw [hmapE] at hg; exact (List.eraseIdx_sublist ..).subset hg)) ⟨?_, ?_, ?_⟩ ?_
          · rw [cntN_out fs kk hst]; simp at hm; omega
          · refine hK.own.fperm ?_
            simp only [List.flatten_append, List.flatten_cons, List.flatten_nil, List.append_nil, List.append_assoc]
            refine List.Perm.append_left _ ?_
            exact ((flH_out fs kk hst).append_left X).trans (by simp)
          · refine ⟨hK.fr.size, hK.fr.defers, fun s u hs => ?_⟩
            rw [look_eq] at hs
            simp only [look] at hs
            cases hb : Nat.beq s f.d with
            | true => simp only [hb, Option.some.injEq] at hs; subst hs; rw [Nat.eq_of_beq_eq_true hb]; exact hK.sl kk f b hst
            | false => simp only [hb] at hs; exact hK.fr.look hs
          · intro j g c hj
            have : (g, some c) ∈ fs := (List.eraseIdx_sublist ..).subset (List.mem_of_getElem? hj)
            obtain ⟨jj, hjj, he⟩ := List.mem_iff_getElem.1 this
            exact hK.sl jj g c (by rw [List.getElem?_eq_getElem hjj, he])
          · rw [cntN_out fs kk hst]; simp [StF.nf] at hfu ⊢; omega
        | none =>
          have h3 := subs_spec fs L [] h3
          have hin : f.i ∈ ndF [] fs := ndF_of fs [] kk hst
          simp only [Bool.or_eq_true, Bool.and_eq_true] at h3
          rcases h3 with h3 | ⟨h3, h5⟩
          · simp at h3; exact absurd hin h3
          · have hmem : f.i ∈ Region.ready .any ops (markF L fs) := by simpa using h3
            have hpos : 0 < cntN fs := by have := cntN_done (b := 0) fs kk hst; omega
            cases fuel with
            | zero => omega
            | succ fuel =>
              refine ⟨fun h0 => (by rw [h0] at hmem; cases hmem), fun j hj => ?_⟩
              have hj' := List.all_eq_true.1 h5 j hj
              rcases mem_ndF fs [] (by simpa using hj') with hj' | ⟨k2, f2, hk2, rfl⟩
              · cases hj'
              · exact lay fuel k2 f2 hk2 hfr (fun hx => hS hx _ _ hK.own) (by omega)

/-! ### What the walks go by -/
theorem flH_none : ∀ (fl : List FSpec), flH (fl.map fun f => (f, none)) = []
  | [] => rfl
  | _ :: r => flH_none r
theorem markF_none : ∀ (fl : List FSpec) (L : Array Bool), markF L (fl.map fun f => (f, none)) = L
  | [], _ => rfl
  | _ :: r, L => markF_none r L
theorem cntN_none : ∀ (fl : List FSpec), cntN (fl.map fun f => (f, none)) = fl.length
  | [] => rfl
  | _ :: r => congrArg (· + 1) (cntN_none r)
def nodupD : List FSpec → Bool
  | [] => true
  | f :: r => r.all (fun g => !(Nat.beq f.d g.d)) && nodupD r
theorem nodupD_spec : ∀ (fl : List FSpec), nodupD fl = true → (fl.map (·.d)).Nodup
  | [], _ => List.nodup_nil
  | f :: r, h => by
    simp only [nodupD, Bool.and_eq_true, List.all_eq_true] at h
    rw [List.map_cons, List.nodup_cons]
    refine ⟨fun hm => ?_, nodupD_spec r h.2⟩
    obtain ⟨g, hg, he⟩ := List.mem_map.1 hm
    have := h.1 g hg
    rw [he] at this
    simp at this

theorem cDrawF {id : Nat} (S : World → Prop) (N : Nat) (ord : List StF) (fl : List FSpec) (hO : Own z w ss) (hm : P.follows .mixedOrders = true) (hQ : PD Q)
    (hSa : ∀ (w w' : World) o, w'.heap = w.heap.push o → S w → S w') (hF : ∀ f ∈ fl, FOK P ops nt f) (h : WK ro P ops Q S N nt ds z ord fl env ss)
    (hc : (tailOk ops N && Region.noSelect ops && noDefer ops && chkF ops N (Array.replicate ops.size false) fl ord && nodupD fl && Nat.ble (StF.nf ord + fl.length) ops.size) = true := by as_aux_lemma => kernel_rfl) :
    CE ro P (.region id ops true) Q nt ds env w := by
  intro a hf
  simp only [Bool.and_eq_true] at hc
  obtain ⟨⟨⟨⟨⟨h1, h2⟩, h3⟩, h4⟩, h5⟩, h6⟩ := hc
  have hmap : ((fl.map fun f => ((f, none) : FSpec × Option Nat)).map (·.1)) = fl := by rw [List.map_map]; exact List.map_id _
  have hmap2 : ((fl.map fun f => ((f, none) : FSpec × Option Nat)).map (·.1.d)) = fl.map (·.d) := by rw [List.map_map]; rfl
  refine wpIn_region_any hm (wpAny_of_N (S := S) (N := N) _ _ _ _ ?_)
  have hk := wk_any (z := z) (ro := ro) (P := P) (Q := Q) (nt := nt) (ds := ds) h1 h2 h3 hQ hSa _ ord (fl.map fun f => (f, none)) env ss [] (Array.replicate ops.size false) a w.drew ops.size (Nat.le_refl _) (by rw [hmap]; exact h) (by rw [hmap]; exact h4)
    (by rw [hmap2]; exact nodupD_spec fl h5) (by rw [hmap]; exact hF)
    ⟨by rw [flH_none]; exact hO.drew.conv (by simp), hf, fun k f b hk => by rw [List.getElem?_map] at hk; cases hp : fl[k]? <;> simp [hp] at hk⟩ (by rw [cntN_none]; exact Nat.le_of_ble_eq_true h6)
  rw [markF_none] at hk
  exact hk

theorem has_push {l : HL} (w w' : World) (o : Obj) (h : w'.heap = w.heap.push o) (hs : Has l w) : Has l w' := fun p hp => by
  have := hs p hp
  have hlt := (Array.getElem?_eq_some_iff.1 this).1
  rw [h, Array.getElem?_push_lt hlt]
  exact (Array.getElem?_eq_some_iff.1 this).2 ▸ rfl
theorem true_push (w w' : World) (o : Obj) (_ : w'.heap = w.heap.push o) (_ : True) : True := trivial

variable {r : List StF} {pend : List FSpec}
theorem kEnd (h : ∀ w, Own z w ss → QE Q .normal nt ds env w) : WK ro P ops Q S N nt ds z [] pend env ss := fun _ _ hO => h _ hO.left

def qsF : List Nat → List StF → List StF
  | [], r => r
  | i :: l, r => .q i :: qsF l r

theorem fresh_tl {d : Nat} {v : Value} (h : freshE ((d, v) :: env) pend = true) : freshE env pend = true := by
  refine List.all_eq_true.2 fun f hf => ?_
  have := List.all_eq_true.1 h f hf
  simp only [look] at this
  cases hb : Nat.beq f.d d with
  | true => simp [hb] at this
  | false => simpa [hb] using this

theorem kP (hT : TOK P T) (hS : ∀ X w, Own z w (ss ++ [X]) → S w) : ∀ (l : List Nat) {env : Env} (_ : WK ro P ops Q S N nt ds z r pend env' ss) (_ : pE T ops nt l env = some env') (_ : freshE env' pend = true), WK ro P ops Q S N nt ds z (qsF l r) pend env ss ∧ freshE env pend = true
  | [], env, h, he, hf => by simp only [pE, Option.some.injEq] at he; subst he; exact ⟨h, hf⟩
  | k :: l, env, h, h', hf => by
    unfold pE at h'
    cases ho : ops[k]? with
    | none => simp [ho] at h'
    | some o =>
      simp only [ho] at h'
      cases hd : o.dst with
      | none => simp [hd] at h'
      | some d =>
        simp only [hd] at h'
        cases hlt : Nat.blt d nt with
        | false => simp [hlt] at h'
        | true =>
          simp only [hlt] at h'
          have hdn : d < nt := Nat.lt_of_succ_le (Nat.le_of_ble_eq_true hlt)
          cases hw : wantE ops nt env o with
          | none => simp [hw] at h'
          | some b =>
            cases b with
            | true =>
              simp only [hw] at h'
              cases hi : allIn env o.op with
              | false => simp [hi] at h'
              | true =>
                simp only [hi] at h'
                cases hv : pv T (evD env) o.op with
                | none => simp [hv] at h'
                | some v =>
                  simp only [hv] at h'
                  obtain ⟨h1, h2⟩ := kP hT hS l h h' hf
                  have h3 := fresh_tl h2
                  exact ⟨⟨h3, hS, o, d, v, ho, hd, hdn, fun a hfr => .inl ⟨hfr.want hw, fun w _ => pv_run hT hfr hi hv w⟩, h1⟩, h3⟩
            | false =>
              simp only [hw] at h'
              obtain ⟨h1, h2⟩ := kP hT hS l h h' hf
              have h3 := fresh_tl h2
              exact ⟨⟨h3, hS, o, d, undef, ho, hd, hdn, fun a hfr => .inr ⟨hfr.want hw, rfl⟩, h1⟩, h3⟩
theorem kPs (hT : TOK P T) (l : List Nat) (hS : ∀ X w, Own z w (ss ++ [X]) → S w) (hk : WK ro P ops Q S N nt ds z r pend env' ss) (h : pE T ops nt l env = some env' := by as_aux_lemma => kernel_rfl) (hf : freshE env' pend = true := by as_aux_lemma => kernel_rfl) : WK ro P ops Q S N nt ds z (qsF l r) pend env ss := (kP hT hS l hk h hf).1

/-- A load that only looks. -/
theorem kL (hT : TOK P T) {l : HL} {i d : Nat} {o : Oper} {t : TypeId} {x : Operand} {b off : Nat} {cs : Array Value} {et : TypeId} {v : Value} (hS : ∀ X w, Own z w (ss ++ [X]) → Has l w) (hb : (b, .cells cs et (0, 0)) ∈ l) (h : WK ro P ops Q (Has l) N nt ds z r pend ((d, v) :: env) ss) (ho : ops[i]? = some o := by rfl) (hop : o.op = .load t x := by rfl) (hd : o.dst = some d := by rfl) (hlt : Nat.blt d nt = true := by rfl) (hw : wantE ops nt env o = some true := by as_aux_lemma => kernel_rfl) (hx : evO env x = some (.pointer (some ⟨b, off, none⟩)) := by as_aux_lemma => kernel_rfl) (hv : ldP T t cs off = some v := by as_aux_lemma => kernel_rfl) (hf : freshE env pend = true := by as_aux_lemma => kernel_rfl) : WK ro P ops Q (Has l) N nt ds z (.q i :: r) pend env ss :=
  ⟨hf, hS, o, d, v, ho, hd, Nat.lt_of_succ_le (Nat.le_of_ble_eq_true hlt), fun _ hfr => .inl ⟨hfr.want hw, fun _ hS' => run_load_op hT hop (hfr.ev hx) (hS' _ hb) hv⟩, h⟩
/-- Another one that only looks: an index. -/
theorem kI (hT : TOK P T) (j : Nat) {n c : Nat} {i d : Nat} {o : Oper} {t el : TypeId} {e g : TE} {x ix : Operand} {b off : Nat} {kk : IntKind} {iv : Int} (hS : ∀ X w, Own z w (ss ++ [X]) → S w) (hi : iv = (j : Int)) (hj : j < n) (h : WK ro P ops Q S N nt ds z r pend ((d, .pointer (some ⟨b, off + j * g.size, none⟩)) :: env) ss)
    (ho : ops[i]? = some o := by rfl) (hop : o.op = .indexAddr t x ix := by rfl) (hd : o.dst = some d := by rfl) (hlt : Nat.blt d nt = true := by rfl) (hw : wantE ops nt env o = some true := by as_aux_lemma => kernel_rfl)
    (hx : evO env x = some (.slice (some ⟨b, off, none⟩) n c) := by rfl) (hix : evO env ix = some (.int kk iv) := by rfl)
    (ht : T t = some e := by rfl) (hde : e.d = .slice el := by rfl) (hg : T el = some g := by rfl) (hf : freshE env pend = true := by as_aux_lemma => kernel_rfl) : WK ro P ops Q S N nt ds z (.q i :: r) pend env ss :=
  ⟨hf, hS, o, d, _, ho, hd, Nat.lt_of_succ_le (Nat.le_of_ble_eq_true hlt), fun _ hfr => .inl ⟨hfr.want hw, fun w _ => idx_run hT j hi hj hfr hop hx hix ht hde hg w⟩, h⟩
theorem kB {i d : Nat} {bo : BinOp} {ik jk : IntKind} {x y : Int} {v : Value} {o : Oper} {t u : TypeId} {ox oy : Operand} (hS : ∀ X w, Own z w (ss ++ [X]) → S w) (hr : ∀ w, (binOp bo t (.int ik x) (.int jk y)).run P w = .ok v w) (h : WK ro P ops Q S N nt ds z r pend ((d, v) :: env) ss)
    (ho : ops[i]? = some o := by rfl) (hop : o.op = .binOp bo t ox oy u := by rfl) (hd : o.dst = some d := by rfl) (hlt : Nat.blt d nt = true := by rfl) (hw : wantE ops nt env o = some true := by as_aux_lemma => kernel_rfl)
    (hx : evO env ox = some (.int ik x) := by as_aux_lemma => kernel_rfl) (hy : evO env oy = some (.int jk y) := by as_aux_lemma => kernel_rfl) (hf : freshE env pend = true := by as_aux_lemma => kernel_rfl) : WK ro P ops Q S N nt ds z (.q i :: r) pend env ss :=
  ⟨hf, hS, o, d, _, ho, hd, Nat.lt_of_succ_le (Nat.le_of_ble_eq_true hlt), fun _ hfr => .inl ⟨hfr.want hw, fun w _ => bin_run hr hfr hop hx hy w⟩, h⟩
/-- One that acts. -/
theorem kO {i : Nat} (hS : (∃ f ∈ pend, f.i < N) → ∀ X w, Own z w (ss ++ [X]) → S w) (h : ∀ X w, Own z w (ss ++ [X]) → OE ro P ops Q i nt ds env w (fun env' w' => (i < N → S w') ∧ ∃ ss', Own z w' (ss' ++ [X]) ∧ WK ro P ops Q S N nt ds z r pend env' ss'))
    (hf : freshE env pend = true := by as_aux_lemma => kernel_rfl) : WK ro P ops Q S N nt ds z (.e i :: r) pend env ss := ⟨hf, hS, h⟩
/-- A block that is needed now. -/
theorem kF {k : Nat} (f : FSpec) (hS : (∃ f ∈ pend, f.i < N) → ∀ X w, Own z w (ss ++ [X]) → S w) (h : ∀ b, WK ro P ops Q S N nt ds z r (pend.eraseIdx k) ((f.d, .pointer (some ⟨b, 0, none⟩)) :: env) (ss ++ [[(b, f.o)]])) (hp : pend[k]? = some f := by rfl)
    (hf : freshE env pend = true := by as_aux_lemma => kernel_rfl) : WK ro P ops Q S N nt ds z (.f k :: r) pend env ss := ⟨hf, hS, f, hp, h⟩

theorem fokNil : ∀ f ∈ ([] : List FSpec), FOK P ops nt f := fun _ h => by cases h
theorem fokCons {f : FSpec} {l : List FSpec} (h : FOK P ops nt f) (hl : ∀ f ∈ l, FOK P ops nt f) : ∀ g ∈ f :: l, FOK P ops nt g := fun g hg => by
  rcases List.mem_cons.1 hg with rfl | hg
  · exact h
  · exact hl g hg

/-- A slot, spelled otherwise, ahead of an operation. -/
theorem setO (j : Nat) {v : Value} (v' : Value) (h : v = v') (hk : OE ro P ops Q k nt ds ((j, v') :: env) w Kp) (hj : look env j = some v := by as_aux_lemma => kernel_rfl) : OE ro P ops Q k nt ds env w Kp := fun K a hf hK =>
  hk K a ⟨hf.size, hf.defers, fun s u hs => by
    rw [look_eq] at hs
    simp only [look] at hs
    cases hb : Nat.beq s j with
    | true => simp only [hb, Option.some.injEq] at hs; subst hs; rw [Nat.eq_of_beq_eq_true hb, hf.look hj, h]
    | false => simp only [hb] at hs; exact hf.look hs⟩ hK

/-! ### Elements of arrays behind pointers, where only is looked -/
theorem idxA_run (hT : TOK P T) (j : Nat) {n : Nat} {o : Oper} {t el : TypeId} {e g : TE} {x ix : Operand} {b off : Nat} {kk : IntKind} {i : Int} {a : Act} (hi : i = (j : Int)) (hj : j < n) (hf : Fr nt ds env a)
    (hop : o.op = .indexAddr t x ix) (hx : evO env x = some (.pointer (some ⟨b, off, none⟩))) (hix : evO env ix = some (.int kk i)) (ht : T t = some e) (hde : e.d = .array n el) (hg : T el = some g) (w : World) :
    (execOp a.eval o).run P w = .ok (.value (.pointer (some ⟨b, off + j * g.size, none⟩))) w := by
  obtain ⟨dst, op, type, pos, after, guard⟩ := o
  simp only at hop
  subst hop
  have hu := run_und hT ht w
  rw [hde] at hu
  subst hi
  simp [execOp, Instr.indexAt, hf.ev hx, hf.ev hix, asIntOf, hu, run_size hT hg, hj, Addr.add_mid, Instr.sureAddr]
theorem M_idxA (hT : TOK P T) {S : World → Prop} (hS : S w) {N i' d : Nat} {r : List Stp} (j : Nat) {n : Nat} {o : Oper} {t el : TypeId} {e g : TE} {x ix : Operand} {b off : Nat} {kk : IntKind} {i : Int} (hi : i = (j : Int)) (hj : j < n)
    (h : ME ro P ops Q S N r nt ds ((d, .pointer (some ⟨b, off + j * g.size, none⟩)) :: env) w)
    (ho : ops[i']? = some o := by rfl) (hop : o.op = .indexAddr t x ix := by rfl) (hd : o.dst = some d := by rfl) (hlt : Nat.blt d nt = true := by rfl) (hw : wantE ops nt env o = some true := by as_aux_lemma => kernel_rfl)
    (hx : evO env x = some (.pointer (some ⟨b, off, none⟩)) := by rfl) (hix : evO env ix = some (.int kk i) := by rfl)
    (ht : T t = some e := by rfl) (hde : e.d = .array n el := by rfl) (hg : T el = some g := by rfl) : ME ro P ops Q S N (.q i' :: r) nt ds env w := fun _ hf =>
  ⟨hS, o, _, ho, .inl ⟨hf.want hw, fun w _ => idxA_run hT j hi hj hf hop hx hix ht hde hg w⟩, by rw [hd]; exact h _ (hf.put (Nat.lt_of_succ_le (Nat.le_of_ble_eq_true hlt)) _)⟩
theorem kIA (hT : TOK P T) (j : Nat) {n : Nat} {i d : Nat} {o : Oper} {t el : TypeId} {e g : TE} {x ix : Operand} {b off : Nat} {kk : IntKind} {iv : Int} (hS : ∀ X w, Own z w (ss ++ [X]) → S w) (hi : iv = (j : Int)) (hj : j < n) (h : WK ro P ops Q S N nt ds z r pend ((d, .pointer (some ⟨b, off + j * g.size, none⟩)) :: env) ss)
    (ho : ops[i]? = some o := by rfl) (hop : o.op = .indexAddr t x ix := by rfl) (hd : o.dst = some d := by rfl) (hlt : Nat.blt d nt = true := by rfl) (hw : wantE ops nt env o = some true := by as_aux_lemma => kernel_rfl)
    (hx : evO env x = some (.pointer (some ⟨b, off, none⟩)) := by rfl) (hix : evO env ix = some (.int kk iv) := by rfl)
    (ht : T t = some e := by rfl) (hde : e.d = .array n el := by rfl) (hg : T el = some g := by rfl) (hf : freshE env pend = true := by as_aux_lemma => kernel_rfl) : WK ro P ops Q S N nt ds z (.q i :: r) pend env ss :=
  ⟨hf, hS, o, d, _, ho, hd, Nat.lt_of_succ_le (Nat.le_of_ble_eq_true hlt), fun _ hfr => .inl ⟨hfr.want hw, fun w _ => idxA_run hT j hi hj hfr hop hx hix ht hde hg w⟩, h⟩
/-- A map that does not have the key. -/
theorem lk_none {es : List MapEntry} {n : Int} {zv : Value} (h : lkE es n = none) (ok : Bool) : (if ok then Value.tuple #[(lkE es n).getD zv, .bool (lkE es n).isSome] else (lkE es n).getD zv) = (if ok then Value.tuple #[zv, .bool false] else zv) := by
  rw [h]; rfl

/-! ### x == nil, of an interface -/
def nilI : Value → Option Bool
  | .nilIface => some true
  | .iface _ _ => some false
  | _ => none
theorem O_eqNil {o : Oper} {d : Nat} {t u : TypeId} {ms : Array (String × TypeId)} {x : Operand} {xv : Value} {b : Bool} (hu : P.underlying t = some (.interface ms)) (h : Kp ((d, .bool b) :: env) w)
    (ho : ops[k]? = some o := by rfl) (hop : o.op = .binOp .eql t x (.const .nilIface) u := by rfl) (hd : o.dst = some d := by rfl) (hlt : Nat.blt d nt = true := by rfl) (hw : wantE ops nt env o = some true := by as_aux_lemma => kernel_rfl)
    (hx : evO env x = some xv := by as_aux_lemma => kernel_rfl) (hb : nilI xv = some b := by rfl) : OE ro P ops Q k nt ds env w Kp := by
  refine O_val ho hd hlt hw (fun a hf => ?_) h
  obtain ⟨dst, op, type, pos, after, guard⟩ := o
  simp only at hop
  subst hop
  have hun : (underlying t).run P w = .ok (.interface ms) w := by
    unfold underlying
    simp [hu, Sem.run_bind, Result.andThen]
    try rfl
  have he : (Op.equal t xv .nilIface).run P w = .ok b w := by
    unfold Op.equal
    rw [show Op.maxDepth = 9999 + 1 from rfl]
    unfold Op.equalIn
    rw [Sem.run_bind, hun]
    cases xv <;> simp only [nilI, reduceCtorEq, Option.some.injEq] at hb
    case nilIface => subst hb; rfl
    case iface t' v => subst hb; rfl
  have hx' := hf.ev hx
  have hc : a.eval (.const .nilIface) = .nilIface := rfl
  have hg : (eqGuard .eql t x (.const .nilIface) xv .nilIface).run P w = .ok () w := by
    cases xv <;> simp only [nilI, reduceCtorEq, Option.some.injEq] at hb
    case nilIface => unfold eqGuard; simp
    case iface t' v => unfold eqGuard; simp
  cases xv <;> simp only [nilI, reduceCtorEq, Option.some.injEq] at hb
  case nilIface => simp only [execOp, hx', hc, Sem.run_bind, hg, Result.andThen, binOp, he, Sem.run_pure]
  case iface t' v => simp only [execOp, hx', hc, Sem.run_bind, hg, Result.andThen, binOp, he, Sem.run_pure]
/-- Some segments, and the others in one. -/
theorem Own.cut (h : Own z w ss) (idx : List Nat) (n : Nat) (hi : idx.isPerm (List.range ss.length) = true) : Own z w ((SL.pick ss idx).take n ++ [((SL.pick ss idx).drop n).flatten]) := by
  have := h.pick idx hi
  rw [← List.take_append_drop n (SL.pick ss idx)] at this
  exact this.shut
end Go.SL

/-! Slices that are read, in blocks that are not looked into. -/
namespace Go.SL
open Go Go.RowKit
variable {ro : Option Nat} {P : Program} {T : TT} {ops : Array Oper} {Q : Exit → Act → World → Prop} {w z : World} {ss : List HL} {nt : Nat} {ds : List Deferred} {env env' : Env} {Kp : Env → World → Prop} {k : Nat}
variable {α : Type} {enc : α → List Value} {size : Nat}

/-- The slice that begins at 'p' reads as the list, in the blocks L. -/
inductive Rd (L : HL) (enc : α → List Value) : Option Addr → List α → Prop
  | emp (p : Option Addr) : Rd L enc p []
  | at_ {b : Nat} {et : TypeId} {fr : Nat × Nat} {A B : List Value} {l : List α} (h : (b, .cells (A ++ (l.flatMap enc ++ B)).toArray et fr) ∈ L) : Rd L enc (some ⟨b, A.length, none⟩) l

theorem Rd.some {L : HL} {p : Option Addr} {l : List α} (h : Rd L enc p l) (hl : 0 < l.length) :
    ∃ b A B et fr, p = some ⟨b, List.length A, none⟩ ∧ (b, Obj.cells (A ++ (l.flatMap enc ++ B)).toArray et fr) ∈ L := by
  cases h with
  | emp => simp at hl
  | at_ h => exact ⟨_, _, _, _, _, rfl, h⟩

theorem Rd.mono {L L' : HL} {p : Option Addr} {l : List α} (h : Rd L enc p l) (hs : ∀ x ∈ L, x ∈ L') : Rd L' enc p l := by
  cases h with
  | emp => exact .emp _
  | at_ h => exact .at_ (hs _ h)

theorem Rd.of_sl {et : TypeId} {p : Option Addr} {c : Nat} {l : List α} {s : HL} (h : Sl et size enc p c l s) : Rd s enc p l := by
  cases h with
  | nil => exact .emp _
  | row b sp c l hc hs => exact Rd.at_ (A := []) (B := sp) (et := et) (fr := (0, 0)) (by simp [rows])

/-- A block of one's own. -/
theorem rd_own {L : HL} {b : Nat} {et : TypeId} {fr : Nat × Nat} {l : List α} {cs : Array Value} (h : (b, .cells cs et fr) ∈ L) (hc : cs = (l.flatMap enc).toArray) : Rd L enc (some ⟨b, 0, none⟩) l := by
  subst hc
  exact Rd.at_ (A := []) (B := []) (by simpa using h)

theorem ldP_rd (hz : ∀ x, (enc x).length = size) {t : TypeId} {l : List α} {A B : List Value} {i : Nat} {v : Value} {x : α} (hx : l[i]? = some x) (h : ldP T t (enc x).toArray 0 = some v) :
    ldP T t (A ++ (l.flatMap enc ++ B)).toArray (A.length + i * size) = some v := by
  have hi := (List.getElem?_eq_some_iff.1 hx).1
  have e := congrArg Array.toList (rows_split (enc := enc) l B i hx)
  unfold rows at e
  simp only [List.toList_toArray] at e
  rw [e]
  have hl : (A ++ (l.take i).flatMap enc).length = A.length + i * size := by rw [List.length_append, flat_len hz, List.length_take, Nat.min_eq_left (by omega)]
  rw [← List.append_assoc, ← hl]
  exact ldP_mid (off := 0) h

/-- From a block of a segment that is not looked into. -/
theorem O_loadR (hT : TOK P T) (hO : Own z w ss) (i : Nat) {s : HL} {o : Oper} {d : Nat} {t : TypeId} {x : Operand} {b off : Nat} {cs : Array Value} {et : TypeId} {fr : Nat × Nat} {v : Value} (hm : (b, .cells cs et fr) ∈ s) (hv : ldP T t cs off = some v) (h : Kp ((d, v) :: env) w) (hb : ss[i]? = some s := by rfl) (ho : ops[k]? = some o := by rfl) (hop : o.op = .load t x := by rfl) (hd : o.dst = some d := by rfl) (hlt : Nat.blt d nt = true := by rfl) (hw : wantE ops nt env o = some true := by as_aux_lemma => kernel_rfl) (hx : evO env x = some (.pointer (some ⟨b, off, none⟩)) := by as_aux_lemma => kernel_rfl) : OE ro P ops Q k nt ds env w Kp :=
  O_val ho hd hlt hw (fun _ hf => run_load_op hT hop (hf.ev hx) (hO.get i hb hm) hv) h

/-- The same, in a region that draws. -/
theorem MLR (hT : TOK P T) {l : HL} (hS : Has l w) {N : Nat} {r : List Stp} {i d : Nat} {o : Oper} {t : TypeId} {x : Operand} {b off : Nat} {cs : Array Value} {et : TypeId} {fr : Nat × Nat} {v : Value} (hb : (b, .cells cs et fr) ∈ l) (hv : ldP T t cs off = some v) (h : ME ro P ops Q (Has l) N r nt ds ((d, v) :: env) w) (ho : ops[i]? = some o := by rfl) (hop : o.op = .load t x := by rfl) (hd : o.dst = some d := by rfl) (hlt : Nat.blt d nt = true := by rfl) (hw : wantE ops nt env o = some true := by as_aux_lemma => kernel_rfl) (hx : evO env x = some (.pointer (some ⟨b, off, none⟩)) := by as_aux_lemma => kernel_rfl) : ME ro P ops Q (Has l) N (.q i :: r) nt ds env w := fun a hf =>
  ⟨hS, o, v, ho, .inl ⟨hf.want hw, fun _ hS' => run_load_op hT hop (hf.ev hx) (hS' _ hb) hv⟩, by rw [hd]; exact h _ (hf.put (Nat.lt_of_succ_le (Nat.le_of_ble_eq_true hlt)) v)⟩

theorem Src.rd {L : HL} {p : Option Addr} {l : List α} {c : Nat} (hz : ∀ x, (enc x).length = size) (h : Rd L enc p l) (hw : ∀ x ∈ L, w.heap[x.1]? = some x.2) : Src P w size (.slice p l.length c) l.length (l.flatMap enc) := by
  cases h with
  | emp =>
    refine ⟨⟨_, _, rfl⟩, fun w' _ => ?_⟩
    cases p with
    | none => rfl
    | some a => simp [Builtin.firstCells]; rfl
  | @at_ b et fr A B _ h =>
    have hb := hw _ h
    have := Src.blk (P := P) (size := size) (off := A.length) (m := l.length) (c := c) hb (by simp [flat_len hz])
    have e : (((A ++ (l.flatMap enc ++ B)).toArray.toList.drop A.length).take (l.length * size)) = l.flatMap enc := by
      rw [← flat_len (enc := enc) hz l]
      simp
    rw [e] at this
    exact this

theorem Src.all {b c : Nat} {et : TypeId} {fr : Nat × Nat} {l : List α} (hz : ∀ x, (enc x).length = size) (hb : w.heap[b]? = some (.cells (l.flatMap enc).toArray et fr)) : Src P w size (.slice (some ⟨b, 0, none⟩) l.length c) l.length (l.flatMap enc) := by
  have := Src.blk (P := P) (size := size) (off := 0) (m := l.length) (c := c) hb (by simp [flat_len hz])
  have e : (((l.flatMap enc).toArray.toList.drop 0).take (l.length * size)) = l.flatMap enc := by
    rw [← flat_len (enc := enc) hz l, List.toList_toArray, List.drop_zero, List.take_length]
  rwa [e] at this

theorem Own.mem {L : HL} {i : Nat} (hO : Own z w ss) (hi : ss[i]? = some L) : ∀ x ∈ L, w.heap[x.1]? = some x.2 := fun x hx => hO.get i hi hx

/-- A part of what is read. -/
theorem Rd.drop {L : HL} {p : Option Addr} {l : List α} (hz : ∀ x, (enc x).length = size) (h : Rd L enc p l) (k : Nat) (hk : k ≤ l.length) : Rd L enc (p.map (·.add (k * size))) (l.drop k) := by
  cases h with
  | emp => rw [List.drop_nil]; exact .emp _
  | @at_ b et fr A B _ h =>
    have e : A ++ (l.flatMap enc ++ B) = (A ++ (l.take k).flatMap enc) ++ ((l.drop k).flatMap enc ++ B) := by
      conv => lhs; rw [← List.take_append_drop k l, List.flatMap_append]
      simp
    rw [e] at h
    have h2 := Rd.at_ (enc := enc) h
    have hl : (A ++ (l.take k).flatMap enc).length = A.length + k * size := by rw [List.length_append, flat_len hz, List.length_take, Nat.min_eq_left hk]
    rw [hl] at h2
    rw [Option.map_some, Addr.add_mid]
    exact h2
theorem Rd.take {L : HL} {p : Option Addr} {l : List α} (h : Rd L enc p l) (k : Nat) : Rd L enc p (l.take k) := by
  cases h with
  | emp => rw [List.take_nil]; exact .emp _
  | @at_ b et fr A B _ h =>
    have e : A ++ (l.flatMap enc ++ B) = A ++ ((l.take k).flatMap enc ++ ((l.drop k).flatMap enc ++ B)) := by
      conv => lhs; rw [← List.take_append_drop k l, List.flatMap_append]
      simp
    rw [e] at h
    exact .at_ h

/-- make([]T, 0, n). -/
theorem O_makeCap (hT : TOK P T) (hO : Own z w ss) (x0 : α) (n : Nat) (hz : ∀ x, (enc x).length = size) {o : Oper} {d : Nat} {t el : TypeId} {e g : TE} {zv : Value} {x y : Operand} {kk kk' : IntKind} {i i' : Int} (hi : i = 0) (hi' : i' = (n : Int)) (hb : n * g.bytes ≤ 2 ^ 47)
    (h0 : zv.cells.toList = enc x0)
    (h : ∀ b w', Own z w' (ss ++ [[(b, .cells (rows enc ([] : List α) ((List.replicate n x0).flatMap enc)) el (0, 0))]]) → Kp ((d, .slice (some ⟨b, 0, none⟩) 0 n) :: env) w')
    (ho : ops[k]? = some o := by rfl) (hop : o.op = .makeSlice t x y := by rfl) (hd : o.dst = some d := by rfl) (hlt : Nat.blt d nt = true := by rfl) (hw : wantE ops nt env o = some true := by as_aux_lemma => kernel_rfl)
    (hx : evO env x = some (.int kk i) := by as_aux_lemma => kernel_rfl) (hy : evO env y = some (.int kk' i') := by as_aux_lemma => kernel_rfl)
    (ht : T t = some e := by rfl) (hde : e.d = .slice el := by rfl) (hg : T el = some g := by rfl) (hgz : g.zero = some zv := by rfl) (hgs : g.size = size := by rfl) (hgb : Nat.blt 0 g.bytes = true := by rfl) (hs0 : Nat.blt 0 size = true := by rfl) : OE ro P ops Q k nt ds env w Kp := by
  subst hi; subst hi'; subst hgs
  refine O_val ho hd hlt hw (fun a hf => ?_) (h w.heap.size _ (hO.alloc _))
  obtain ⟨dst, op, type, pos, after, guard⟩ := o
  simp only at hop
  subst hop
  have hu := run_und hT ht w
  rw [hde] at hu
  obtain ⟨_, ti, hti, hti2, hti3, hti4⟩ := hT.ok el g hg
  have hb0 : 0 < g.bytes := Nat.lt_of_succ_le (Nat.le_of_ble_eq_true hgb)
  have hs : 0 < g.size := Nat.lt_of_succ_le (Nat.le_of_ble_eq_true hs0)
  have hn : n ≤ 2 ^ 47 := Nat.le_trans (Nat.le_mul_of_pos_right n hb0) hb
  have hw1 : IntKind.i64.wrap (n : Int) = n := wrap_i64_of (by omega) (by omega)
  have hbi : ((g.bytes : Int) * (n : Int)) ≤ 2 ^ 47 := by
    have : ((n * g.bytes : Nat) : Int) ≤ ((2 ^ 47 : Nat) : Int) := Int.ofNat_le.2 hb
    rw [Nat.mul_comm] at this
    simpa using this
  have hf1 := fill_rows (enc := enc) h0 hz hs n
  have hf2 : rows enc (List.replicate n x0) [] = rows enc ([] : List α) ((List.replicate n x0).flatMap enc) := by simp [rows]
  rw [hf2] at hf1
  have hroom : ¬ (n * g.bytes > roomBytes) := by
    show ¬ (n * g.bytes > 2 ^ 47)
    omega
  have hbn : ¬ ((g.bytes : Int) * (n : Int) > 2 ^ 48) := by omega
  have hai : ∀ kk (n : Int), (asIntOf (.int kk n)).run P w = .ok (kk, n) w := fun _ _ => rfl
  have hpr : program.run P w = .ok P w := rfl
  have hn0 : ¬ ((n : Int) < 0) := by omega
  have hnn : ¬ ((0 : Int) > (n : Int)) := by omega
  have hw0 : IntKind.i64.wrap 0 = 0 := rfl
  have hbn2 : ¬ ((g.bytes : Int) * 0 > 2 ^ 48) := by omega
  have h00n : ¬ ((0 : Int) < 0) := by omega
  have hask : (askRoom (n * g.bytes)).run P w = .ok () w := by
    simp only [askRoom, hroom, if_false, Sem.run_pure]
  have hsz := run_size hT hg w
  have hzr := run_zero hT hg hgz w
  simp only [execOp, hf.ev hx, hf.ev hy, Instr.makeSlice, Sem.run_bind, hu, Result.andThen, asInt, Sem.run_pure, typeInfo, hti, hai, hpr, hw1, hti3, hbn, hn0, hnn, hw0, hbn2, h00n, Int.toNat_zero, decide_false, Bool.or_false, Bool.false_eq_true, if_false, Int.toNat_natCast, hask, hsz]
  by_cases h00 : n * g.size = 0
  · have hn' : n = 0 := by
      rcases Nat.mul_eq_zero.1 h00 with h | h
      · exact h
      · omega
    subst hn'
    simp [newRow, rows, show Array.range 0 = #[] from rfl]
  · simp only [h00, if_false, Sem.run_bind, hzr, Result.andThen, Sem.run_pure, newRow, hf1]
    rfl

/-! ### From the cells of a world -/
theorem flat_get (hz : ∀ x, (enc x).length = size) : ∀ (l : List α) (i : Nat) (x : α) (j : Nat), l[i]? = some x → j < size → (l.flatMap enc)[i * size + j]? = (enc x)[j]?
  | [], i, x, j, h, _ => by simp at h
  | y :: l, 0, x, j, h, hj => by
    simp only [List.getElem?_cons_zero, Option.some.injEq] at h
    subst h
    rw [List.flatMap_cons, List.getElem?_append_left (by rw [hz]; omega)]
    simp
  | y :: l, i + 1, x, j, h, hj => by
    rw [List.flatMap_cons, List.getElem?_append_right (by rw [hz, Nat.add_mul]; omega), hz, show (i + 1) * size + j - size = i * size + j by rw [Nat.add_mul]; omega]
    exact flat_get hz l i x j (by simpa using h) hj

theorem rd_cells (hz : ∀ x, (enc x).length = size) (hs : 0 < size) {w : World} {a : Addr} {l : List α}
    (h : ∀ i x, l[i]? = some x → ∀ j v, (enc x)[j]? = some v → w.cell? (a.add (i * size + j)) = some v) : Rd (blocks w) enc (some a) l := by
  cases hl : l with
  | nil => exact .emp _
  | cons x0 r =>
    have h0 := h 0 x0 (by simp [hl])
    have hx0 : 0 < (enc x0).length := by rw [hz]; exact hs
    have hc0 := h0 0 _ (List.getElem?_eq_getElem hx0)
    obtain ⟨b, off, spot⟩ := a
    rw [show (0 * size + 0) = 0 by simp, show (⟨b, off, spot⟩ : Addr).add 0 = ⟨b, off, spot⟩ by simp [Addr.add]] at hc0
    simp only [World.cell?] at hc0
    cases hb : w.heap[b]? with
    | none => simp [hb] at hc0
    | some o =>
      cases o with
      | cells C et fr =>
        simp only [hb] at hc0
        cases spot with
        | some q => simp at hc0
        | none =>
          rw [← hl]
          have hcell : ∀ i x, l[i]? = some x → ∀ j v, (enc x)[j]? = some v → C[off + (i * size + j)]? = some v := fun i x hx j v hv => by
            have := h i x hx j v hv
            rw [Addr.add_mid] at this
            simpa [World.cell?, hb] using this
          have hin : ∀ m, m < l.length * size → C[off + m]? = (l.flatMap enc)[m]? := fun m hm => by
            have hi : m / size < l.length := Nat.div_lt_of_lt_mul (by rw [Nat.mul_comm]; exact hm)
            have hj : m % size < size := Nat.mod_lt _ hs
            have e : m / size * size + m % size = m := by rw [Nat.mul_comm]; exact Nat.div_add_mod m size
            obtain ⟨x, hx⟩ : ∃ x, l[m / size]? = some x := ⟨_, List.getElem?_eq_getElem hi⟩
            obtain ⟨v, hv⟩ : ∃ v, (enc x)[m % size]? = some v := ⟨_, List.getElem?_eq_getElem (by rw [hz]; exact hj)⟩
            have h1 := hcell _ _ hx _ _ hv
            have h2 := flat_get hz l _ _ _ hx hj
            rw [e] at h1 h2
            rw [h1, h2, hv]
          have hle : off + l.length * size ≤ C.size := by
            have hpos : 0 < l.length * size := by rw [hl]; exact Nat.mul_pos (by simp) hs
            have hm := hin (l.length * size - 1) (by omega)
            have : (l.flatMap enc)[l.length * size - 1]? ≠ none := by
              rw [List.getElem?_eq_getElem (by rw [flat_len hz]; omega)]; simp
            rw [← hm] at this
            have := Array.getElem?_eq_some_iff.1 (Option.isSome_iff_exists.1 (Option.isSome_iff_ne_none.2 this)).choose_spec
            obtain ⟨h3, _⟩ := this
            omega
          have e : C = (C.toList.take off ++ (l.flatMap enc ++ C.toList.drop (off + l.length * size))).toArray := by
            apply Array.ext'
            simp only [List.toList_toArray]
            have hmid : (C.toList.drop off).take (l.length * size) = l.flatMap enc := by
              apply List.ext_getElem?
              intro m
              by_cases hm : m < l.length * size
              · rw [List.getElem?_take_of_lt hm, List.getElem?_drop, Array.getElem?_toList, hin m hm]
              · rw [List.getElem?_eq_none (by simp; omega), List.getElem?_eq_none (by rw [flat_len hz]; omega)]
            rw [← hmid]
            conv => lhs; rw [← List.take_append_drop off C.toList]
            congr 1
            rw [← List.drop_drop, List.take_append_drop]
          have hlen : (C.toList.take off).length = off := by simp; omega
          have hmem : (b, Obj.cells (C.toList.take off ++ (l.flatMap enc ++ C.toList.drop (off + l.length * size))).toArray et fr) ∈ blocks w := by
            rw [← e]
            have hlt := (Array.getElem?_eq_some_iff.1 hb).1
            refine List.mem_map.2 ⟨b, List.mem_range.2 hlt, ?_⟩
            simp [Array.getD, hlt, (Array.getElem?_eq_some_iff.1 hb).2]
          have := Rd.at_ (enc := enc) hmem
          rwa [hlen] at this
      | _ => simp [hb] at hc0
end Go.SL
