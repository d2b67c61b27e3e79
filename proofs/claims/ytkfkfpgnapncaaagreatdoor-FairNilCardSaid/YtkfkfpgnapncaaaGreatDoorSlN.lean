import Derived.Test.YtkfkfpgnapncaaaGreatDoorSlM
import Derived.RangeFuncLeaves
import Derived.RecoverIn
/-! Ranges over functions; deferred calls; panics. -/
namespace Go.SL
open Go Go.RowKit
variable {ro : Option Nat} {P : Program} {T : TT} {ops : Array Oper} {Q : Exit → Act → World → Prop} {w z : World} {ss : List HL} {nt : Nat} {ds : List Deferred} {env env' : Env} {Kp : Env → World → Prop} {k : Nat}

/-! ### Loops' records -/
def recL (f : FuncId) (tm : Array Value) (ps : Array Tmp) (as b : Code) (D : Nat) (st : LoopState) (pd : Option Code) : Obj :=
  .loop { state := st, pending := pd, fn := f, tmps := tm, params := ps, assign := as, body := b, defers := D }

theorem run_getLoop {l : Nat} {r : Loop} (h : w.heap[l]? = some (.loop r)) : (Instr.getLoop l).run P w = .ok r w := by
  simp [Instr.getLoop, getObj, Sem.run_bind, h, Result.andThen, Sem.run]
theorem run_setObjL {l : Nat} {o : Loop} {o' : Obj} (h : w.heap[l]? = some (.loop o)) : (setObj l o').run P w = .ok () { w with heap := w.heap.setIfInBounds l o' } := by
  simp [setObj, Sem.run, h]

variable {f : FuncId} {tm : Array Value} {ps : Array Tmp} {as b : Code} {D l : Nat}

theorem run_beginRound (h : w.heap[l]? = some (recL f tm ps as b D .ready none)) :
    (Instr.beginRound l).run P w = .ok () { w with heap := w.heap.setIfInBounds l (recL f tm ps as b D .busy none) } := by
  simp only [Instr.beginRound, Sem.run_bind, run_getLoop h, Result.andThen, run_setObjL h]
  rfl
theorem run_endRound {st : LoopState} {pd : Option Code} (jump : Option Code) (h : w.heap[l]? = some (recL f tm ps as b D st pd)) :
    (Instr.endRound l jump).run P w = .ok (.bool jump.isNone) { w with heap := w.heap.setIfInBounds l (recL f tm ps as b D (if jump.isNone then .ready else .done) jump) } := by
  simp only [Instr.endRound, Sem.run_bind, run_getLoop h, Result.andThen, run_setObjL h]
  rfl
theorem run_endLoop {st : LoopState} {pd : Option Code} (hst : (st == LoopState.busy) = false) (h : w.heap[l]? = some (recL f tm ps as b D st pd)) :
    (Instr.endLoop l).run P w = .ok pd { w with heap := w.heap.setIfInBounds l (recL f tm ps as b D .exhausted pd) } := by
  simp only [Instr.endLoop, Sem.run_bind, run_getLoop h, Result.andThen, hst, Bool.false_eq_true, if_false, run_setObjL h, Sem.run_pure]
  rfl

/-! ### Calls of yield -/
/-- The call of yield returns. -/
def Yld (P : Program) (l : Nat) (args : Array Value) (w : World) (R : Value → World → Prop) : Prop :=
  ∃ f tmps assign body, (Instr.yield l args).run P w = .ok (.round l f tmps assign body) w ∧ RoundIn (FW none) 0 P l f tmps assign body w (fun e w' => ∃ v, e = .returned v ∧ R v w')
theorem Yld.mono {args : Array Value} {R R' : Value → World → Prop} (h : Yld P l args w R) (hr : ∀ v w', R v w' → R' v w') : Yld P l args w R' := by
  obtain ⟨f, tmps, assign, body, h1, h2⟩ := h
  exact ⟨f, tmps, assign, body, h1, RoundIn.mono h2 fun e w' ⟨v, he, hv⟩ => ⟨v, he, hr v _ hv⟩⟩

theorem not_defer_round {o : Oper} {ρ : Operand → Value} {l : Nat} {f : FuncId} {tmps : Array Value} {assign body : Code} {w' : World} (h : (execOp ρ o).run P w = .ok (.round l f tmps assign body) w') : ∀ c, o.op ≠ .defer c := by
  intro c hc
  obtain ⟨dst, op, type, pos, after, guard⟩ := o
  simp only at hc
  subst hc
  simp only [execOp, Sem.run_bind] at h
  cases hr : (resolve ρ c type).run P w with
  | ok d w1 => rw [hr] at h; simp [Result.andThen] at h
  | halt x w1 => rw [hr] at h; simp [Result.andThen] at h

/-- The yield that an operation calls, with which arguments. -/
def calleeY (env : Env) (c : Call) : Option (Nat × List Value) :=
  match c.callee with
  | .value f => match evO env f with
    | some (.func (.yield l) fs cs) => match evL env c.args.toList with
      | some a => some (l, fs.toList ++ a)
      | none => none
    | _ => none
  | _ => none

theorem O_yield {args : List Value} {R : Value → World → Prop} (hY : Yld P l args.toArray w R) {o : Oper} {d : Nat} {c : Call} (h : ∀ v w', R v w' → Kp ((d, v) :: env) w') (ho : ops[k]? = some o := by rfl) (hop : o.op = .call c := by rfl) (hd : o.dst = some d := by rfl) (hlt : Nat.blt d nt = true := by rfl) (hw : wantE ops nt env o = some true := by as_aux_lemma => kernel_rfl) (hcl : calleeY env c = some (l, args) := by as_aux_lemma => kernel_rfl) : OE ro P ops Q k nt ds env w Kp := by
  intro K a hf hK
  obtain ⟨f, tmps, assign, body, h1, h2⟩ := hY
  have hr : (execOp a.eval o).run P w = .ok (.round l f tmps assign body) w := by
    obtain ⟨dst, op, type, pos, after, guard⟩ := o
    simp only at hop
    subst hop
    unfold calleeY at hcl
    split at hcl
    · rename_i x hx
      split at hcl
      · rename_i l' fs cs hv
        split at hcl
        · rename_i l2 hl
          simp only [Option.some.injEq, Prod.mk.injEq] at hcl
          obtain ⟨rfl, rfl⟩ := hcl
          have e1 : a.eval x = .func (.yield l') fs cs := hf.ev hv
          have e2 : c.args.map a.eval = l2.toArray := by
            have := hf.evL c.args.toList l2 hl
            apply Array.ext'
            simpa using this
          have h1' : (Instr.yield l' (fs ++ l2.toArray)).run P w = .ok (.round l' f tmps assign body) w := by
            rw [← h1]
            congr 2
            apply Array.ext'
            simp
          simp only [execOp, resolve, hx, e1, e2, Deferred.ofValue, Sem.run_bind, Sem.run_pure, Result.andThen, invoke]
          exact h1'
        · simp at hcl
      · simp at hcl
    · simp at hcl
  have hwb := hf.want hw
  unfold opW
  simp only [ho]
  unfold wantB at hwb
  rw [if_pos hwb]
  refine ⟨fun _ _ => trivial, ?_⟩
  rw [semAt_run (not_defer_round hr), hr]
  refine ⟨(fun h => by cases h), ?_⟩
  have h2' : RoundIn (FW ro) 0 P l f tmps assign body w (fun e w' => ∃ v, e = .returned v ∧ R v w') := h2
  refine RoundIn.mono h2' fun e w' ⟨v, he, hv⟩ => ?_
  subst he
  rw [hd]
  exact hK _ _ _ (h v w' hv) (hf.put (Nat.lt_of_succ_le (Nat.le_of_ble_eq_true hlt)) v)

/-! ### Rounds -/
def zipE : List Nat → List Value → Env → Option Env
  | [], [], e => some e
  | p :: ps, v :: vs, e => zipE ps vs ((p, v) :: e)
  | _, _, _ => none

theorem zipE_len : ∀ (pl : List Nat) (vs : List Value) (e e' : Env), zipE pl vs e = some e' → pl.length = vs.length
  | [], [], _, _, _ => rfl
  | _ :: ps, _ :: vs, e, e', h => by simp [zipE_len ps vs _ e' h]
  | [], _ :: _, _, _, h => by simp [zipE] at h
  | _ :: _, [], _, _, h => by simp [zipE] at h

theorem zipE_fr : ∀ (pl : List Nat) (vs : List Value) (env env' : Env) (tm : Array Value), zipE pl vs env = some env' → pl.all (fun p => Nat.blt p nt) = true → Fr nt ds env ⟨tm, ds⟩ →
    Fr nt ds env' ⟨(pl.zip vs).foldl (fun tmps (t, a) => tmps.setIfInBounds t a) tm, ds⟩
  | [], [], env, env', tm, h, _, hf => by simp only [zipE, Option.some.injEq] at h; subst h; exact hf
  | p :: ps, v :: vs, env, env', tm, h, hl, hf => by
    simp only [List.all_cons, Bool.and_eq_true] at hl
    exact zipE_fr ps vs _ env' _ h hl.2 (hf.put (Nat.lt_of_succ_le (Nat.le_of_ble_eq_true hl.1)) v)
  | [], _ :: _, _, _, _, h, _, _ => by simp [zipE] at h
  | _ :: _, [], _, _, _, h, _, _ => by simp [zipE] at h

/-- What is asked behind the assignments ahead of a round's body. -/
def asQ (P : Program) (l : Nat) (body : Code) (R : Ending → World → Prop) : Exit → Act → World → Prop :=
  Exit.then (fun a₁ w₁ => ∃ w₂, (Instr.beginRound l).run P w₁ = .ok () w₂ ∧ body.wpIn (FW (some l)) 0 P (roundPost P l R) a₁ w₂) (fun _ _ _ => False)

theorem yldI {pl : List Nat} {args : List Value} {R : Value → World → Prop} {rc : LoopState → Option Code → Obj} (hrc : rc = recL f tm ps as b D) (hO : Own z w ss) (i : Nat) (hi : ss[i]? = some [(l, rc .ready none)]) (hfr : Fr nt [] env ⟨tm, []⟩)
    (h : CE (some l) P as (asQ P l b (fun e w' => ∃ v, e = .returned v ∧ R v w')) nt [] env' w)
    (hps : ps = pl.toArray := by rfl) (hz : zipE pl args env = some env' := by rfl) (hlt : pl.all (fun p => Nat.blt p nt) = true := by rfl) : Yld P l args.toArray w R := by
  subst hrc
  have hb := hO.blk i hi
  subst hps
  refine ⟨f, ((pl.zip args).foldl (fun tmps (t, a) => tmps.setIfInBounds t a) tm), as, b, ?_, ?_⟩
  · have hlen := zipE_len _ _ _ _ hz
    simp only [Instr.yield, Sem.run_bind, run_getLoop hb, Result.andThen, List.size_toArray, hlen, ne_eq, not_true, if_false]
    have hz1 : (pl.toArray.zip args.toArray).foldl (fun tmps (x : Nat × Value) => tmps.setIfInBounds x.1 x.2) tm = (pl.zip args).foldl (fun tmps (x : Nat × Value) => tmps.setIfInBounds x.1 x.2) tm := by
      simp
    simp only [Sem.run_pure, hz1]
  · refine roundIn_of_wpIn (F := FW none) (n := 0) trivial ?_
    exact h _ (zipE_fr pl args env env' tm hz hlt hfr)

theorem qAssign {R : Ending → World → Prop} {rc : LoopState → Option Code → Obj} (hrc : rc = recL f tm ps as b D) (hO : Own z w ss) (i : Nat) (h : ∀ w', Own z w' (ss.set i [(l, rc .busy none)]) → CE (some l) P b (roundPost P l R) nt ds env w') (hi : ss[i]? = some [(l, rc .ready none)] := by rfl) : QE (asQ P l b R) .normal nt ds env w := fun a hf => by
  subst hrc
  exact ⟨_, run_beginRound (hO.blk i hi), h _ (hO.put i hi _) a hf⟩
theorem qRnd {R : Value → World → Prop} {st : LoopState} {pd : Option Code} {rc : LoopState → Option Code → Obj} (hrc : rc = recL f tm ps as b D) (hO : Own z w ss) (i : Nat) (h : ∀ w', Own z w' (ss.set i [(l, rc .ready none)]) → R (.bool true) w') (hi : ss[i]? = some [(l, rc st pd)] := by rfl) :
    QE (roundPost P l (fun e w' => ∃ v, e = .returned v ∧ R v w')) .normal nt ds env w := fun _ _ => by
  subst hrc
  exact ⟨_, _, run_endRound none (hO.blk i hi), _, rfl, h _ (hO.put i hi _)⟩
theorem qRndR {R : Value → World → Prop} {st : LoopState} {pd : Option Code} {rc : LoopState → Option Code → Obj} (hrc : rc = recL f tm ps as b D) (hO : Own z w ss) (i : Nat) (h : ∀ w', Own z w' (ss.set i [(l, rc .done (some .ret))]) → R (.bool false) w') (hi : ss[i]? = some [(l, rc st pd)] := by rfl) :
    QE (roundPost P l (fun e w' => ∃ v, e = .returned v ∧ R v w')) .ret nt ds env w := fun _ _ => by
  subst hrc
  exact ⟨_, _, run_endRound (some .ret) (hO.blk i hi), _, rfl, h _ (hO.put i hi _)⟩
theorem qRndX {id : Nat} {R : Value → World → Prop} {st : LoopState} {pd : Option Code} {rc : LoopState → Option Code → Obj} (hrc : rc = recL f tm ps as b D) (hO : Own z w ss) (i : Nat) (h : ∀ w', Own z w' (ss.set i [(l, rc .done (some (.exit id)))]) → R (.bool false) w') (hi : ss[i]? = some [(l, rc st pd)] := by rfl) :
    QE (roundPost P l (fun e w' => ∃ v, e = .returned v ∧ R v w')) (.exit id) nt ds env w := fun _ _ => by
  subst hrc
  exact ⟨_, _, run_endRound (some (.exit id)) (hO.blk i hi), _, rfl, h _ (hO.put i hi _)⟩
theorem pdRnd {R : Ending → World → Prop} : PD (roundPost P l R) := fun _ _ _ _ _ h => h
theorem pdAs {R : Ending → World → Prop} : PD (asQ P l b R) := fun _ _ _ _ _ h => h

/-! ### The statement -/
/-- The mark that such a loop leaves among the deferred calls. -/
def coll (D : Nat) : Deferred := { target := .collected D, args := #[] }

theorem cRange {g : Operand} {fs cs : Array Value} (hO : Own z w ss) (hcall : ∀ (args : Array Value) (w : World), (callFunc f args).run P w = .ok (.enter f args) w)
    (h : ∀ (fn : FuncId) (tm : Array Value) (D l : Nat) (rc : LoopState → Option Code → Obj) (w' : World), rc = recL fn tm ps as b D → Fr nt ds env ⟨tm, ds⟩ → Own z w' (ss ++ [[(D, .deferred (some []))], [(l, rc .ready none)]]) →
      Ret P f (fs ++ #[.func (.yield l) #[] #[]] ++ cs) w' (fun _ w₁ => ∃ i ss' st pd, ss'[i]? = some [(l, rc st pd)] ∧ (st == LoopState.busy) = false ∧ Own z w₁ ss' ∧
        ∀ w₂, Own z w₂ (ss'.set i [(l, rc .exhausted pd)]) → match pd with
          | none => QE Q .normal nt (coll D :: ds) env w₂
          | some c => CE none P c Q nt (coll D :: ds) env w₂))
    (hg : evO env g = some (.func (.func f) fs cs) := by as_aux_lemma => kernel_rfl) : CE none P (.rangeFunc g ps as b) Q nt ds env w := by
  intro a hf
  have ea : (⟨a.tmps, ds⟩ : Act) = a := by rw [← hf.defers]
  refine wpIn_rangeFunc fun fn _ => ?_
  have hO1 := hO.alloc (.deferred (some []))
  have hO2 := hO1.alloc (recL fn a.tmps ps as b w.heap.size .ready none)
  rw [List.append_assoc] at hO2
  have hc := h fn a.tmps w.heap.size _ _ _ rfl (by rw [ea]; exact hf) hO2
  generalize hW : ({ ({ w with heap := w.heap.push (.deferred (some [])) } : World) with heap := ({ w with heap := w.heap.push (.deferred (some [])) } : World).heap.push (recL fn a.tmps ps as b w.heap.size .ready none) } : World) = W at *
  generalize hl : ({ w with heap := w.heap.push (.deferred (some [])) } : World).heap.size = l at *
  refine ⟨l, [coll w.heap.size], W, { target := .fn (.func f) cs, args := (fs ++ #[.func (.yield l) #[] #[]]) }, W, f, (fs ++ #[.func (.yield l) #[] #[]] ++ cs), W, ?_, ?_, fun _ _ => trivial, ?_, (fun h => by cases h), ?_⟩
  rotate_left 3
  · refine callsIn_wide.2 (Calls.mono hc fun e w₁ hr => ?_)
    obtain ⟨v, rfl, i, ss', st, pd, hi, hst, hO', hk⟩ := hr
    refine ⟨pd, _, run_endLoop hst (hO'.blk i hi), ?_⟩
    have hk' := hk _ (hO'.put i hi _)
    have hf' : Fr nt (coll w.heap.size :: ds) env { a with defers := coll w.heap.size :: a.defers } := ⟨hf.size, by simp [hf.defers], hf.slot⟩
    cases pd with
    | none => exact hk' _ hf'
    | some c => exact hk' _ hf'
  · subst hW; subst hl
    simp only [Instr.enterLoop, FW, Fence.wide, Sem.run_bind, Sem.run_pure, Result.andThen, newObj]
    rfl
  · have e1 : a.eval g = .func (.func f) fs cs := hf.ev hg
    have e2 : Array.map a.eval #[Operand.const (.func (.yield l) #[] #[])] = #[.func (.yield l) #[] #[]] := by simp [Act.eval]
    simp only [resolve, rangeCall, e1, Deferred.ofValue, Sem.run_bind, Sem.run_pure, Result.andThen, e2]
  · simp only [invoke]
    exact hcall _ _

/-! ### Functions with marks, or with deferred calls -/
theorem enterM {f : FuncId} {fn : Func} {c : Code} {args : List Value} {R : Value → World → Prop} (hn : fn.ntmps = nt) (hf : P.funcs[f]? = some fn)
    (h : CE none P c (bodyPostM (FW none) 0 P fn (fun e w' => ∃ v, e = .returned v ∧ R v w')) nt [] (env0 0 args) w) (hb : fn.body = some c := by rfl) (hl : Nat.ble args.length nt = true := by rfl) : Ret P f args.toArray w R := by
  refine (callsIn_wide (n := 0)).1 (callsIn_of_wp_marks (F := FW none) hf hb trivial ?_)
  rw [hn]
  exact h _ (fr0 hl)
/-- Where nothing panics. -/
def noPan (Q : Exit → Act → World → Prop) : Exit → Act → World → Prop
  | .panic _, _, _ => False
  | e, a, w => Q e a w
theorem noPan_of {c : Code} (h : CE ro P c (noPan Q) nt ds env w) : CE ro P c Q nt ds env w := fun a hf => wpIn_mono (h a hf) fun e _ _ hq => by
  cases e with
  | panic c => exact hq.elim
  | normal => exact hq
  | exit id => exact hq
  | goto l => exact hq
  | ret => exact hq
  | outgrown => exact hq
theorem pdNo : PD (noPan Q) := fun _ _ _ _ _ h => h
theorem qNo (h : QE Q .normal nt ds env w) : QE (noPan Q) .normal nt ds env w := h

theorem run_take (hO : Own z w ss) (i : Nat) (hi : ss[i]? = some [(D, .deferred (some []))]) :
    (Instr.takeDeferred D).run P w = .ok [] { w with heap := w.heap.setIfInBounds D (.deferred none) } := by
  have h := hO.blk i hi
  simp [Instr.takeDeferred, getObj, setObj, Sem.run_bind, Sem.run, h, Result.andThen]

theorem qRetM {fn : Func} {R : Value → World → Prop} {rs : List ResultVar} (vs : List Value) (u : Value) (hO : Own z w ss) (i : Nat) (h : ∀ w', Own z w' (ss.set i [(D, .deferred none)]) → RVEs P env w' rs vs ∧ R u w')
    (hi : ss[i]? = some [(D, .deferred (some []))] := by rfl) (hr : fn.results = rs.toArray := by rfl) (hu : mkRes vs = u := by rfl) :
    QE (bodyPostM (FW none) 0 P fn (fun e w' => ∃ v, e = .returned v ∧ R v w')) .ret nt [coll D] env w := fun a hf => by
  subst hu
  obtain ⟨hv, h⟩ := h _ (hO.put i hi _)
  show LeavesInM _ _ _ _ _ _ a.defers _ _
  rw [hf.defers]
  exact ⟨by simp, .inl ⟨D, _, rfl, run_take hO i hi, _, results_run hr (hv.rvs hf), _, rfl, h⟩⟩
theorem qEndM {fn : Func} {R : Value → World → Prop} {rs : List ResultVar} (vs : List Value) (u : Value) (hO : Own z w ss) (i : Nat) (h : ∀ w', Own z w' (ss.set i [(D, .deferred none)]) → RVEs P env w' rs vs ∧ R u w')
    (hi : ss[i]? = some [(D, .deferred (some []))] := by rfl) (hr : fn.results = rs.toArray := by rfl) (hu : mkRes vs = u := by rfl) :
    QE (bodyPostM (FW none) 0 P fn (fun e w' => ∃ v, e = .returned v ∧ R v w')) .normal nt [coll D] env w := fun a hf => by
  subst hu
  obtain ⟨hv, h⟩ := h _ (hO.put i hi _)
  show LeavesInM _ _ _ _ _ _ a.defers _ _
  rw [hf.defers]
  exact ⟨by simp, .inl ⟨D, _, rfl, run_take hO i hi, _, results_run hr (hv.rvs hf), _, rfl, h⟩⟩
/-- No loop was entered. -/
theorem qRet0 {fn : Func} {R : Value → World → Prop} {rs : List ResultVar} (vs : List Value) (u : Value) (hv : RVEs P env w rs vs) (h : R u w) (hr : fn.results = rs.toArray := by rfl) (hu : mkRes vs = u := by rfl) :
    QE (bodyPostM (FW none) 0 P fn (fun e w' => ∃ v, e = .returned v ∧ R v w')) .ret nt [] env w := fun a hf => by
  subst hu
  show LeavesInM _ _ _ _ _ _ a.defers _ _
  rw [hf.defers]
  exact ⟨_, results_run hr (hv.rvs hf), _, rfl, h⟩
theorem qEnd0 {fn : Func} {R : Value → World → Prop} {rs : List ResultVar} (vs : List Value) (u : Value) (hv : RVEs P env w rs vs) (h : R u w) (hr : fn.results = rs.toArray := by rfl) (hu : mkRes vs = u := by rfl) :
    QE (bodyPostM (FW none) 0 P fn (fun e w' => ∃ v, e = .returned v ∧ R v w')) .normal nt [] env w := fun a hf => by
  subst hu
  show LeavesInM _ _ _ _ _ _ a.defers _ _
  rw [hf.defers]
  exact ⟨_, results_run hr (hv.rvs hf), _, rfl, h⟩

/-! ### Panics that pass -/
/-- The call panics. -/
def Pan (P : Program) (f : FuncId) (args : Array Value) (w : World) (x : Value) (R : World → Prop) : Prop :=
  Calls P f args w fun e w' => e = .panicked [{ v := x, recovered := false }] ∧ R w'
theorem O_pan {f : FuncId} {args : Array Value} {x : Value} {R : World → Prop} (hcall : ∀ (args : Array Value) (w : World), (callFunc f args).run P w = .ok (.enter f args) w) (hc : Pan P f args w x R) {o : Oper} {d : Nat} {c : Call}
    (h : ∀ w', R w' → QE Q (.panic [{ v := x, recovered := false }]) nt ds env w') (ho : ops[k]? = some o := by rfl) (hop : o.op = .call c := by rfl) (hd : o.dst = some d := by rfl) (hlt : Nat.blt d nt = true := by rfl) (hw : wantE ops nt env o = some true := by as_aux_lemma => kernel_rfl) (hcl : callee env c = some (f, args) := by as_aux_lemma => kernel_rfl) : OE ro P ops Q k nt ds env w Kp :=
  O_callP hcall hc (fun ch w' ⟨he, hR⟩ => by cases he; exact h w' hR) (fun w' ⟨he, _⟩ => by cases he) (fun v w' ⟨he, _⟩ => by cases he) ho hop hd hlt hw hcl
theorem qPan {fn : Func} {x : Value} {R : World → Prop} (h : R w) : QE (bodyPost P fn (fun e w' => e = .panicked [{ v := x, recovered := false }] ∧ R w')) (.panic [{ v := x, recovered := false }]) nt [] env w := fun _ hf => ⟨hf.defers, rfl, h⟩
/-- What a call ends with: it hands back, or it panics. -/
def toEnd : Except Value Value → Ending
  | .ok v => .returned v
  | .error x => .panicked [{ v := x, recovered := false }]
/-- A call that hands back or panics, as is told. -/
def RetP (P : Program) (f : FuncId) (args : Array Value) (w : World) (r : Except Value Value) (R : World → Prop) : Prop :=
  Calls P f args w fun e w' => e = toEnd r ∧ R w'
theorem RetP.ret {f : FuncId} {args : Array Value} {r : Except Value Value} {R : World → Prop} {v : Value} (h : RetP P f args w r R) (hr : r = .ok v) : Ret P f args w (fun v' w' => v' = v ∧ R w') := by
  subst hr; exact Calls.mono h fun e w' ⟨he, hR⟩ => ⟨v, he, rfl, hR⟩
theorem RetP.pan {f : FuncId} {args : Array Value} {r : Except Value Value} {R : World → Prop} {x : Value} (h : RetP P f args w r R) (hr : r = .error x) : Pan P f args w x R := by
  subst hr; exact h

/-! ### Deferred calls -/
/-- A deferred call, of a frame that leaves in such a way; it returns, and the frame leaves so then. -/
def RetD (P : Program) (f : FuncId) (args : Array Value) (u u' : FrameMode) (w : World) (R : World → Prop) : Prop :=
  CallsDIn (FW none) 0 P f args u w (fun e u'' w' => u'' = u' ∧ (∃ v, e = .returned v) ∧ R w')

def dfn (f : FuncId) (cap args : Array Value) : Deferred := { target := .fn (.func f) cap, args }

/-- defer f(..): operation number k. -/
theorem O_defer {f : FuncId} {fs cs : Array Value} {l : List Value} {g : Operand} {o : Oper} {c : Call} {n : Nat}
    (h : SE none P ops Q (k + 1) n nt (dfn f cs (fs ++ l.toArray) :: ds) env w) (ho : ops[k]? = some o := by rfl) (hop : o.op = .defer c := by rfl) (hd : o.dst = none := by rfl) (hw : wantE ops nt env o = some true := by as_aux_lemma => kernel_rfl)
    (hcl : c.callee = .value g := by rfl) (hg : evO env g = some (.func (.func f) fs cs) := by as_aux_lemma => kernel_rfl) (hl : evL env c.args.toList = some l := by as_aux_lemma => kernel_rfl) : SE none P ops Q k (n + 1) nt ds env w := by
  intro a hf
  have e1 : a.eval g = .func (.func f) fs cs := hf.ev hg
  have e2 : c.args.map a.eval = l.toArray := by
    have := hf.evL c.args.toList l hl
    apply Array.ext'
    simpa using this
  have hr : (execOp a.eval o).run P w = .ok (.defer (dfn f cs (fs ++ l.toArray))) w := by
    obtain ⟨dst, op, type, pos, after, guard⟩ := o
    simp only at hop
    subst hop
    simp only [execOp, resolve, hcl, e1, e2, Deferred.ofValue, Sem.run_bind, Sem.run_pure, Result.andThen]
    rfl
  have hwb := hf.want hw
  show opW none P ops Q k (seqN none P ops Q (k + 1) n) a w
  unfold opW
  simp only [ho]
  unfold wantB at hwb
  rw [if_pos hwb]
  refine ⟨fun _ _ => trivial, ?_⟩
  have hs : o.semAt (FW none).round a.eval = execOp a.eval o := by
    unfold Oper.semAt
    rfl
  rw [hs, hr]
  show seqN none P ops Q (k + 1) n _ w
  rw [hd]
  exact h _ ⟨hf.size, by simp [Act.put, hf.defers], hf.slot⟩

theorem qRetD {fn : Func} {R : Value → World → Prop} {R1 : World → Prop} {rs : List ResultVar} {f : FuncId} {cap args : Array Value} (vs : List Value) (u : Value)
    (hcall : ∀ (args : Array Value) (w : World), (callFunc f args).run P w = .ok (.enter f args) w)
    (hc : RetD P f (args ++ cap) .returning .returning w R1) (h : ∀ w', R1 w' → RVEs P env w' rs vs ∧ R u w')
    (hr : fn.results = rs.toArray := by rfl) (hu : mkRes vs = u := by rfl) :
    QE (bodyPostM (FW none) 0 P fn (fun e w' => ∃ v, e = .returned v ∧ R v w')) .ret nt [dfn f cap args] env w := fun a hf => by
  subst hu
  show LeavesInM _ _ _ _ _ _ a.defers _ _
  rw [hf.defers]
  refine ⟨by simp, .inr ⟨(fun h => by cases h), .func f, cap, f, args ++ cap, rfl, hcall _ _, fun _ _ => trivial, ?_⟩⟩
  refine CallsDIn.mono hc fun e u' w' ⟨hu', ⟨v, he⟩, hR⟩ => ?_
  subst hu'; subst he
  obtain ⟨hv, h⟩ := h _ hR
  exact ⟨_, results_run hr (hv.rvs hf), _, rfl, h⟩

theorem qPanD {fn : Func} {R : Value → World → Prop} {R1 : World → Prop} {rs : List ResultVar} {f : FuncId} {cap args : Array Value} {x : Value} (vs : List Value) (u : Value)
    (hcall : ∀ (args : Array Value) (w : World), (callFunc f args).run P w = .ok (.enter f args) w)
    (hc : RetD P f (args ++ cap) (.panicking [{ v := x, recovered := false }]) (.panicking [{ v := x, recovered := true }]) w R1) (h : ∀ w', R1 w' → RVEs P env w' rs vs ∧ R u w')
    (hr : fn.results = rs.toArray := by rfl) (hu : mkRes vs = u := by rfl) :
    QE (bodyPostM (FW none) 0 P fn (fun e w' => ∃ v, e = .returned v ∧ R v w')) (.panic [{ v := x, recovered := false }]) nt [dfn f cap args] env w := fun a hf => by
  subst hu
  show LeavesInM _ _ _ _ _ _ a.defers _ _
  rw [hf.defers]
  refine ⟨by simp, .inr ⟨(fun h => by cases h), .func f, cap, f, args ++ cap, rfl, hcall _ _, fun _ _ => trivial, ?_⟩⟩
  refine CallsDIn.mono hc fun e u' w' ⟨hu', ⟨v, he⟩, hR⟩ => ?_
  subst hu'; subst he
  obtain ⟨hv, h⟩ := h _ hR
  exact ⟨_, results_run hr (hv.rvs hf), _, rfl, h⟩

/-- What recover() tells, and how the frame below leaves then. -/
def recMode : FrameMode → Value × FrameMode
  | .panicking ({ v, recovered := false, goexit := false } :: older) => (v, .panicking ({ v, recovered := true } :: older))
  | u => (.nilIface, u)

theorem recover_eq (c : Frame) (cs : List Frame) {α : Type} (g : Value → List Frame → α) : (match recoverD (c :: cs) with | some (v, cs') => g v cs' | none => g Value.nilIface (c :: cs)) = g (recMode c.mode).1 ({ c with mode := (recMode c.mode).2 } :: cs) := by
  obtain ⟨fn, tmps, todo, defers, mode, kind, ro⟩ := c
  cases mode with
  | run => rfl
  | returning => rfl
  | panicking ch =>
    cases ch with
    | nil => rfl
    | cons p older =>
      obtain ⟨v, r, g⟩ := p
      cases r <;> cases g <;> rfl

/-- A deferred function whose first operation is recover(). -/
theorem retD {f : FuncId} {fn : Func} {c₀ : Code} {id d : Nat} {o : Oper} {args : List Value} {u : FrameMode} {R : World → Prop} (hn : fn.ntmps = nt) (hf : P.funcs[f]? = some fn)
    (h : CE none P c₀ (bodyPost P fn (fun e w' => ∃ v, e = .returned v ∧ R w')) nt [] ((d, (recMode u).1) :: env0 0 args) w)
    (hb : fn.body = some (.seq (.region id #[o] false) c₀) := by rfl) (hr : ∀ ρ (w : World), (execOp ρ o).run P w = .ok .recover w := by intro _ _; rfl) (hg : o.guard = none := by rfl) (hd : o.dst = some d := by rfl)
    (hlt : Nat.blt d nt = true := by rfl) (hl : Nat.ble args.length nt = true := by rfl) : RetD P f args.toArray u (recMode u).2 w R := by
  refine callsDIn_of_wpSIn (F := FW none) (n := 0) hf hb trivial ?_
  intro c cs hm
  refine wpSIn_seq (wpSIn_region ?_)
  show (∀ f', o.about P w _ = some f' → (FW none).fn f') ∧ _
  refine ⟨fun _ _ => trivial, ?_⟩
  have hw : Region.wanted o (yielded #[o] (args.toArray ++ Array.replicate (fn.ntmps - args.toArray.size) undef)) = true := by
    unfold Region.wanted
    rw [hg]
  show (if Region.wanted o (yielded #[o] (args.toArray ++ Array.replicate (fn.ntmps - args.toArray.size) undef)) = true then _ else _)
  rw [if_pos hw]
  show (match (execOp _ o).run P w with | .ok .recover w' => _ | .ok (.value v) w' => _ | .ok .skip w' => _ | .halt (.panic v) w' => _ | _ => False)
  rw [hr]
  show (match recoverD (c :: cs) with | some (v, cs') => wpOpsSIn (FW none) 0 P #[o] _ [] (Act.put _ o.dst v) cs' w | none => wpOpsSIn (FW none) 0 P #[o] _ [] (Act.put _ o.dst .nilIface) (c :: cs) w)
  rw [recover_eq c cs (fun v cs' => wpOpsSIn (FW none) 0 P #[o] (Exit.thenS (c₀.wpSIn (FW none) 0 P (bodyPostS P fn c cs fun e u'' w' => u'' = (recMode u).2 ∧ (∃ v, e = .returned v) ∧ R w')) (bodyPostS P fn c cs fun e u'' w' => u'' = (recMode u).2 ∧ (∃ v, e = .returned v) ∧ R w')) [] (Act.put _ o.dst v) cs' w)]
  rw [hm, hd, hn]
  refine wpSIn_of_wpIn rfl (wpIn_mono (h _ ((fr0 hl).put (Nat.lt_of_succ_le (Nat.le_of_ble_eq_true hlt)) _)) ?_)
  rintro e a' w' hq
  cases e with
  | normal => obtain ⟨hdf, v, hrr, v', he, hR⟩ := hq; exact ⟨hdf, _, rfl, v, hrr, rfl, ⟨v, rfl⟩, hR⟩
  | ret => obtain ⟨hdf, v, hrr, v', he, hR⟩ := hq; exact ⟨hdf, _, rfl, v, hrr, rfl, ⟨v, rfl⟩, hR⟩
  | panic ch => obtain ⟨hdf, v, he, hR⟩ := hq; cases he
  | exit id => exact hq.elim
  | goto l => exact hq.elim
  | outgrown => obtain ⟨v, he, hR⟩ := hq; cases he
end Go.SL
